import Derived.Test.YtcllfbhlnjgomaaGreatDoorAmB
set_option linter.unusedVariables false
set_option linter.unusedSimpArgs false
/-!
  THE ABSTRACT MACHINE, part C: new blocks; lists that grow.
-/
namespace Go.Am
open Go Go.RowKit

/-- The same memory. -/
structure Same (w w' : World) : Prop where
  heap : w'.heap = w.heap
  os : w'.os = w.os
  tape : w'.tape = w.tape
  output : w'.output = w.output

theorem Same.refl (w : World) : Same w w := ⟨rfl, rfl, rfl, rfl⟩
theorem Same.cell {w w' : World} (h : Same w w') (a : Addr) : w'.cell? a = w.cell? a := by unfold World.cell?; rw [h.heap]
theorem Same.below {w w' : World} (h : Same w w') (B : Nat) : Below B w w' := ⟨h.os, h.tape, h.output, by rw [h.heap]; exact Nat.le_refl _, fun k _ => by rw [h.heap]⟩

theorem Rel.same {g : Gh} {s : St} {w w' : World} (h : Rel g s w) (e : Same w w') : Ext g w g w' ∧ Rel g s w' := by
  have ext : Ext g w g w' := ⟨rfl, e.below _, fun _ h => h, fun _ _ => rfl, fun _ _ h => h, fun _ _ _ h => h, fun b j _ => e.cell _, fun _ h => h, fun _ _ => .inl rfl⟩
  refine ⟨ext, by rw [e.heap]; exact h.top, fun i o hi => ?_, h.used, h.inj, h.free, fun t n ht => ?_, h.tused, h.tinj, h.apart, by rw [e.heap]; exact h.fixs⟩
  · obtain ⟨h1, h2, h3⟩ := h.objs i o hi
    exact ⟨h1, h2, by rw [e.heap]; exact h3.ext ext⟩
  · obtain ⟨h1, h2, h3⟩ := h.toks t n ht
    exact ⟨h1, h2, h3.old, by rw [e.heap]; exact h3.cells, h3.room, h3.most, h3.spare⟩

/-- One block has come. -/
structure Push (o : Obj) (w w' : World) : Prop where
  heap : w'.heap = w.heap.push o
  os : w'.os = w.os
  tape : w'.tape = w.tape
  output : w'.output = w.output

theorem Push.of {o : Obj} {w w1 w' : World} (h : Same w w1) (k : w' = w1.alloc o) : Push o w w' := by
  subst k; exact ⟨by simp [World.alloc, h.heap], h.os, h.tape, h.output⟩
theorem Push.old {o : Obj} {w w' : World} (h : Push o w w') {k : Nat} (hk : k < w.heap.size) : w'.heap[k]? = w.heap[k]? := by
  rw [h.heap, Array.getElem?_push]; simp [Nat.ne_of_lt hk]
theorem Push.new {o : Obj} {w w' : World} (h : Push o w w') : w'.heap[w.heap.size]? = some o := by rw [h.heap]; simp
theorem Push.size {o : Obj} {w w' : World} (h : Push o w w') : w'.heap.size = w.heap.size + 1 := by rw [h.heap]; simp
theorem Push.below {o : Obj} {w w' : World} (h : Push o w w') {B : Nat} (hB : B ≤ w.heap.size) : Below B w w' :=
  ⟨h.os, h.tape, h.output, by rw [h.size]; omega, fun k hk => h.old (by omega)⟩
theorem Push.cell {o : Obj} {w w' : World} (h : Push o w w') {b j : Nat} (hb : b < w.heap.size) : w'.cell? ⟨b, j, none⟩ = w.cell? ⟨b, j, none⟩ := World.cell?_of_block (h.old hb)

/-- A ghost that says more of new things alone. -/
theorem Rel.pushed {g g' : Gh} {s : St} {w w' : World} {o : Obj} (h : Rel g s w) (p : Push o w w') (hb : g'.base = g.base) (hu : ∀ i, g.use i → g'.use i) (hbl : ∀ i, g.use i → g'.blk i = g.blk i)
    (hf : ∀ b j, b < w.heap.size → (g'.fix b j ↔ g.fix b j)) (ht : ∀ t, g.tuse t → g'.tuse t) (htk : ∀ t, g.tuse t → g'.tok t = g.tok t) : Ext g w g' w' :=
  ⟨hb, p.below h.top, hu, hbl, fun b j hx => (hf b j (h.fixs b j hx)).2 hx, fun b j hlt hx => (hf b j (Nat.lt_of_lt_of_le hlt h.top)).1 hx, fun b j hx => p.cell (h.fixs b j hx), ht, fun t hx => .inl (htk t hx)⟩

theorem TokOk.push {g g' : Gh} {w w' : World} {o : Obj} {i : TokI} (h : TokOk g w i) (p : Push o w w') (hb : g'.base = g.base) (hf : ∀ b j, b < w.heap.size → (g'.fix b j ↔ g.fix b j)) : TokOk g' w' i := by
  obtain ⟨C, T, h1, h2⟩ := h.cells
  have hlt := (Array.getElem?_eq_some_iff.1 h1).1
  exact ⟨by rw [hb]; exact h.old, ⟨C, T, by rw [p.old hlt]; exact h1, h2⟩, h.room, h.most, fun j hj hx => h.spare j hj ((hf _ _ hlt).1 hx)⟩

def Gh.addObj (g : Gh) (i b : Nat) : Gh := { g with use := fun k => g.use k ∨ k = i, blk := fun k => if k = i then b else g.blk k }

/-- A new object. -/
theorem Rel.newObj {g : Gh} {s : St} {w w' : World} {i : Nat} {o : AObj} {ob : Obj} (h : Rel g s w) (hi : s.get i = none) (p : Push ob w w') (ho : ORep g w o (some ob)) :
    Ext g w (g.addObj i w.heap.size) w' ∧ Rel (g.addObj i w.heap.size) (s.add i o) w' ∧ (g.addObj i w.heap.size).use i ∧ (g.addObj i w.heap.size).blk i = w.heap.size := by
  have hnu : ¬ g.use i := fun hu => by have := h.used i hu; rw [hi] at this; cases this
  have hne : ∀ k, g.use k → k ≠ i := fun k hk e => hnu (e ▸ hk)
  have hbl : ∀ k, g.use k → (g.addObj i w.heap.size).blk k = g.blk k := fun k hk => by simp [Gh.addObj, hne k hk]
  have ext : Ext g w (g.addObj i w.heap.size) w' := h.pushed p rfl (fun _ h => .inl h) hbl (fun _ _ _ => Iff.rfl) (fun _ h => h) (fun _ _ => rfl)
  have hget : ∀ k, (s.add i o).get k = if k = i then some o else s.get k := fun k => lookL_insL i o s.objs k
  refine ⟨ext, ⟨by rw [p.size]; exact Nat.le_succ_of_le h.top, fun k x hk => ?_, fun k hk => ?_, fun a b ha hb e => ?_, fun k hk j hf => ?_, fun t m ht => ?_, h.tused, h.tinj, fun k t hk ht => ?_, fun b j hf => by rw [p.size]; exact Nat.lt_succ_of_lt (h.fixs b j hf)⟩, .inr rfl, by simp [Gh.addObj]⟩
  · rw [hget] at hk
    split at hk
    · rename_i e; subst e; cases hk
      refine ⟨.inr rfl, ?_, ?_⟩
      · simp only [Gh.addObj, if_true]; exact h.top
      · simp only [Gh.addObj, if_true]; rw [p.new]; exact ho.ext ext
    · rename_i e
      obtain ⟨h1, h2, h3⟩ := h.objs k x hk
      refine ⟨.inl h1, by rw [hbl k h1]; exact h2, ?_⟩
      rw [hbl k h1, p.old h3.lt]
      exact h3.ext ext
  · rw [hget]; split
    · rfl
    · rename_i e; exact h.used k (hk.resolve_right e)
  · rcases ha with ha | rfl <;> rcases hb with hb | rfl
    · rw [hbl _ ha, hbl _ hb] at e; exact h.inj _ _ ha hb e
    · rw [hbl _ ha] at e; simp only [Gh.addObj, if_true] at e; have := h.blk_lt ha; omega
    · rw [hbl _ hb] at e; simp only [Gh.addObj, if_true] at e; have := h.blk_lt hb; omega
    · rfl
  · rcases hk with hk | rfl
    · rw [hbl _ hk] at hf; exact h.free _ hk j hf
    · simp only [Gh.addObj, if_true] at hf; exact absurd (h.fixs _ _ hf) (Nat.lt_irrefl _)
  · obtain ⟨h1, h2, h3⟩ := h.toks t m ht
    exact ⟨h1, h2, h3.push p rfl (fun _ _ _ => Iff.rfl)⟩
  · rcases hk with hk | rfl
    · rw [hbl _ hk]; exact h.apart _ _ hk ht
    · simp only [Gh.addObj, if_true]; have := h.tok_lt ht; exact fun e => by omega

def Gh.addFix (g : Gh) (b n : Nat) : Gh := { g with fix := fun x j => g.fix x j ∨ x = b ∧ j < n }

/-- A new row that never changes; what lies behind its first cells is nobody's. -/
theorem Rel.newRow {g : Gh} {s : St} {w w' : World} {vs rest : List Value} {T : TypeId} (h : Rel g s w) (p : Push (.cells (vs ++ rest).toArray T (0, 0)) w w') :
    Ext g w (g.addFix w.heap.size vs.length) w' ∧ Rel (g.addFix w.heap.size vs.length) s w' ∧ Row (g.addFix w.heap.size vs.length) w' w.heap.size 0 vs := by
  have hf : ∀ b j, b < w.heap.size → ((g.addFix w.heap.size vs.length).fix b j ↔ g.fix b j) := fun b j hb => ⟨fun h => h.resolve_right (fun h => by omega), .inl⟩
  have ext : Ext g w (g.addFix w.heap.size vs.length) w' := h.pushed p rfl (fun _ h => h) (fun _ _ => rfl) hf (fun _ h => h) (fun _ _ => rfl)
  refine ⟨ext, ⟨by rw [p.size]; exact Nat.le_succ_of_le h.top, fun k x hk => ?_, h.used, h.inj, fun k hk j hx => ?_, fun t m ht => ?_, h.tused, h.tinj, h.apart, fun b j hx => ?_⟩, fun j u hj => ?_⟩
  · obtain ⟨h1, h2, h3⟩ := h.objs k x hk
    refine ⟨h1, h2, ?_⟩
    show ORep _ _ x w'.heap[g.blk k]?
    rw [p.old h3.lt]; exact h3.ext ext
  · exact h.free k hk j ((hf _ _ (h.blk_lt hk)).1 hx)
  · obtain ⟨h1, h2, h3⟩ := h.toks t m ht
    exact ⟨h1, h2, h3.push p rfl hf⟩
  · rw [p.size]
    rcases hx with hx | ⟨rfl, _⟩
    · exact Nat.lt_succ_of_lt (h.fixs b j hx)
    · exact Nat.lt_succ_self _
  · have hlt := (List.getElem?_eq_some_iff.1 hj).1
    refine ⟨?_, .inr ⟨rfl, by omega⟩⟩
    rw [Nat.zero_add, World.cell?, p.new]
    simp [List.getElem?_append_left hlt, hj]

def Gh.addTok (g : Gh) (t : Nat) (i : TokI) : Gh := { g with tuse := fun k => g.tuse k ∨ k = t, tok := fun k => if k = t then i else g.tok k }

/-- The row is the head of a list that may grow. -/
theorem Rel.newTok {g : Gh} {s : St} {w : World} {t : Nat} {i : TokI} (h : Rel g s w) (ht : s.tok t = none) (ok : TokOk g w i) (hobj : ∀ k, g.use k → g.blk k ≠ i.b) (hother : ∀ u, g.tuse u → (g.tok u).b ≠ i.b) :
    Ext g w (g.addTok t i) w ∧ Rel (g.addTok t i) (s.addT t i.n) w := by
  have hnu : ¬ g.tuse t := fun hu => by have := h.tused t hu; rw [ht] at this; cases this
  have hne : ∀ k, g.tuse k → k ≠ t := fun k hk e => hnu (e ▸ hk)
  have htk : ∀ k, g.tuse k → (g.addTok t i).tok k = g.tok k := fun k hk => by simp [Gh.addTok, hne k hk]
  have ext : Ext g w (g.addTok t i) w := ⟨rfl, Below.refl _ _, fun _ h => h, fun _ _ => rfl, fun _ _ h => h, fun _ _ _ h => h, fun _ _ _ => rfl, fun _ h => .inl h, fun k hk => .inl (htk k hk)⟩
  have hget : ∀ k, (s.addT t i.n).tok k = if k = t then some i.n else s.tok k := fun k => lookL_insL t i.n s.toks k
  refine ⟨ext, ⟨h.top, fun k x hk => ?_, h.used, h.inj, h.free, fun k n hk => ?_, fun k hk => ?_, fun a b ha hb e => ?_, fun k u hk hu => ?_, h.fixs⟩⟩
  · obtain ⟨h1, h2, h3⟩ := h.objs k x hk
    exact ⟨h1, h2, h3.ext ext⟩
  · rw [hget] at hk
    split at hk
    · rename_i e; subst e; cases hk
      refine ⟨.inr rfl, by simp [Gh.addTok], ?_⟩
      simp only [Gh.addTok, if_true]
      exact ⟨ok.old, ok.cells, ok.room, ok.most, ok.spare⟩
    · obtain ⟨h1, h2, h3⟩ := h.toks k n hk
      refine ⟨.inl h1, by rw [htk k h1]; exact h2, ?_⟩
      rw [htk k h1]; exact ⟨h3.old, h3.cells, h3.room, h3.most, h3.spare⟩
  · rw [hget]; split
    · rfl
    · rename_i e; exact h.tused k (hk.resolve_right e)
  · rcases ha with ha | rfl <;> rcases hb with hb | rfl
    · rw [htk _ ha, htk _ hb] at e; exact h.tinj _ _ ha hb e
    · rw [htk _ ha] at e; simp only [Gh.addTok, if_true] at e; exact absurd e (hother _ ha)
    · rw [htk _ hb] at e; simp only [Gh.addTok, if_true] at e; exact absurd e.symm (hother _ hb)
    · rfl
  · rcases hu with hu | rfl
    · rw [htk _ hu]; exact h.apart _ _ hk hu
    · simp only [Gh.addTok, if_true]; exact hobj k hk

end Go.Am
