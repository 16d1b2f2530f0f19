import Derived.Test.YtcllfbhlnjgomaaGreatDoorAmC
set_option linter.unusedVariables false
set_option linter.unusedSimpArgs false
/-!
  THE ABSTRACT MACHINE, part D: a list grows in its place, or in a new one.
-/
namespace Go.Am
open Go Go.RowKit

def Gh.setTok (g : Gh) (t : Nat) (i : TokI) (f : Nat → Nat → Prop) : Gh := { g with tok := fun k => if k = t then i else g.tok k, fix := fun b j => g.fix b j ∨ f b j }

/-- In its place. -/
theorem Rel.growIn {g : Gh} {s : St} {w w' : World} {t k : Nat} {us : List Value} {C C' : Array Value} {T : TypeId} (h : Rel g s w) (ht : g.tuse t)
    (hC : w.heap[(g.tok t).b]? = some (.cells C T (0, 0))) (hb : But (g.tok t).b w w') (hC' : w'.heap[(g.tok t).b]? = some (.cells C' T (0, 0))) (hsz : C'.size = C.size)
    (hl : us.length = k * (g.tok t).size) (hk : (g.tok t).n + k ≤ (g.tok t).cap) (hk0 : 0 < k)
    (hold : ∀ j, j < (g.tok t).o + (g.tok t).n * (g.tok t).size → C'[j]? = C[j]?) (hnew : ∀ j u, us[j]? = some u → C'[(g.tok t).o + (g.tok t).n * (g.tok t).size + j]? = some u) :
    ∃ g', Ext g w g' w' ∧ Rel g' (s.putT t ((g.tok t).n + k)) w' ∧ Row g' w' (g.tok t).b ((g.tok t).o + (g.tok t).n * (g.tok t).size) us ∧
      g'.tuse t ∧ g'.tok t = { g.tok t with n := (g.tok t).n + k } := by
  obtain ⟨i, hi⟩ : ∃ i, i = g.tok t := ⟨_, rfl⟩
  rw [← hi] at hC hb hC' hl hk hold hnew ⊢
  have hok := h.tok_of ht
  rw [← hi] at hok
  obtain ⟨m, hm⟩ := Option.isSome_iff_exists.1 (h.tused t ht)
  have hmul : (i.n + k) * i.size = i.n * i.size + k * i.size := Nat.add_mul _ _ _
  let f : Nat → Nat → Prop := fun b j => b = i.b ∧ i.o + i.n * i.size ≤ j ∧ j < i.o + (i.n + k) * i.size
  have htk : ∀ u, u ≠ t → (g.setTok t { i with n := i.n + k } f).tok u = g.tok u := fun u hu => by simp [Gh.setTok, hu]
  have htt : (g.setTok t { i with n := i.n + k } f).tok t = { i with n := i.n + k } := by simp [Gh.setTok]
  obtain ⟨C0, T0, g1, g2⟩ := hok.cells
  rw [hC] at g1; cases g1
  have hblt := (Array.getElem?_eq_some_iff.1 hC).1
  have hcell : ∀ b j, g.fix b j → w'.cell? ⟨b, j, none⟩ = w.cell? ⟨b, j, none⟩ := fun b j hf => by
    by_cases e : b = i.b
    · subst e
      have hlt : j < i.o + i.n * i.size := by
        rcases Nat.lt_or_ge j (i.o + i.n * i.size) with h1 | h1
        · exact h1
        · exact absurd hf (hok.spare j h1)
      simp [World.cell?, hC, hC', hold j hlt]
    · exact hb.cell (h.fixs b j hf) e
  have ext : Ext g w (g.setTok t { i with n := i.n + k } f) w' := by
    refine ⟨rfl, hb.below h.top hok.old, fun _ h => h, fun _ _ => rfl, fun _ _ h => .inl h, fun b j hlt hf => ?_, hcell, fun _ h => h, fun u hu => ?_⟩
    · rcases hf with hf | ⟨rfl, _⟩
      · exact hf
      · exact absurd hlt (Nat.not_lt.2 hok.old)
    · by_cases e : u = t
      · subst e; right; rw [htt, ← hi]; show i.n < i.n + k; omega
      · left; exact htk u e
  have hget : ∀ u, (s.putT t (i.n + k)).tok u = if u = t then some (i.n + k) else s.tok u := fun u => lookL_putL hm u
  refine ⟨_, ext, ⟨Nat.le_trans h.top hb.size, fun x o hx => ?_, h.used, h.inj, fun x hx j hf => ?_, fun u n hu => ?_, fun u hu => ?_, fun a b ha hb' e => ?_, fun x u hx hu => ?_, fun b j hf => ?_⟩, fun j u hj => ?_, ht, htt⟩
  · obtain ⟨h1, h2, h3⟩ := h.objs x o hx
    refine ⟨h1, h2, ?_⟩
    show ORep _ _ o w'.heap[g.blk x]?
    rw [hb.block _ h3.lt (fun e => h.apart x t h1 ht (by rw [← hi]; exact e))]
    exact h3.ext ext
  · rcases hf with hf | ⟨e, _⟩
    · exact h.free x hx j hf
    · exact h.apart x t hx ht (by rw [← hi]; exact e)
  · rw [hget] at hu
    split at hu
    · rename_i e; subst e; cases hu
      refine ⟨ht, by rw [htt], ?_⟩
      rw [htt]
      refine ⟨hok.old, ⟨C', T, hC', by rw [hsz]; exact g2⟩, hk, hok.most, fun j hj hf => ?_⟩
      rcases hf with hf | ⟨_, _, h2⟩
      · refine hok.spare j (Nat.le_trans ?_ hj) hf
        show i.o + i.n * i.size ≤ i.o + (i.n + k) * i.size
        omega
      · have : i.o + (i.n + k) * i.size ≤ j := hj
        omega
    · rename_i e
      obtain ⟨h1, h2, h3⟩ := h.toks u n hu
      have hne : (g.tok u).b ≠ i.b := fun e2 => e (h.tinj u t h1 ht (by rw [← hi]; exact e2))
      refine ⟨h1, by rw [htk u e]; exact h2, ?_⟩
      rw [htk u e]
      refine ⟨h3.old, ?_, h3.room, h3.most, fun j hj hf => ?_⟩
      · rw [hb.block _ (h.tok_lt h1) hne]; exact h3.cells
      · rcases hf with hf | ⟨e2, _⟩
        · exact h3.spare j hj hf
        · exact hne e2
  · rw [hget]; split
    · rfl
    · exact h.tused u hu
  · by_cases ea : a = t <;> by_cases eb : b = t
    · rw [ea, eb]
    · subst ea; rw [htt, htk b eb] at e; exact h.tinj a b ha hb' (by rw [← hi]; exact e)
    · subst eb; rw [htt, htk a ea] at e; exact h.tinj a b ha hb' (by rw [← hi]; exact e)
    · rw [htk a ea, htk b eb] at e; exact h.tinj a b ha hb' e
  · by_cases e : u = t
    · subst e; rw [htt]; have := h.apart x u hx hu; rw [← hi] at this; exact this
    · rw [htk u e]; exact h.apart x u hx hu
  · rcases hf with hf | ⟨rfl, _⟩
    · exact Nat.lt_of_lt_of_le (h.fixs b j hf) hb.size
    · exact Nat.lt_of_lt_of_le hblt hb.size
  · have hlt := (List.getElem?_eq_some_iff.1 hj).1
    refine ⟨?_, .inr ⟨rfl, Nat.le_add_right _ _, ?_⟩⟩
    · simp only [World.cell?, hC']
      simpa using hnew j u hj
    · omega

/-- In a new place. -/
theorem Rel.growOut {g : Gh} {s : St} {w w' : World} {t k cap : Nat} {vs us rest : List Value} {T : TypeId} (h : Rel g s w) (ht : g.tuse t) (p : Push (.cells (vs ++ us ++ rest).toArray T (0, 0)) w w')
    (hv : vs.length = (g.tok t).n * (g.tok t).size) (hl : us.length = k * (g.tok t).size) (hr : (vs ++ us ++ rest).length = cap * (g.tok t).size) (hk : (g.tok t).n + k ≤ cap) (hm : cap ≤ maxLen) (hk0 : 0 < k) :
    ∃ g', Ext g w g' w' ∧ Rel g' (s.putT t ((g.tok t).n + k)) w' ∧ Row g' w' w.heap.size 0 (vs ++ us) ∧
      g'.tuse t ∧ g'.tok t = { b := w.heap.size, o := 0, cap := cap, size := (g.tok t).size, n := (g.tok t).n + k } := by
  obtain ⟨i, hi⟩ : ∃ i, i = g.tok t := ⟨_, rfl⟩
  rw [← hi] at hv hl hr hk ⊢
  obtain ⟨m, hm'⟩ := Option.isSome_iff_exists.1 (h.tused t ht)
  have hmul : (i.n + k) * i.size = i.n * i.size + k * i.size := Nat.add_mul _ _ _
  obtain ⟨N, hN⟩ : ∃ N : TokI, N = { b := w.heap.size, o := 0, cap := cap, size := i.size, n := i.n + k } := ⟨_, rfl⟩
  rw [← hN]
  let f : Nat → Nat → Prop := fun b j => b = w.heap.size ∧ j < (vs ++ us).length
  have hf : ∀ b j, b < w.heap.size → ((g.setTok t N f).fix b j ↔ g.fix b j) := fun b j hb => ⟨fun h => h.resolve_right (fun h => by have := h.1; omega), .inl⟩
  have htk : ∀ u, u ≠ t → (g.setTok t N f).tok u = g.tok u := fun u hu => by simp [Gh.setTok, hu]
  have htt : (g.setTok t N f).tok t = N := by simp [Gh.setTok]
  have ext : Ext g w (g.setTok t N f) w' := by
    refine ⟨rfl, p.below h.top, fun _ h => h, fun _ _ => rfl, fun _ _ h => .inl h, fun b j hlt hx => (hf b j (Nat.lt_of_lt_of_le hlt h.top)).1 hx, fun b j hx => p.cell (h.fixs b j hx), fun _ h => h, fun u hu => ?_⟩
    by_cases e : u = t
    · subst e; right; rw [htt, ← hi, hN]; show i.n < i.n + k; omega
    · left; exact htk u e
  have hget : ∀ u, (s.putT t (i.n + k)).tok u = if u = t then some (i.n + k) else s.tok u := fun u => lookL_putL hm' u
  refine ⟨_, ext, ⟨by rw [p.size]; exact Nat.le_succ_of_le h.top, fun x o hx => ?_, h.used, h.inj, fun x hx j hx' => ?_, fun u n hu => ?_, fun u hu => ?_, fun a b ha hb' e => ?_, fun x u hx hu => ?_, fun b j hx => ?_⟩, fun j u hj => ?_, ht, htt⟩
  · obtain ⟨h1, h2, h3⟩ := h.objs x o hx
    refine ⟨h1, h2, ?_⟩
    show ORep _ _ o w'.heap[g.blk x]?
    rw [p.old h3.lt]; exact h3.ext ext
  · exact h.free x hx j ((hf _ _ (h.blk_lt hx)).1 hx')
  · rw [hget] at hu
    split at hu
    · rename_i e; subst e; cases hu
      refine ⟨ht, by rw [htt, hN], ?_⟩
      rw [htt, hN]
      refine ⟨h.top, ⟨_, T, p.new, ?_⟩, hk, hm, fun j hj hx => ?_⟩
      · simp only [List.size_toArray]; rw [hr]; omega
      · rcases hx with hx | ⟨_, h2⟩
        · exact absurd (h.fixs _ _ hx) (Nat.lt_irrefl _)
        · have h3 : 0 + (i.n + k) * i.size ≤ j := hj
          rw [List.length_append] at h2
          omega
    · rename_i e
      obtain ⟨h1, h2, h3⟩ := h.toks u n hu
      refine ⟨h1, by rw [htk u e]; exact h2, ?_⟩
      rw [htk u e]
      exact h3.push p rfl hf
  · rw [hget]; split
    · rfl
    · exact h.tused u hu
  · by_cases ea : a = t <;> by_cases eb : b = t
    · rw [ea, eb]
    · subst ea; rw [htt, htk b eb, hN] at e; have := h.tok_lt hb'; simp only at e; omega
    · subst eb; rw [htt, htk a ea, hN] at e; have := h.tok_lt ha; simp only at e; omega
    · rw [htk a ea, htk b eb] at e; exact h.tinj a b ha hb' e
  · by_cases e : u = t
    · subst e; rw [htt, hN]; have := h.blk_lt hx; intro e2; have e3 : g.blk x = w.heap.size := e2; omega
    · rw [htk u e]; exact h.apart x u hx hu
  · rw [p.size]
    rcases hx with hx | ⟨rfl, _⟩
    · exact Nat.lt_succ_of_lt (h.fixs b j hx)
    · exact Nat.lt_succ_self _
  · have hlt := (List.getElem?_eq_some_iff.1 hj).1
    refine ⟨?_, .inr ⟨rfl, by omega⟩⟩
    rw [Nat.zero_add, World.cell?, p.new]
    simp only [List.getElem?_toArray, Option.isSome_none, Bool.false_eq_true, if_false]
    rw [List.getElem?_append_left (by simpa using hlt)]
    simpa using hj

/-- A new list that may grow. -/
theorem Rel.fresh {g : Gh} {s : St} {w w' : World} {t n cap size : Nat} {vs rest : List Value} {T : TypeId} (h : Rel g s w) (ht : s.tok t = none) (p : Push (.cells (vs ++ rest).toArray T (0, 0)) w w')
    (hv : vs.length = n * size) (hr : (vs ++ rest).length = cap * size) (hk : n ≤ cap) (hm : cap ≤ maxLen) :
    ∃ g', Ext g w g' w' ∧ Rel g' (s.addT t n) w' ∧ Row g' w' w.heap.size 0 vs ∧ g'.tuse t ∧ g'.tok t = { b := w.heap.size, o := 0, cap := cap, size := size, n := n } := by
  obtain ⟨e1, r1, row⟩ := h.newRow p
  have ok : TokOk (g.addFix w.heap.size vs.length) w' { b := w.heap.size, o := 0, cap := cap, size := size, n := n } := by
    refine ⟨h.top, ⟨_, T, p.new, ?_⟩, hk, hm, fun j hj hx => ?_⟩
    · simp only [List.size_toArray]; rw [hr]; omega
    · rcases hx with hx | ⟨_, h2⟩
      · exact absurd (h.fixs _ _ hx) (Nat.lt_irrefl _)
      · have h3 : 0 + n * size ≤ j := hj
        omega
  obtain ⟨e2, r2⟩ := r1.newTok ht ok (fun k hk e => by have := h.blk_lt hk; have e3 : g.blk k = w.heap.size := e; omega) (fun u hu e => by have := h.tok_lt hu; have e3 : (g.tok u).b = w.heap.size := e; omega)
  exact ⟨_, e1.trans e2, r2, row.ext e2, .inr rfl, by simp [Gh.addTok]⟩

end Go.Am
