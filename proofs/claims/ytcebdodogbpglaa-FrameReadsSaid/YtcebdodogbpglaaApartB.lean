import Derived.Test.YtcebdodogbpglaaApartA
set_option linter.unusedVariables false
set_option maxRecDepth 100000
/-! THE BOOK's LISTS ARE APART: the growing. -/
namespace Go.Proofs.Ytcebdodogbpglaa.Put
open Go.ChangeShapes Go.WideShapes Go.ChangeAt Go.RowKit Mem Ink

/-- The first k lists are grown. -/
structure Grown (L : Nat → Nat) (c : Nat) (w0 : World) (kb : Nat) (E : List Ent) (k : Nat) (L1 : Nat → Nat) (w : World) (G O : List Value) : Prop where
  book : BookAt L1 c w kb (E.map (·.v)) (E.map (·.wv)) G O
  step : Step (Cl c E) L w0 L1 w
  len : G.length = O.length ∧ G.length = 9 * k
  grown : ∀ j, j < G.length → ∃ i, ∃ h : i < E.length, ∃ m v, O[j]? = some (.int .i64 i) ∧ G[j]? = some v ∧ i < k ∧ Hd L1 E[i].col w v m (mark i) none 0
  done : ∀ i (h : i < E.length), i < k → Hd L1 E[i].col w E[i].v E[i].bs.length (mark i) none 0
  ents : ∀ i (h : i < E.length), k ≤ i → Own L1 E[i].col w 5 1 E[i].v E[i].bs.length (List.replicate E[i].bs.length (mark i))
  apart : ∀ i (h : i < E.length), ¬ Bc c E[i].col

/-- The k-th list is grown n times: 'b'. -/
structure Growing (L : Nat → Nat) (c : Nat) (w0 : World) (kb : Nat) (E : List Ent) (k : Nat) (hk : k < E.length) (n t : Nat) (b : Value) (L1 : Nat → Nat) (w : World) (G O : List Value) : Prop where
  book : BookAt L1 c w kb (E.map (·.v)) (E.map (·.wv)) G O
  step : Step (Cl c E) L w0 L1 w
  len : G.length = O.length ∧ G.length = 9 * k + t
  grown : ∀ j, j < G.length → ∃ i, ∃ h : i < E.length, ∃ m v, O[j]? = some (.int .i64 i) ∧ G[j]? = some v ∧ ((i < k ∧ Hd L1 E[i].col w v m (mark i) none 0) ∨ (i = k ∧ Hd L1 E[i].col w v m (mark i) b.ownBlock (E[k].bs.length + n)))
  done : ∀ i (h : i < E.length), i < k → Hd L1 E[i].col w E[i].v E[i].bs.length (mark i) none 0
  this : Hd L1 E[k].col w E[k].v E[k].bs.length (mark k) b.ownBlock (E[k].bs.length + n)
  own : Own L1 E[k].col w 5 1 b (E[k].bs.length + n) (List.replicate (E[k].bs.length + n) (mark k))
  ents : ∀ i (h : i < E.length), k < i → Own L1 E[i].col w 5 1 E[i].v E[i].bs.length (List.replicate E[i].bs.length (mark i))
  apart : ∀ i (h : i < E.length), ¬ Bc c E[i].col

theorem Grown.begin {L L1 : Nat → Nat} {c kb k : Nat} {w0 w : World} {E : List Ent} {G O : List Value} (h : Grown L c w0 kb E k L1 w G O) (hk : k < E.length) : Growing L c w0 kb E k hk 0 0 E[k].v L1 w G O :=
  ⟨h.book, h.step, ⟨h.len.1, by have := h.len.2; omega⟩, fun j hj => by obtain ⟨i, hi, m, v, a, b, d, e⟩ := h.grown j hj; exact ⟨i, hi, m, v, a, b, .inl ⟨d, e⟩⟩, h.done, Hd.of_own (h.ents k hk (Nat.le_refl _)), h.ents k hk (Nat.le_refl _), fun i hi hlt => h.ents i hi (by omega), h.apart⟩

theorem Growing.finish {L L1 : Nat → Nat} {c kb k : Nat} {w0 w : World} {E : List Ent} {hk : k < E.length} {b : Value} {G O : List Value} (h : Growing L c w0 kb E k hk 9 9 b L1 w G O) : Grown L c w0 kb E (k + 1) L1 w G O := by
  refine ⟨h.book, h.step, ⟨h.len.1, by have := h.len.2; omega⟩, fun j hj => ?_, fun i hi hlt => ?_, fun i hi hle => h.ents i hi (by omega), h.apart⟩
  · obtain ⟨i, hi, m, v, a, b, d⟩ := h.grown j hj
    rcases d with ⟨d, e⟩ | ⟨d, e⟩
    · exact ⟨i, hi, m, v, a, b, by omega, e⟩
    · exact ⟨i, hi, m, v, a, b, by omega, e.loose⟩
  · by_cases e : i = k
    · subst e; exact h.this.loose
    · exact h.done i hi (by omega)

/-- 'b' is appended to. -/
theorem Growing.more {L L1 : Nat → Nat} {c kb k n t : Nat} {w0 w wA w2 : World} {E : List Ent} {hk : k < E.length} {b v2 : Value} {G O : List Value} (h : Growing L c w0 kb E k hk n t b L1 w G O)
    (hd : ∀ i j (hi : i < E.length) (hj : j < E.length), E[i].col = E[j].col → i = j) (hA : ∃ o, wA = w.alloc o)
    (hown : w2.ownsRow 0 5 1 v2 (E[k].bs.length + n + 1) (List.replicate (E[k].bs.length + n) (mark k) ++ [mark k])) (hg : wA.grownBy w2 b.ownBlock)
    (hblk : v2.ownBlock = b.ownBlock ∨ v2.ownBlock = some wA.heap.size) (hkeep : v2.ownBlock = b.ownBlock ∨ (∀ k, k < wA.heap.size → w2.heap[k]? = wA.heap[k]?)) :
    ∃ L2, Growing L c w0 kb E k hk (n + 1) t v2 L2 w2 G O := by
  obtain ⟨o, rfl⟩ := hA
  obtain ⟨L2, S2, o2, s2⟩ := Own.grown h.step (show Cl c E E[k].col from .inr ⟨k, hk, rfl⟩) h.own (below_alloc w o) hown hg hblk
  have hKp : Keeps (w.alloc o) w2 b (E[k].bs.length + n) := keeps_of (h.own.1.alloc _) hown hg hkeep
  have h0 : ∀ q u, w.cell? q = some u → (w.alloc o).cell? q = some u := fun q u hq => ((below_alloc w o).cell (p := q) (World.block_lt_of_cell? w _ hq)).trans hq
  have hb : v2.ownBlock = b.ownBlock ∨ ∃ s, v2.ownBlock = some s ∧ w.heap.size ≤ s := by
    rcases hblk with e | e
    · exact .inl e
    · exact .inr ⟨_, e, by simp⟩
  have hne : ∀ i (hi : i < E.length), i ≠ k → ¬ (fun d => d = E[k].col) E[i].col := fun i hi hn e => hn (hd i k hi hk e)
  refine ⟨L2, h.book.step s2 (fun d e hB => h.apart k hk (by rw [← (show d = E[k].col from e)]; exact hB)), S2, h.len, fun j hj => ?_, fun i hi hlt => (h.done i hi hlt).step s2 (hne i hi (by omega)), ?_, ?_, fun i hi hlt => (h.ents i hi hlt).step s2 (hne i hi (by omega)), h.apart⟩
  · obtain ⟨i, hi, m, v, a, e, d⟩ := h.grown j hj
    rcases d with ⟨d, f⟩ | ⟨d, f⟩
    · exact ⟨i, hi, m, v, a, e, .inl ⟨d, f.step s2 (hne i hi (by omega))⟩⟩
    · exact ⟨i, hi, m, v, a, e, .inr ⟨d, Hd.append (k := 1) f s2.col h0 hKp hb⟩⟩
  · exact Hd.append (k := 1) h.this s2.col h0 hKp hb
  · have : List.replicate (E[k].bs.length + n) (mark k) ++ [mark k] = List.replicate (E[k].bs.length + (n + 1)) (mark k) := by rw [← List.replicate_succ']; rfl
    rw [this] at o2; exact o2

/-- 'b' is written down, and which list it is of. -/
theorem Growing.note {L L1 L2 : Nat → Nat} {c kb k n t : Nat} {w0 w w2 : World} {E : List Ent} {hk : k < E.length} {b : Value} {G O : List Value} (h : Growing L c w0 kb E k hk n t b L1 w G O)
    (st : Step (Bc c) L1 w L2 w2) (hB : BookAt L2 c w2 kb (E.map (·.v)) (E.map (·.wv)) (G ++ [b]) (O ++ [.int .i64 k])) : Growing L c w0 kb E k hk n (t + 1) b L2 w2 (G ++ [b]) (O ++ [.int .i64 k]) := by
  refine ⟨hB, h.step.trans (st.mono fun d e => .inl e), ⟨by simp [h.len.1], by have := h.len.2; simp; omega⟩, fun j hj => ?_, fun i hi hlt => (h.done i hi hlt).step st (h.apart i hi), h.this.step st (h.apart k hk), h.own.step st (h.apart k hk), fun i hi hlt => (h.ents i hi hlt).step st (h.apart i hi), h.apart⟩
  by_cases e : j < G.length
  · obtain ⟨i, hi, m, v, a, f, d⟩ := h.grown j e
    refine ⟨i, hi, m, v, by rw [List.getElem?_append_left (by rw [← h.len.1]; exact e)]; exact a, by rw [List.getElem?_append_left e]; exact f, ?_⟩
    rcases d with ⟨d, g⟩ | ⟨d, g⟩
    · exact .inl ⟨d, g.step st (h.apart i hi)⟩
    · exact .inr ⟨d, g.step st (h.apart i hi)⟩
  · have ej : j = G.length := by simp at hj; omega
    refine ⟨k, hk, E[k].bs.length + n, b, by rw [ej, h.len.1]; simp, by rw [ej]; simp, .inr ⟨rfl, (Hd.of_own h.own).step st (h.apart k hk)⟩⟩

end Go.Proofs.Ytcebdodogbpglaa.Put
