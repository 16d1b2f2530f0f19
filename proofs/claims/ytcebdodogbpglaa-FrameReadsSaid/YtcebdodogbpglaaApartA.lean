import Derived.Test.YtcebdodogbpglaaBook
import Derived.Test.YtcebdodogbpglaaMemF
import Derived.BigQuiet
import Derived.Deep.QuietTactic
set_option linter.unusedVariables false
set_option maxRecDepth 100000
/-! THE BOOK's LISTS ARE APART. -/
namespace Go.Proofs.Ytcebdodogbpglaa.Put
open Go.ChangeShapes Go.WideShapes Go.ChangeAt Go.RowKit Mem Ink

/-- What came out: a list with bytes, in memory of its own colour; what it must be. -/
structure Ent where
  v : Value
  bs : List UInt8
  col : Nat
  wv : Value
  wcol : Nat

/-- Read at one value throughout; what lies in block 'bb' lies ahead of n. -/
def Hd (L : Nat → Nat) (col : Nat) (w : World) (v : Value) (m : Nat) (x : Value) (bb : Option Nat) (n : Nat) : Prop :=
  ∃ p cap, v = .slice p m cap ∧ m ≤ cap ∧ cap ≤ maxLen ∧ ∀ j, j < m → ∃ g, p = some ⟨g, 0, none⟩ ∧ L g = col ∧ w.cell? ⟨g, j, none⟩ = some x ∧ (bb = some g → j < n)

theorem Hd.of_own {L : Nat → Nat} {col m : Nat} {w : World} {v x : Value} (h : Own L col w 5 1 v m (List.replicate m x)) : Hd L col w v m x v.ownBlock m := by
  obtain ⟨p, cap, hv, hn, hm, _, hc⟩ := ownsRow_shape h.1
  refine ⟨p, cap, hv, hn, hm, fun j hj => ?_⟩
  obtain ⟨b, hp, hb, hcell⟩ := hc j x (by simp [hj])
  exact ⟨b, hp, h.2 b hb, hcell, fun _ => hj⟩

theorem Hd.step {L L' : Nat → Nat} {C : Nat → Prop} {col m n : Nat} {w w' : World} {v x : Value} {bb : Option Nat} (h : Hd L col w v m x bb n) (st : Step C L w L' w') (hC : ¬ C col) : Hd L' col w' v m x bb n := by
  obtain ⟨p, cap, hv, hn, hm, hc⟩ := h
  refine ⟨p, cap, hv, hn, hm, fun j hj => ?_⟩
  obtain ⟨g, hp, hL, hcell, hb⟩ := hc j hj
  exact ⟨g, hp, (st.col g (World.block_lt_of_cell? w _ hcell)).trans hL, st.cell hcell (by rw [show ((⟨g, j, none⟩ : Addr).block) = g from rfl, hL]; exact hC), hb⟩

theorem Hd.loose {L : Nat → Nat} {col m n : Nat} {w : World} {v x : Value} {bb : Option Nat} (h : Hd L col w v m x bb n) : Hd L col w v m x none 0 := by
  obtain ⟨p, cap, hv, hn, hm, hc⟩ := h
  exact ⟨p, cap, hv, hn, hm, fun j hj => by obtain ⟨g, a, b, c, _⟩ := hc j hj; exact ⟨g, a, b, c, fun e => by cases e⟩⟩

/-- Behind an append onto the list in block 'bb'. -/
theorem Hd.append {L L' : Nat → Nat} {col m n k : Nat} {w w0 w' : World} {v x b b' : Value} (h : Hd L col w v m x b.ownBlock n) (hL : ∀ i, i < w.heap.size → L' i = L i) (h0 : ∀ q u, w.cell? q = some u → w0.cell? q = some u) (hk : Keeps w0 w' b n)
    (hb : b'.ownBlock = b.ownBlock ∨ ∃ s, b'.ownBlock = some s ∧ w.heap.size ≤ s) : Hd L' col w' v m x b'.ownBlock (n + k) := by
  obtain ⟨p, cap, hv, hn, hm, hc⟩ := h
  refine ⟨p, cap, hv, hn, hm, fun j hj => ?_⟩
  obtain ⟨g, hp, hLg, hcell, hbb⟩ := hc j hj
  have hlt : g < w.heap.size := World.block_lt_of_cell? w _ hcell
  refine ⟨g, hp, (hL g hlt).trans hLg, hk g j x (h0 _ _ hcell) hbb, fun e => ?_⟩
  rcases hb with hb | ⟨s, hs, hs2⟩
  · have := hbb (hb ▸ e); omega
  · rw [hs] at e; cases e; omega

theorem quiet_more {P : Program} {f : FuncId} {args : Array Value} {w : World} {n : Nat} {v : Value}
    (h : Calls P f args (w.drewN n) fun e w' => e = .returned v ∧ ∃ k, w' = (w.drewN n).drewN k) : Calls P f args (w.drewN n) fun e w'' => e = .returned v ∧ ∃ m, w'' = w.drewN m :=
  h.mono fun _ _ ⟨he, k, hk⟩ => ⟨he, n + k, by rw [hk]; simp [World.drewN, Nat.add_assoc]⟩

/-- What the entries are ahead of 'apart'. -/
def Fresh (L : Nat → Nat) (c : Nat) (w : World) (E : List Ent) : Prop :=
  ∀ i (h : i < E.length), Own L E[i].col w 5 1 E[i].v E[i].bs.length (E[i].bs.map byt) ∧ Rd L E[i].wcol w 1 E[i].wv E[i].bs.length (E[i].bs.map byt) ∧ ¬ Bc c E[i].col

theorem Fresh.drewN {L : Nat → Nat} {c : Nat} {w : World} {E : List Ent} (h : Fresh L c w E) (k : Nat) : Fresh L c (w.drewN k) E := h

/-- The book's list of what came out. -/
theorem BookAt.all {L : Nat → Nat} {c kb : Nat} {w : World} {A W G O : List Value} (h : BookAt L c w kb A W G O) : ∃ pa ca, w.cell? ⟨kb, 0, none⟩ = some (.slice pa A.length ca) ∧ A.length ≤ ca ∧ ca ≤ maxLen ∧ ∀ j u, A[j]? = some u → ∃ b, pa = some ⟨b, 0, none⟩ ∧ w.cell? ⟨b, j, none⟩ = some u := by
  obtain ⟨va, vw, vg, vo, h0, h1, h2, h3, h4, h5⟩ := h
  obtain ⟨pa, ca, hva, hna, hma, _, ha⟩ := ownsRow_shape h2.1
  subst hva
  exact ⟨pa, ca, by rw [cell_of_heap h0]; simp, hna, hma, fun j u hj => by obtain ⟨b, e, _, hc⟩ := ha j u hj; exact ⟨b, e, hc⟩⟩

def Cl (c : Nat) (E : List Ent) (d : Nat) : Prop := Bc c d ∨ ∃ i, ∃ h : i < E.length, E[i].col = d
def mark (i : Nat) : Value := .int .u8 ((i : Int) % 256)

/-- The first k lists are written full. -/
structure Marked (L : Nat → Nat) (c : Nat) (w0 : World) (kb : Nat) (E : List Ent) (k : Nat) (w : World) : Prop where
  book : BookAt L c w kb (E.map (·.v)) (E.map (·.wv)) [] []
  step : Step (Cl c E) L w0 L w
  ents : ∀ i (h : i < E.length), Own L E[i].col w 5 1 E[i].v E[i].bs.length (if i < k then List.replicate E[i].bs.length (mark i) else E[i].bs.map byt)
  apart : ∀ i (h : i < E.length), ¬ Bc c E[i].col

/-- In the k-th list n bytes are written. -/
structure Marking (L : Nat → Nat) (c : Nat) (w0 : World) (kb : Nat) (E : List Ent) (k : Nat) (hk : k < E.length) (n : Nat) (w : World) : Prop where
  book : BookAt L c w kb (E.map (·.v)) (E.map (·.wv)) [] []
  step : Step (Cl c E) L w0 L w
  ents : ∀ i (h : i < E.length), i ≠ k → Own L E[i].col w 5 1 E[i].v E[i].bs.length (if i < k then List.replicate E[i].bs.length (mark i) else E[i].bs.map byt)
  this : ∃ xs : List Value, xs.take n = List.replicate n (mark k) ∧ Own L E[k].col w 5 1 E[k].v E[k].bs.length xs
  apart : ∀ i (h : i < E.length), ¬ Bc c E[i].col

theorem Marked.begin {L : Nat → Nat} {c kb k : Nat} {w0 w : World} {E : List Ent} (h : Marked L c w0 kb E k w) (hk : k < E.length) : Marking L c w0 kb E k hk 0 w :=
  ⟨h.book, h.step, fun i hi _ => h.ents i hi, ⟨E[k].bs.map byt, by simp, by have := h.ents k hk; rw [if_neg (by omega)] at this; exact this⟩, h.apart⟩

theorem Marking.finish {L : Nat → Nat} {c kb k : Nat} {w0 w : World} {E : List Ent} {hk : k < E.length} (h : Marking L c w0 kb E k hk E[k].bs.length w) : Marked L c w0 kb E (k + 1) w := by
  refine ⟨h.book, h.step, fun i hi => ?_, h.apart⟩
  by_cases e : i = k
  · subst e
    obtain ⟨xs, hx, o⟩ := h.this
    have hl : xs.length = E[i].bs.length := by simpa using o.1.1
    rw [List.take_of_length_le (by omega)] at hx
    rw [if_pos (by omega), ← hx]; exact o
  · have := h.ents i hi e
    by_cases e2 : i < k
    · rw [if_pos e2] at this; rw [if_pos (by omega)]; exact this
    · rw [if_neg e2] at this; rw [if_neg (by omega)]; exact this

theorem Marking.put {L : Nat → Nat} {c kb k n : Nat} {w0 w : World} {E : List Ent} {hk : k < E.length} (h : Marking L c w0 kb E k hk n w) (hn : n < E[k].bs.length)
    (hd : ∀ i j (hi : i < E.length) (hj : j < E.length), E[i].col = E[j].col → i = j) :
    ∃ g cap, E[k].v = .slice (some ⟨g, 0, none⟩) E[k].bs.length cap ∧ w.frozen? ⟨g, n, none⟩ = false ∧ (∃ u, w.cell? ⟨g, n, none⟩ = some u) ∧ Marking L c w0 kb E k hk (n + 1) (w.setCell ⟨g, n, none⟩ (mark k)) := by
  obtain ⟨xs, hx, o⟩ := h.this
  have hl : xs.length = E[k].bs.length := by simpa using o.1.1
  obtain ⟨g, cp, hv2, hL, hcell, hfz, o2, st⟩ := Own.set o (j := n) (by omega) (mark k)
  refine ⟨g, cp, hv2, hfz, ⟨_, hcell⟩, h.book.step st (fun d e hb => h.apart k hk (by rw [← (show d = E[k].col from e)]; exact hb)), h.step.trans (st.mono (fun d e => .inr ⟨k, hk, (show d = E[k].col from e).symm⟩)), fun i hi hne => (h.ents i hi hne).step st (fun e => hne (hd i k hi hk e)), ⟨xs.set n (mark k), ?_, o2⟩, h.apart⟩
  rw [List.take_succ_eq_append_getElem (by simp; omega), List.take_set_of_le (Nat.le_refl _), hx]
  simp [List.replicate_succ']

end Go.Proofs.Ytcebdodogbpglaa.Put
