import Derived.WalkKit
import Derived.ProofKit
import Derived.OpenShut
import Derived.ChangeOld
import Derived.Deep.Slices
set_option linter.unusedVariables false
/-!
  ARGUMENTS OPENED: slices of whatever elements, at every index; structs field by field.
-/
namespace Go.Fld.Open
open Go.ChangeShapes Go.WideShapes Go.ChangeAt Go.RowKit Go.Deep

theorem add_plain (b off j : Nat) : (⟨b, off, none⟩ : Addr).add j = ⟨b, off + j, none⟩ := by unfold Addr.add; split <;> simp_all

/-- One list for a fact at every index. -/
theorem list_of {α : Type} {n : Nat} {p : Nat → α → Prop} (h : ∀ i, i < n → ∃ x, p i x) : ∃ l : List α, l.length = n ∧ ∀ i (hi : i < l.length), p i l[i] := by
  induction n with
  | zero => exact ⟨[], rfl, fun i hi => by simp at hi⟩
  | succ n ih =>
    obtain ⟨l, hl, hp⟩ := ih (fun i hi => h i (by omega))
    obtain ⟨x, hx⟩ := h n (by omega)
    refine ⟨l ++ [x], by simp [hl], fun i hi => ?_⟩
    by_cases e : i < l.length
    · rw [List.getElem_append_left e]; exact hp i e
    · have : i = l.length := by simp at hi; omega
      subst this
      rw [List.getElem_append_right (Nat.le_refl _)]
      simp [hl]; exact hl ▸ hx

theorem mapM_some {α β : Type} {f : α → Option β} : ∀ {l : List α} {r : List β}, l.mapM f = some r → r.length = l.length ∧ ∀ j (h : j < l.length), f l[j] = r[j]?
  | [], r, h => by simp at h; subst h; simp
  | a :: l, r, h => by
    rw [List.mapM_cons] at h
    cases ha : f a with
    | none => rw [ha] at h; cases h
    | some b =>
      rw [ha] at h
      cases hl : l.mapM f with
      | none => rw [hl] at h; cases h
      | some r' =>
        rw [hl] at h
        obtain rfl : b :: r' = r := Option.some.inj h
        obtain ⟨h1, h2⟩ := mapM_some hl
        refine ⟨by simp [h1], fun j hj => ?_⟩
        cases j with
        | zero => simpa using ha
        | succ j => simpa using h2 j (by simpa using hj)

theorem cells?_some {w : World} {base : Nat} {a : Addr} {n : Nat} {cs : List Value} (h : w.cells? base a n = some cs) : cs.length = n ∧ ∀ j, j < n → w.cell? (a.add j) = cs[j]? := by
  unfold World.cells? at h
  split at h
  · obtain ⟨h1, h2⟩ := mapM_some h
    refine ⟨by simpa using h1, fun j hj => ?_⟩
    have h3 := h2 j (by simpa using hj)
    rw [List.getElem_range] at h3
    exact h3
  · cases h

theorem spot_of_cell {w : World} {a : Addr} {v : Value} (h : w.cell? a = some v) : ∃ b off, a = ⟨b, off, none⟩ := by
  obtain ⟨b, off, sp⟩ := a
  cases sp with
  | none => exact ⟨b, off, rfl⟩
  | some s =>
    exfalso
    unfold World.cell? at h
    split at h <;> simp at h

section
variable {H : Type} {enc : TypeId × Value → H} {P : Program} {w : World}

/-- A SLICE AT EVERY INDEX. -/
theorem slice {t e : TypeId} {p : Option Addr} {len cap : Nat} {d : DataW H} {ps : List MemPlace} (ht : P.underlying t = some (.slice e)) (he : 0 < P.cellsOf e)
    (h : DataW.Trod enc P w 0 (fun _ => true) true t (.slice p len cap) d ps) :
    len ≤ cap ∧ cap ≤ maxLen ∧ ∃ (CS : Nat → List Value) (D : Nat → DataW H) (n : Nat),
      (∀ i, i < len → (CS i).length = P.cellsOf e ∧ (∃ Pl, DataW.trod enc P w 0 (fun _ => true) true n e (CS i) = some (D i, Pl)) ∧
        ∃ b off, p = some ⟨b, off, none⟩ ∧ ∀ j, j < P.cellsOf e → w.cell? ⟨b, off + i * P.cellsOf e + j, none⟩ = (CS i)[j]?) ∧
      ((d = .nil ∧ len = 0) ∨ ∃ sp, d = .slice ((List.range len).map D) sp ∧ len + sp.length = cap) := by
  obtain ⟨fuel, hf⟩ := h
  rcases open_slice ht hf with ⟨hcs, hx⟩ | ⟨a, l, c, m, n, D, Pl, hcs, _, hl, hm, hmm, hx, hel⟩
  · simp [Value.cells] at hcs
    obtain ⟨rfl, rfl, rfl⟩ := hcs
    refine ⟨Nat.le_refl _, Nat.zero_le _, fun _ => [], fun _ => .nil, 0, fun i hi => absurd hi (Nat.not_lt_zero _), .inl ⟨?_, rfl⟩⟩
    simp at hx; exact hx.1
  · simp [Value.cells] at hcs
    obtain ⟨rfl, rfl, rfl⟩ := hcs
    simp only [if_true] at hmm
    subst hmm
    have hcs : ∀ i, ∃ cs, i < m → w.cells? 0 (a.add (i * P.cellsOf e)) (P.cellsOf e) = some cs ∧ DataW.trod enc P w 0 (fun _ => true) true n e cs = some (D i, Pl i) := by
      intro i
      by_cases hi : i < m
      · obtain ⟨cs, h1, h2⟩ := hel i hi; exact ⟨cs, fun _ => ⟨h1, h2⟩⟩
      · exact ⟨[], fun h => absurd h hi⟩
    obtain ⟨CS, hCS⟩ := Classical.axiomOfChoice hcs
    refine ⟨hl, hm, CS, D, n, fun i hi => ?_, .inr ⟨(List.range (m - len)).map fun j => D (len + j), ?_, ?_⟩⟩
    · obtain ⟨h1, h2⟩ := hCS i (by omega)
      obtain ⟨h3, h4⟩ := cells?_some h1
      refine ⟨h3, ⟨_, h2⟩, ?_⟩
      obtain ⟨g1, g2⟩ := hCS 0 (by omega)
      obtain ⟨g3, g4⟩ := cells?_some g1
      have h5 := g4 0 he
      rw [List.getElem?_eq_getElem (by omega)] at h5
      have hadd : (a.add (0 * P.cellsOf e)).add 0 = a := by simp [Addr.add]
      rw [hadd] at h5
      obtain ⟨b, off, rfl⟩ := spot_of_cell h5
      refine ⟨b, off, rfl, fun j hj => ?_⟩
      have := h4 j hj
      rwa [add_plain, add_plain] at this
    · exact (Prod.mk.inj hx).1
    · simp; omega

/-- A field of a struct that is read. -/
theorem field {t : TypeId} {fs : Array Field} {fuel : Nat} {cs : List Value} {x : DataW H × List MemPlace} (ht : P.underlying t = some (.struct fs)) (h : DataW.trod enc P w 0 (fun _ => true) true fuel t cs = some x)
    (i : Nat) (T off size : Nat) (hf : (fs[i]?).map (fun f => (f.type, f.offset)) = some (T, off)) (hc : P.cellsOf T = size) :
    ∃ n y, DataW.trod enc P w 0 (fun _ => true) true n T ((cs.drop off).take size) = some y := by
  obtain ⟨xs, m, _, _, hl, hlen, hff⟩ := DataW.trod_struct ht h
  subst hc
  cases hfi : fs[i]? with
  | none => rw [hfi] at hf; cases hf
  | some f =>
    rw [hfi] at hf
    simp at hf
    obtain ⟨rfl, rfl⟩ := hf
    have h2 := hff i f hfi
    have hi : i < xs.length := by have := (Array.getElem?_eq_some_iff.1 hfi).1; omega
    rw [List.getElem?_eq_getElem hi] at h2
    exact ⟨m, _, h2⟩

theorem struct_len {t : TypeId} {fs : Array Field} {fuel : Nat} {cs : List Value} {x : DataW H × List MemPlace} (ht : P.underlying t = some (.struct fs)) (h : DataW.trod enc P w 0 (fun _ => true) true fuel t cs = some x) : cs.length = P.cellsOf t := by
  obtain ⟨xs, m, _, _, hl, hlen, hff⟩ := DataW.trod_struct ht h
  exact hl

end
end Go.Fld.Open
