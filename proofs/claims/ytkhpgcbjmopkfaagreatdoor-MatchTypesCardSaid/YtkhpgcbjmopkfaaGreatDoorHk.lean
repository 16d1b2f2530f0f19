import Derived.Test.YtkhpgcbjmopkfaaGreatDoorHe
set_option linter.unusedVariables false
set_option maxRecDepth 100000
/-!
  WHAT IS WRONG WITH A KIND AND KEYS, as plain data. No conditions.
-/
namespace Go.Fld
open Go Go.RowKit Go.Proofs Go.ChangeShapes Go.WideShapes Go.ChangeAt Go.Shelf

/-- Are the keys' bare types alike, one by one? -/
def alikeB (L1 : List Fd) (K1 : List Int) (L2 : List Fd) (K2 : List Int) : Bool := (K1.zip K2).all fun ab => match L1[ab.1.toNat]?, L2[ab.2.toNat]? with
  | some f, some g => eqT (bareF f) (bareF g)
  | _, _ => true
noncomputable def askedE (kind : Int) (L1 : List Fd) (K1 : List Int) (L2 : List Fd) (K2 : List Int) : Int :=
  if kind < 1 ∨ 5 < kind then 1 else
  if (K1.length ≠ K2.length ∨ K1.length = 0 ∨ 8 < K1.length) ∨ (keysB L1.length K1 = false ∨ keysB L2.length K2 = false) then 190 else
  if alikeB L1 K1 L2 K2 = true then 0 else 6
theorem alikeB_bad {L1 L2 : List Fd} {K1 K2 : List Int} {k a b : Nat} (h1 : k < K1.length) (h2 : k < K2.length) (e1 : K1[k] = a) (e2 : K2[k] = b) (ha : a < L1.length) (hb : b < L2.length) (h : eqT (bareF L1[a]) (bareF L2[b]) = false) : alikeB L1 K1 L2 K2 = false := by
  unfold alikeB
  rw [List.all_eq_false]
  refine ⟨(K1[k], K2[k]), ?_, ?_⟩
  · have hz : k < (K1.zip K2).length := by rw [List.length_zip]; omega
    have := List.getElem_mem (l := K1.zip K2) hz
    rwa [List.getElem_zip] at this
  · simp [e1, e2, ha, hb, h]
theorem alikeB_good {L1 L2 : List Fd} {K1 K2 : List Int} (hl : K1.length = K2.length) (h : ∀ (k a b : Nat) (h1 : k < K1.length) (h2 : k < K2.length) (ha : a < L1.length) (hb : b < L2.length), K1[k] = a → K2[k] = b → eqT (bareF L1[a]) (bareF L2[b]) = true) (k1 : keysB L1.length K1 = true) (k2 : keysB L2.length K2 = true) : alikeB L1 K1 L2 K2 = true := by
  unfold alikeB
  rw [List.all_eq_true]
  intro ab hab
  obtain ⟨k, hk, rfl⟩ := List.getElem_of_mem hab
  rw [List.length_zip] at hk
  rw [List.getElem_zip]
  obtain ⟨⟨g1, g2⟩, _⟩ := keysB_iff.1 k1 k (by omega)
  obtain ⟨⟨g3, g4⟩, _⟩ := keysB_iff.1 k2 k (by omega)
  have e1 : K1[k] = ((K1[k].toNat : Nat) : Int) := by omega
  have e2 : K2[k] = ((K2[k].toNat : Nat) : Int) := by omega
  have q1 : K1[k].toNat < L1.length := by omega
  have q2 : K2[k].toNat < L2.length := by omega
  simp only [List.getElem?_eq_getElem q1, List.getElem?_eq_getElem q2]
  exact h k _ _ (by omega) (by omega) q1 q2 e1 e2

/-- This number comes back. -/
def IntPost (w : World) (i : Int) (e : Ending) (w' : World) : Prop := e = .returned (.int .i64 i) ∧ Below w.heap.size w w'
theorem int_post {w w' : World} {a b : Int} (h : a = b) (hb : Below w.heap.size w w') : IntPost w b (.returned (.int .i64 a)) w' := ⟨by rw [h], hb⟩

theorem field59_2 (c0 c1 c2 c3 c4 c5 c6 : Value) (w : World) : (Instr.field 59 (.agg #[c0, c1, c2, c3, c4, c5, c6]) 2).run Tryz.prog w = .ok (.agg #[c2, c3, c4, c5, c6]) w := by kernel_rfl

end Go.Fld
