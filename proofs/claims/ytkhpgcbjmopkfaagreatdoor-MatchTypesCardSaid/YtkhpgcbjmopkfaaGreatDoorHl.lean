import Derived.Test.YtkhpgcbjmopkfaaGreatDoorHk
set_option linter.unusedVariables false
set_option maxRecDepth 100000
/-!
  THE SCHEMA OF A JOIN, as plain data. No conditions.
-/
namespace Go.Fld

/-- A left column of a join: bare; in a full join it may be null where it is no key, or either key may be. -/
def leftF (kind : Int) (K1 : List Int) (L2 : List Fd) (K2 : List Int) (i : Nat) (f : Fd) : Fd :=
  if kind = 3 then (bareF f).named (bareF f).nm (decide (idxI K1 i < 0) || ((bareF f).nl || (match K2[(idxI K1 i).toNat]? with | some c => (match L2[c.toNat]? with | some g => (bareF g).nl | none => false) | none => false))) else bareF f
/-- A right column of a join. -/
def rightF (kind : Int) (f : Fd) : Fd := (bareF f).named (bareF f).nm ((bareF f).nl || decide (kind ≠ 1))
def lefts (kind : Int) (K1 : List Int) (L2 : List Fd) (K2 : List Int) : Nat → List Fd → List Fd
  | _, [] => []
  | i, f :: r => leftF kind K1 L2 K2 i f :: lefts kind K1 L2 K2 (i + 1) r
def rights (kind : Int) (K2 : List Int) : Nat → List Fd → List Fd
  | _, [] => []
  | i, f :: r => if decide (0 ≤ idxI K2 i) = true then rights kind K2 (i + 1) r else rightF kind f :: rights kind K2 (i + 1) r
theorem lefts_append (kind : Int) (K1 : List Int) (L2 : List Fd) (K2 : List Int) : ∀ (l r : List Fd) (i : Nat), lefts kind K1 L2 K2 i (l ++ r) = lefts kind K1 L2 K2 i l ++ lefts kind K1 L2 K2 (i + l.length) r
  | [], r, i => by simp [lefts]
  | f :: l, r, i => by
    simp only [List.cons_append, lefts, lefts_append kind K1 L2 K2 l r (i + 1), List.length_cons]
    rw [show i + 1 + l.length = i + (l.length + 1) from by omega]
theorem rights_append (kind : Int) (K2 : List Int) : ∀ (l r : List Fd) (i : Nat), rights kind K2 i (l ++ r) = rights kind K2 i l ++ rights kind K2 (i + l.length) r
  | [], r, i => by simp [rights]
  | f :: l, r, i => by
    simp only [List.cons_append, rights, rights_append kind K2 l r (i + 1), List.length_cons]
    rw [show i + 1 + l.length = i + (l.length + 1) from by omega]
    split <;> simp
theorem lefts_step {kind : Int} {K1 : List Int} {L2 : List Fd} {K2 : List Int} {L : List Fd} {k : Nat} (h : k < L.length) : lefts kind K1 L2 K2 0 (L.take (k + 1)) = lefts kind K1 L2 K2 0 (L.take k) ++ [leftF kind K1 L2 K2 k L[k]] := by
  rw [List.take_succ_eq_append_getElem h, lefts_append]
  simp [lefts, Nat.min_eq_left (Nat.le_of_lt h)]
theorem rights_skip {kind : Int} {K2 : List Int} {L : List Fd} {k : Nat} (h : k < L.length) (hs : decide (0 ≤ idxI K2 k) = true) : rights kind K2 0 (L.take (k + 1)) = rights kind K2 0 (L.take k) := by
  rw [List.take_succ_eq_append_getElem h, rights_append]
  have e : 0 + (L.take k).length = k := by simp [Nat.min_eq_left (Nat.le_of_lt h)]
  rw [e]
  simp only [rights, hs, if_true, List.append_nil]
theorem rights_step {kind : Int} {K2 : List Int} {L : List Fd} {k : Nat} (h : k < L.length) (hs : decide (0 ≤ idxI K2 k) = false) : rights kind K2 0 (L.take (k + 1)) = rights kind K2 0 (L.take k) ++ [rightF kind L[k]] := by
  rw [List.take_succ_eq_append_getElem h, rights_append]
  have e : 0 + (L.take k).length = k := by simp [Nat.min_eq_left (Nat.le_of_lt h)]
  rw [e]
  simp [rights, hs]
theorem lefts_length (kind : Int) (K1 : List Int) (L2 : List Fd) (K2 : List Int) : ∀ (l : List Fd) (i : Nat), (lefts kind K1 L2 K2 i l).length = l.length
  | [], i => rfl
  | f :: l, i => by simp [lefts, lefts_length kind K1 L2 K2 l (i + 1)]
theorem rights_length (kind : Int) (K2 : List Int) : ∀ (l : List Fd) (i : Nat), (rights kind K2 i l).length ≤ l.length
  | [], i => Nat.le_refl _
  | f :: l, i => by
    have := rights_length kind K2 l (i + 1)
    simp only [rights, List.length_cons]
    split
    · omega
    · simp; omega

/-- The columns of a join. -/
def outL (kind : Int) (L1 : List Fd) (K1 : List Int) (L2 : List Fd) (K2 : List Int) : List Fd := lefts kind K1 L2 K2 0 L1 ++ rights kind K2 0 L2
/-- The schema of a join: its fields, an error's number. -/
noncomputable def typeS (kind : Int) (L1 : List Fd) (n1 : List (Nat × Nat)) (K1 : List Int) (L2 : List Fd) (n2 : List (Nat × Nat)) (K2 : List Int) : List Fd × Int :=
  if schemaE L1 n1 ≠ 0 ∨ schemaE L2 n2 ≠ 0 then ([], 5) else
  if askedE kind L1 K1 L2 K2 ≠ 0 then ([], askedE kind L1 K1 L2 K2) else
  if 4 ≤ kind then (L1, 0) else
  if schemaE (outL kind L1 K1 L2 K2) [] ≠ 0 then ([], schemaE (outL kind L1 K1 L2 K2) []) else (outL kind L1 K1 L2 K2, 0)

end Go.Fld
