import Derived.Test.YtcllfbhlnjgomaaGreatDoorFs
set_option linter.unusedVariables false
set_option maxRecDepth 100000
/-!
  WHAT AN AGGREGATE COMES TO, as data. No conditions.
-/
namespace Go.Fld
open Go Go.RowKit Go.Proofs Go.ChangeShapes Go.WideShapes Go.ChangeAt Go.Shelf

/-! ### A field that may be is well made -/
theorem wrongE_zero {n : Node} {a : Nat} {ids : List Int} (h : wrongE n a ids = 0) : n.d ≤ 64 ∧ nameB n.f.nm = true ∧ fitsB n.f = true := by
  unfold wrongE at h
  by_cases h1 : 64 < n.d
  · rw [if_pos h1] at h; cases h
  rw [if_neg h1] at h
  by_cases h2 : 256 ≤ a
  · rw [if_pos h2] at h; cases h
  rw [if_neg h2] at h
  by_cases h3 : nameB n.f.nm = false
  · rw [if_pos h3] at h; cases h
  rw [if_neg h3] at h
  by_cases h4 : (n.ahead.any fun g => g.nm.toList == n.f.nm.toList) = true
  · rw [if_pos h4] at h; cases h
  rw [if_neg h4] at h
  by_cases h5 : fitsB n.f = false
  · rw [if_pos h5] at h; cases h
  exact ⟨by omega, by simpa using h3, by simpa using h5⟩
theorem firstE_mem : ∀ {l : List Node} {a : Nat} {ids : List Int}, firstE a ids l = 0 → ∀ n ∈ l, ∃ a' ids', wrongE n a' ids' = 0
  | [], _, _, _, n, hn => by cases hn
  | m :: l, a, ids, h, n, hn => by
    by_cases hw : wrongE m a ids = 0
    · rw [firstE_ok hw] at h
      rcases List.mem_cons.1 hn with e | e
      · rw [e]; exact ⟨_, _, hw⟩
      · exact firstE_mem h n e
    · rw [firstE_bad hw] at h
      exact absurd h hw
theorem nodesFrom_mem (sub : Nat → List Fd → Bool → List Node) (d : Nat) (l : List Fd) (inD : Bool) : ∀ (r : List Fd) (i : Nat) (f : Fd), f ∈ r → (∃ a, (⟨d, a, f, inD⟩ : Node) ∈ nodesFrom sub d l inD i r) ∧ ∀ n ∈ sub (d + 1) f.kids (inD || decide (f.k = 19)), n ∈ nodesFrom sub d l inD i r
  | [], i, f, hf => by cases hf
  | g :: r, i, f, hf => by
    simp only [nodesFrom]
    rcases List.mem_cons.1 hf with e | e
    · subst e
      exact ⟨⟨_, List.mem_cons_self ..⟩, fun n hn => List.mem_cons_of_mem _ (List.mem_append_left _ hn)⟩
    · obtain ⟨⟨a, ha⟩, hs⟩ := nodesFrom_mem sub d l inD r (i + 1) f e
      exact ⟨⟨a, List.mem_cons_of_mem _ (List.mem_append_right _ ha)⟩, fun n hn => List.mem_cons_of_mem _ (List.mem_append_right _ (hs n hn))⟩
theorem fits_few {f : Fd} (h : fitsB f = true) : f.kids.length ≤ 32 := by
  unfold fitsB at h
  simp only [Bool.and_eq_true, decide_eq_true_eq] at h
  have h1 := h.2.2.2.2
  have : mostB f.k ≤ 32 := by
    unfold mostB
    split
    · omega
    · split <;> omega
  omega
theorem okF_of {f : Fd} (hf : fitsB f = true) (hk : okL f.kids) : okF f := by
  have h1 : f.k = 19 ∨ f.k = 20 → f.kids ≠ [] := fun h => fits_kids hf h
  have h2 := fits_few hf
  cases f with
  | mk nm nl k wd id ix kids =>
    simp only [okF]
    exact ⟨h1, h2, hk⟩
theorem okL_of_nodes : ∀ (r d : Nat) (l : List Fd) (inD : Bool), d + r = 65 → (∀ n ∈ nodesD r d l inD, ∃ a ids, wrongE n a ids = 0) → okL l
  | 0, d, l, inD, hd, h => by
    cases l with
    | nil => trivial
    | cons f l =>
      obtain ⟨⟨a, ha⟩, _⟩ := nodesFrom_mem (fun _ _ _ => []) d (f :: l) inD (f :: l) 0 f (List.mem_cons_self ..)
      obtain ⟨_, _, hw⟩ := h _ ha
      have := (wrongE_zero hw).1
      simp only at this
      omega
  | r + 1, d, l, inD, hd, h => by
    have one : ∀ f ∈ l, okF f := fun f hf => by
      obtain ⟨⟨a, ha⟩, hs⟩ := nodesFrom_mem (nodesD r) d l inD l 0 f hf
      obtain ⟨_, _, hw⟩ := h _ ha
      exact okF_of (wrongE_zero hw).2.2 (okL_of_nodes r (d + 1) f.kids (inD || decide (f.k = 19)) (by omega) (fun n hn => h n (hs n hn)))
    clear h
    induction l with
    | nil => trivial
    | cons f l ih =>
      simp only [okL]
      exact ⟨one f (List.mem_cons_self ..), ih (fun g hg => one g (List.mem_cons_of_mem _ hg))⟩
theorem mayB_zero {f : Fd} (h : mayB f = true) : firstE 0 [] (nodesD 64 1 [f] false) = 0 := by
  unfold mayB fieldE checkE at h
  simpa using h
theorem okF_of_may {f : Fd} (h : mayB f = true) : okF f := by
  have := okL_of_nodes 64 1 [f] false rfl (firstE_mem (mayB_zero h))
  simp only [okL] at this
  exact this.1
theorem name_of_may {f : Fd} (h : mayB f = true) : nameB f.nm = true := by
  have h1 := firstE_mem (mayB_zero h)
  obtain ⟨⟨a, ha⟩, _⟩ := nodesFrom_mem (nodesD 63) 1 [f] false [f] 0 f (List.mem_cons_self ..)
  obtain ⟨_, _, hw⟩ := h1 _ ha
  exact (wrongE_zero hw).2.1

/-! ### Fields of one kind -/
def plainF (nm : ByteArray) (nl : Bool) (k : Int) : Fd := .mk nm nl k 0 0 0 []
theorem plain_nodes (nm : ByteArray) (nl : Bool) (k : Int) : nodesD 64 1 [plainF nm nl k] false = [⟨1, [], plainF nm nl k, false⟩] := rfl
theorem fieldE_plain {nm : ByteArray} (hn : nameB nm = true) (nl : Bool) (k : Int) : fieldE (plainF nm nl k) = if fitsB (plainF nm nl k) = false then 32 else if nullsB (plainF nm nl k) = false then 35 else if k = 19 then 36 else 0 := by
  unfold fieldE checkE
  rw [plain_nodes, firstE_one]
  unfold wrongE
  simp only [show (plainF nm nl k).nm = nm from rfl, hn]
  simp only [show (plainF nm nl k).k = k from rfl]
  by_cases h1 : fitsB (plainF nm nl k) = false
  · simp [h1]
  · simp only [h1]
    by_cases h2 : nullsB (plainF nm nl k) = false
    · simp [h2]
    · simp only [h2]
      by_cases h3 : k = 19
      · exact absurd (fits_kids (f := plainF nm nl k) (by simpa using h1) (.inl h3)) (by simp [plainF, Fd.kids])
      · simp [h3]
theorem may_plain {nm : ByteArray} (hn : nameB nm = true) (nl : Bool) {k : Int} (h1 : 2 ≤ k) (h2 : k ≤ 13) : mayB (plainF nm nl k) = true := by
  unfold mayB
  rw [fieldE_plain hn]
  have e14 : ¬ k = 14 := by omega
  have e15 : ¬ k = 15 := by omega
  have e16 : ¬ k = 16 := by omega
  have e17 : ¬ k = 17 := by omega
  have e18 : ¬ k = 18 := by omega
  have e19 : ¬ k = 19 := by omega
  have e20 : ¬ k = 20 := by omega
  have e1 : ¬ k = 1 := by omega
  have hf : fitsB (plainF nm nl k) = true := by
    simp [fitsB, plainF, Fd.k, Fd.wd, Fd.id, Fd.ix, Fd.kids, wideB, toldB, leastB, mostB, e14, e15, e16, e17, e18, e19, e20, show 1 ≤ k by omega, show k ≤ 20 by omega]
  have hu : nullsB (plainF nm nl k) = true := by
    simp [nullsB, plainF, Fd.k, e1, e18, e20]
  simp [hf, hu, e19]
theorem may_none {nm : ByteArray} (hn : nameB nm = true) (nl : Bool) : mayB (plainF nm nl 0) = false := by
  unfold mayB
  rw [fieldE_plain hn]
  rfl

theorem bareF_nm (f : Fd) : (bareF f).nm = f.nm := by
  by_cases hk : f.k = 19 ∨ f.k = 20
  · cases hkd : f.kids with
    | nil => rw [bareF_eq, if_pos hk, hkd]; rfl
    | cons g r => rw [bareF_dict hk hkd]; rfl
  · rw [bareF_plain hk]; rfl

def noF : Fd := .mk ⟨#[]⟩ false 0 0 0 0 []
/-- What an aggregate of a field comes to; an error. -/
def typeF (op : Int) (f : Fd) : Fd × Int :=
  if mayB f = false then (noF, 5)
  else if op = 1 ∨ op = 2 then (plainF f.nm false 6, 0)
  else if op = 3 then
    (if 3 ≤ (bareF f).k ∧ (bareF f).k ≤ 6 then (plainF f.nm true 6, 0)
     else if 7 ≤ (bareF f).k ∧ (bareF f).k ≤ 10 then (plainF f.nm true 10, 0)
     else if (bareF f).k = 11 then (plainF f.nm true 11, 0) else (noF, 5))
  else if 4 ≤ op ∧ op ≤ 7 then (if mayB ((bareF f).named f.nm true) = true then ((bareF f).named f.nm true, 0) else (noF, 5))
  else if op = 8 ∨ op = 9 then (if (bareF f).k = 2 then (plainF f.nm true 2, 0) else (noF, 5))
  else (noF, 1)

theorem typeF_may {op : Int} {f : Fd} (h : (typeF op f).2 = 0) : mayB (typeF op f).1 = true := by
  unfold typeF at h ⊢
  by_cases h0 : mayB f = false
  · rw [if_pos h0] at h; cases h
  have hn := name_of_may (by simpa using h0)
  rw [if_neg h0] at h ⊢
  by_cases h1 : op = 1 ∨ op = 2
  · rw [if_pos h1]; exact may_plain hn _ (by decide) (by decide)
  rw [if_neg h1] at h ⊢
  by_cases h3 : op = 3
  · rw [if_pos h3] at h ⊢
    by_cases a : 3 ≤ (bareF f).k ∧ (bareF f).k ≤ 6
    · rw [if_pos a]; exact may_plain hn _ (by decide) (by decide)
    rw [if_neg a] at h ⊢
    by_cases b : 7 ≤ (bareF f).k ∧ (bareF f).k ≤ 10
    · rw [if_pos b]; exact may_plain hn _ (by decide) (by decide)
    rw [if_neg b] at h ⊢
    by_cases c : (bareF f).k = 11
    · rw [if_pos c]; exact may_plain hn _ (by decide) (by decide)
    · rw [if_neg c] at h; cases h
  rw [if_neg h3] at h ⊢
  by_cases h4 : 4 ≤ op ∧ op ≤ 7
  · rw [if_pos h4] at h ⊢
    by_cases a : mayB ((bareF f).named f.nm true) = true
    · rw [if_pos a]; exact a
    · rw [if_neg a] at h; cases h
  rw [if_neg h4] at h ⊢
  by_cases h8 : op = 8 ∨ op = 9
  · rw [if_pos h8] at h ⊢
    by_cases a : (bareF f).k = 2
    · rw [if_pos a]; exact may_plain hn _ (by decide) (by decide)
    · rw [if_neg a] at h; cases h
  · rw [if_neg h8] at h; cases h

end Go.Fld
