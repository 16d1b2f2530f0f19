import Derived.Test.YtkhpgcbjmopkfaaGreatDoorHc
import Derived.Test.YtkhpgcbjmopkfaaGreatDoorHd
set_option linter.unusedVariables false
set_option maxRecDepth 100000
/-!
  WHAT A SCHEMA THAT MAY BE IS LIKE; may it be? No conditions.
-/
namespace Go.Fld
open Go Go.RowKit Go.Proofs Go.ChangeShapes Go.WideShapes Go.ChangeAt Go.Shelf

/-! ### A list of fields that may be is well made -/
theorem wrongE_zero {n : Node} {a : Nat} {ids : List Int} (h : wrongE n a ids = 0) : n.d ≤ 64 ∧ nameB n.f.nm = true ∧ fitsB n.f = true := by
  unfold wrongE at h
  by_cases h1 : 64 < n.d
  · rw [if_pos h1] at h; cases h
  rw [if_neg h1] at h
  by_cases h2 : 256 ≤ a
  · rw [if_pos h2] at h; cases h
  rw [if_neg h2] at h
  by_cases h3 : nameB n.f.nm = false
  · rw [if_pos h3] at h; cases h
  rw [if_neg h3] at h
  by_cases h4 : (n.ahead.any fun g => g.nm.toList == n.f.nm.toList) = true
  · rw [if_pos h4] at h; cases h
  rw [if_neg h4] at h
  by_cases h5 : fitsB n.f = false
  · rw [if_pos h5] at h; cases h
  exact ⟨by omega, by simpa using h3, by simpa using h5⟩
theorem firstE_mem : ∀ {l : List Node} {a : Nat} {ids : List Int}, firstE a ids l = 0 → ∀ n ∈ l, ∃ a' ids', wrongE n a' ids' = 0
  | [], _, _, _, n, hn => by cases hn
  | m :: l, a, ids, h, n, hn => by
    by_cases hw : wrongE m a ids = 0
    · rw [firstE_ok hw] at h
      rcases List.mem_cons.1 hn with e | e
      · rw [e]; exact ⟨_, _, hw⟩
      · exact firstE_mem h n e
    · rw [firstE_bad hw] at h
      exact absurd h hw
theorem nodesFrom_mem (sub : Nat → List Fd → Bool → List Node) (d : Nat) (l : List Fd) (inD : Bool) : ∀ (r : List Fd) (i : Nat) (f : Fd), f ∈ r → (∃ a, (⟨d, a, f, inD⟩ : Node) ∈ nodesFrom sub d l inD i r) ∧ ∀ n ∈ sub (d + 1) f.kids (inD || decide (f.k = 19)), n ∈ nodesFrom sub d l inD i r
  | [], i, f, hf => by cases hf
  | g :: r, i, f, hf => by
    simp only [nodesFrom]
    rcases List.mem_cons.1 hf with e | e
    · subst e
      exact ⟨⟨_, List.mem_cons_self ..⟩, fun n hn => List.mem_cons_of_mem _ (List.mem_append_left _ hn)⟩
    · obtain ⟨⟨a, ha⟩, hs⟩ := nodesFrom_mem sub d l inD r (i + 1) f e
      exact ⟨⟨a, List.mem_cons_of_mem _ (List.mem_append_right _ ha)⟩, fun n hn => List.mem_cons_of_mem _ (List.mem_append_right _ (hs n hn))⟩
theorem fits_few {f : Fd} (h : fitsB f = true) : f.kids.length ≤ 32 := by
  unfold fitsB at h
  simp only [Bool.and_eq_true, decide_eq_true_eq] at h
  have h1 := h.2.2.2.2
  have : mostB f.k ≤ 32 := by
    unfold mostB
    split
    · omega
    · split <;> omega
  omega
theorem fits_flat {f : Fd} (h : fitsB f = true) (hk : f.k ≠ 19) : f.id = 0 ∧ f.ix = 0 := by
  unfold fitsB at h
  simp only [Bool.and_eq_true, decide_eq_true_eq] at h
  have h1 := h.2.2.1
  unfold toldB at h1
  rw [if_neg hk] at h1
  simpa using h1
theorem okF_of {f : Fd} (hf : fitsB f = true) (hk : okL f.kids) : okF f := by
  have h1 : f.k = 19 ∨ f.k = 20 → f.kids ≠ [] := fun h => fits_kids hf h
  have h2 := fits_few hf
  cases f with
  | mk nm nl k wd id ix kids =>
    simp only [okF]
    exact ⟨h1, h2, hk⟩
theorem bareF_flat_of {f : Fd} (hf : fitsB f = true) (hk : ∀ g ∈ f.kids, (bareF g).id = 0 ∧ (bareF g).ix = 0) : (bareF f).id = 0 ∧ (bareF f).ix = 0 := by
  by_cases hd : f.k = 19 ∨ f.k = 20
  · cases he : f.kids with
    | nil => exact absurd he (fits_kids hf hd)
    | cons g r =>
      rw [bareF_dict hd he]
      exact hk g (by rw [he]; exact List.mem_cons_self ..)
  · rw [bareF_plain hd]
    exact (show f.id = 0 ∧ f.ix = 0 from fits_flat hf (fun e => hd (.inl e)))
theorem okL_of_nodes : ∀ (r d : Nat) (l : List Fd) (inD : Bool), d + r = 65 → (∀ n ∈ nodesD r d l inD, ∃ a ids, wrongE n a ids = 0) → okL l ∧ ∀ f ∈ l, (bareF f).id = 0 ∧ (bareF f).ix = 0
  | 0, d, l, inD, hd, h => by
    cases l with
    | nil => exact ⟨trivial, fun f hf => by cases hf⟩
    | cons f l =>
      obtain ⟨⟨a, ha⟩, _⟩ := nodesFrom_mem (fun _ _ _ => []) d (f :: l) inD (f :: l) 0 f (List.mem_cons_self ..)
      obtain ⟨_, _, hw⟩ := h _ ha
      have := (wrongE_zero hw).1
      simp only at this
      omega
  | r + 1, d, l, inD, hd, h => by
    have one : ∀ f ∈ l, okF f ∧ ((bareF f).id = 0 ∧ (bareF f).ix = 0) := fun f hf => by
      obtain ⟨⟨a, ha⟩, hs⟩ := nodesFrom_mem (nodesD r) d l inD l 0 f hf
      obtain ⟨_, _, hw⟩ := h _ ha
      obtain ⟨h1, h2⟩ := okL_of_nodes r (d + 1) f.kids (inD || decide (f.k = 19)) (by omega) (fun n hn => h n (hs n hn))
      exact ⟨okF_of (wrongE_zero hw).2.2 h1, bareF_flat_of (wrongE_zero hw).2.2 h2⟩
    clear h
    refine ⟨?_, fun f hf => (one f hf).2⟩
    induction l with
    | nil => trivial
    | cons f l ih =>
      simp only [okL]
      exact ⟨(one f (List.mem_cons_self ..)).1, ih (fun g hg => one g (List.mem_cons_of_mem _ hg))⟩
theorem checkE_ok {L : List Fd} (h : checkE L = 0) : okL L ∧ ∀ f ∈ L, (bareF f).id = 0 ∧ (bareF f).ix = 0 :=
  okL_of_nodes 64 1 L false rfl (firstE_mem h)
theorem schemaE_ok {L : List Fd} {ns : List (Nat × Nat)} (h : schemaE L ns = 0) : checkE L = 0 ∧ L.length ≤ 32 := by
  unfold schemaE at h
  by_cases h1 : 32 < L.length
  · rw [if_pos h1] at h; cases h
  rw [if_neg h1] at h
  by_cases h2 : 16 < ns.length
  · rw [if_pos h2] at h; cases h
  rw [if_neg h2] at h
  by_cases h3 : (ns.any fun n => decide (256 < n.1) || decide (256 < n.2)) = true
  · rw [if_pos h3] at h; cases h
  rw [if_neg h3] at h
  exact ⟨h, by omega⟩

theorem rbare_calls' (f : Fd) (ho : okF f) (w : World) (p : Option Addr) (cap : Nat) (hf : FdAt w f [.string f.nm, .bool f.nl, .int .i64 f.k, .int .i64 f.wd, .int .i64 f.id, .int .i64 f.ix, .slice p f.kids.length cap]) : Calls Tryz.prog 26 #[.agg #[.string f.nm, .bool f.nl, .int .i64 f.k, .int .i64 f.wd, .int .i64 f.id, .int .i64 f.ix, .slice p f.kids.length cap]] w (FieldPost w (bareF f)) := by
  have h := rbare_calls f ho f.nm f.nl w p cap
  rw [show f.named f.nm f.nl = f by cases f; rfl] at h
  exact h hf

theorem field64 (e a : Int) (q : Option Addr) (d c : Nat) (w : World) : (Instr.field 64 (.agg #[.int .i64 e, .slice q d c, .int .i64 a]) 0).run Tryz.prog w = .ok (.int .i64 e) w := by kernel_rfl

/-- May a schema be? -/
theorem right_calls {w : World} {L : List Fd} {NS : List (ByteArray × ByteArray)} {fv nv : Value} (hL : FdsAt w L fv) (hN : NtsAt w NS nv) (hS : SaysAt w) :
    Calls Tryz.prog 17 #[.agg #[fv, nv]] w (BoolPost w (schemaE L (sizesOf NS) == 0)) := by
  have HL := Lib.hid hL
  have HN := Lib.hid hN
  have HS := Lib.hid hS
  obtain ⟨p, c, rfl, -, -, -⟩ := hL
  obtain ⟨p', c', rfl, -, -, -⟩ := hN
  clear hS
  go_enter Tryz.func17, Tryz.ntmps17
  go_wp2_with fail
  have hB1 : Below w.heap.size w (w.alloc (.cells #[.slice p L.length c, .slice p' NS.length c'] 26)) := (Below.refl _ w).alloc (Nat.le_refl _) _
  refine (check_calls (HL.out.below hB1) (HN.out.below hB1) (HS.out.below hB1)).mono ?_
  rintro e W2 ⟨d, path, at', rfl, ⟨q, c, rfl, -, -, -⟩, hb2⟩
  have HB := Lib.hid (hB1.trans (hb2.mono hB1.size))
  clear hB1 hb2
  generalize schemaE L (sizesOf NS) = fe at *
  have hfd := field64 fe at' q d c W2
  go_wp2_with fail
  go_ret
  exact bool_post rfl HB.out

end Go.Fld
