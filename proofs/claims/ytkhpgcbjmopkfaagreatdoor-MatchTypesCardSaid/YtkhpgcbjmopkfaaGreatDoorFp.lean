import Derived.Test.YtkhpgcbjmopkfaaGreatDoorFn
set_option linter.unusedVariables false
set_option maxRecDepth 100000
/-!
  FIELDS IN MEMORY OF THEIR OWN; bare fields as data. No conditions.
-/
namespace Go.Fld
open Go Go.RowKit Go.Proofs Go.ChangeShapes Go.WideShapes Go.ChangeAt Go.Shelf

mutual
/-- The seven cells of a field, whose lists lie in blocks of S. -/
def FdS (S : Nat → Prop) (w : World) : Fd → List Value → Prop
  | .mk nm nl k wd id ix kids, cs => nm.size ≤ maxLen ∧ i64B k ∧ i64B wd ∧ i64B id ∧ i64B ix ∧
      ∃ p cap, cs = [.string nm, .bool nl, .int .i64 k, .int .i64 wd, .int .i64 id, .int .i64 ix, .slice p kids.length cap] ∧ kids.length ≤ cap ∧ cap ≤ maxLen ∧ FdsS S w p 0 kids
def FdsS (S : Nat → Prop) (w : World) (p : Option Addr) : Nat → List Fd → Prop
  | _, [] => True
  | off, f :: r => (∃ b o cs, p = some ⟨b, o, none⟩ ∧ S b ∧ (∀ (j : Nat) (u : Value), cs[j]? = some u → w.cell? ⟨b, o + off + j, none⟩ = some u) ∧ FdS S w f cs) ∧ FdsS S w p (off + 7) r
end

mutual
theorem FdS.at {S : Nat → Prop} {w : World} : ∀ {f : Fd} {cs : List Value}, FdS S w f cs → FdAt w f cs
  | .mk nm nl k wd id ix kids, cs, h => by
    simp only [FdS] at h
    simp only [FdAt]
    obtain ⟨h0, h1, h2, h3, h4, p, cap, h5, h6, h7, h8⟩ := h
    exact ⟨h0, h1, h2, h3, h4, p, cap, h5, h6, h7, FdsS.at h8⟩
theorem FdsS.at {S : Nat → Prop} {w : World} {p : Option Addr} : ∀ {l : List Fd} {off : Nat}, FdsS S w p off l → FdsC w p off l
  | [], off, h => trivial
  | f :: r, off, h => by
    simp only [FdsS] at h
    simp only [FdsC]
    obtain ⟨⟨b, o, cs, h1, _, h2, h3⟩, h4⟩ := h
    exact ⟨⟨b, o, cs, h1, h2, FdS.at h3⟩, FdsS.at h4⟩
end

mutual
theorem FdS.mono {S T : Nat → Prop} {w : World} (hST : ∀ b, S b → T b) : ∀ {f : Fd} {cs : List Value}, FdS S w f cs → FdS T w f cs
  | .mk nm nl k wd id ix kids, cs, h => by
    simp only [FdS] at h ⊢
    obtain ⟨h0, h1, h2, h3, h4, p, cap, h5, h6, h7, h8⟩ := h
    exact ⟨h0, h1, h2, h3, h4, p, cap, h5, h6, h7, FdsS.mono hST h8⟩
theorem FdsS.mono {S T : Nat → Prop} {w : World} (hST : ∀ b, S b → T b) {p : Option Addr} : ∀ {l : List Fd} {off : Nat}, FdsS S w p off l → FdsS T w p off l
  | [], off, h => trivial
  | f :: r, off, h => by
    simp only [FdsS] at h ⊢
    obtain ⟨⟨b, o, cs, h1, hS, h2, h3⟩, h4⟩ := h
    exact ⟨⟨b, o, cs, h1, hST b hS, h2, FdS.mono hST h3⟩, FdsS.mono hST h4⟩
end

mutual
/-- Where the blocks of S lie on as they lay, so do the fields; T: what they are known to be in as well. -/
theorem FdS.keep {S T : Nat → Prop} {w w' : World} (hk : ∀ b, S b → b < w.heap.size → w'.heap[b]? = w.heap[b]? ∧ T b) : ∀ {f : Fd} {cs : List Value}, FdS S w f cs → FdS T w' f cs
  | .mk nm nl k wd id ix kids, cs, h => by
    simp only [FdS] at h ⊢
    obtain ⟨h0, h1, h2, h3, h4, p, cap, h5, h6, h7, h8⟩ := h
    exact ⟨h0, h1, h2, h3, h4, p, cap, h5, h6, h7, FdsS.keep hk h8⟩
theorem FdsS.keep {S T : Nat → Prop} {w w' : World} (hk : ∀ b, S b → b < w.heap.size → w'.heap[b]? = w.heap[b]? ∧ T b) {p : Option Addr} : ∀ {l : List Fd} {off : Nat}, FdsS S w p off l → FdsS T w' p off l
  | [], off, h => trivial
  | f :: r, off, h => by
    simp only [FdsS] at h ⊢
    obtain ⟨⟨b, o, cs, h1, hS, h2, h3⟩, h4⟩ := h
    have hb : b < w.heap.size := by
      have h5 := (FdS.at h3).shape
      obtain ⟨p', cap', e, _⟩ := h5
      have := World.block_lt_of_cell? w _ (h2 0 _ (by rw [e]; rfl))
      simpa using this
    obtain ⟨e1, e2⟩ := hk b hS hb
    exact ⟨⟨b, o, cs, h1, e2, fun j u hj => (World.cell?_of_block e1).trans (h2 j u hj), FdS.keep hk h3⟩, FdsS.keep hk h4⟩
end
theorem FdS.below {S : Nat → Prop} {w w' : World} (hb : Below w.heap.size w w') {f : Fd} {cs : List Value} (h : FdS S w f cs) : FdS S w' f cs := h.keep (fun b hs hlt => ⟨hb.block b hlt, hs⟩)

theorem FdS.shape {S : Nat → Prop} {w : World} {f : Fd} {cs : List Value} (h : FdS S w f cs) : ∃ p cap, cs = [.string f.nm, .bool f.nl, .int .i64 f.k, .int .i64 f.wd, .int .i64 f.id, .int .i64 f.ix, .slice p f.kids.length cap] ∧ FdsS S w p 0 f.kids ∧ f.kids.length ≤ cap ∧ cap ≤ maxLen := by
  cases f with
  | mk nm nl k wd id ix kids =>
    simp only [FdS] at h
    obtain ⟨h0, h1, h2, h3, h4, p, cap, h5, h6, h7, h8⟩ := h
    exact ⟨p, cap, h5, h8, h6, h7⟩
theorem FdS.mk' {S : Nat → Prop} {w : World} {nm : ByteArray} {nl : Bool} {k wd id ix : Int} {kids : List Fd} {p : Option Addr} {cap : Nat} (h0 : nm.size ≤ maxLen) (h1 : i64B k) (h2 : i64B wd) (h3 : i64B id) (h4 : i64B ix) (h5 : kids.length ≤ cap) (h6 : cap ≤ maxLen) (h7 : FdsS S w p 0 kids) :
    FdS S w (.mk nm nl k wd id ix kids) [.string nm, .bool nl, .int .i64 k, .int .i64 wd, .int .i64 id, .int .i64 ix, .slice p kids.length cap] := by
  simp only [FdS]
  exact ⟨h0, h1, h2, h3, h4, p, cap, rfl, h5, h6, h7⟩

/-! ### A row of fields that grows -/
structure RowF (W : World) (base : Nat) (v : Value) (gs : List Fd) (css : List (List Value)) : Prop where
  own : W.ownsRow base 59 7 v gs.length (css.flatMap id)
  len : css.length = gs.length
  fld : ∀ (j : Nat) (h : j < gs.length) (h' : j < css.length), FdS (fun b => base ≤ b ∧ v.ownBlock ≠ some b) W gs[j] css[j]

theorem RowF.nil (W : World) (base : Nat) : RowF W base (.slice none 0 0) [] [] := ⟨World.ownsRow_nil _ _ _ _, rfl, fun j h => absurd h (Nat.not_lt_zero _)⟩
theorem RowF.seven {W : World} {base : Nat} {v : Value} {gs : List Fd} {css : List (List Value)} (h : RowF W base v gs css) : ∀ cs ∈ css, cs.length = 7 := by
  intro cs hcs
  obtain ⟨j, hj, rfl⟩ := List.getElem_of_mem hcs
  obtain ⟨p, cap, e, _⟩ := (h.fld j (by rw [← h.len]; exact hj) hj).shape
  rw [e]; rfl
theorem RowF.below {W W' : World} {base : Nat} {v : Value} {gs : List Fd} {css : List (List Value)} (h : RowF W base v gs css) (hb : Below W.heap.size W W') : RowF W' base v gs css :=
  ⟨h.own.kept (row := none) ⟨hb.os, hb.tape, hb.output, hb.size, fun k hk _ => hb.block k hk⟩ (by
    rcases h.own.2 with ⟨e, _⟩ | ⟨g, c, cur, e, _⟩
    · rw [e]; exact .inl rfl
    · rw [e]; exact .inr (by simp [Value.ownBlock])), h.len, fun j h1 h2 => (h.fld j h1 h2).below hb⟩

theorem flat_get' (n : Nat) : ∀ (l : List (List Value)) (hl : ∀ a ∈ l, a.length = n) (j : Nat) (hj : j < l.length) (i : Nat), i < n → (l.flatMap id)[j * n + i]? = (l[j])[i]?
  | a :: l, hl, 0, _, i, hi => by
    simp only [List.flatMap_cons, Nat.zero_mul, Nat.zero_add, List.getElem_cons_zero, id]
    rw [List.getElem?_append_left (by rw [hl a (by simp)]; exact hi)]
  | a :: l, hl, j + 1, hj, i, hi => by
    simp only [List.flatMap_cons, List.getElem_cons_succ, id]
    rw [List.getElem?_append_right (by rw [hl a (by simp), Nat.succ_mul]; omega), hl a (by simp)]
    have := flat_get' n l (fun b hb => hl b (by simp [hb])) j (by simpa using hj) i hi
    rw [← this]
    congr 1
    rw [Nat.succ_mul]
    omega

theorem fdsS_of {S : Nat → Prop} {W : World} {g : Nat} (hg : S g) : ∀ (gs : List Fd) (css : List (List Value)) (off : Nat), css.length = gs.length → (∀ (j : Nat) (h : j < gs.length) (h' : j < css.length), FdS S W gs[j] css[j]) →
    (∀ (j : Nat) (h' : j < css.length) (i : Nat) (u : Value), (css[j])[i]? = some u → W.cell? ⟨g, off + j * 7 + i, none⟩ = some u) → FdsS S W (some ⟨g, 0, none⟩) off gs
  | [], css, off, _, _, _ => by simp [FdsS]
  | f :: gs, [], off, hl, _, _ => by simp at hl
  | f :: gs, cs :: css, off, hl, hf, hc => by
    simp only [FdsS]
    refine ⟨⟨g, 0, cs, rfl, hg, fun j u hj => ?_, hf 0 (by simp) (by simp)⟩, fdsS_of hg gs css (off + 7) (by simpa using hl) (fun j h h' => hf (j + 1) (by simpa using h) (by simpa using h')) (fun j h' i u hu => ?_)⟩
    · have := hc 0 (by simp) j u hj
      rwa [show off + 0 * 7 + j = 0 + off + j by omega] at this
    · have := hc (j + 1) (by simpa using h') i u hu
      rwa [show off + (j + 1) * 7 + i = off + 7 + j * 7 + i by omega] at this

/-- What a row of fields is as a list. -/
theorem RowF.list {W : World} {base : Nat} {p : Option Addr} {n cap : Nat} {gs : List Fd} {css : List (List Value)} (h : RowF W base (.slice p n cap) gs css) : FdsS (fun b => base ≤ b) W p 0 gs := by
  rcases h.own.2 with ⟨e, hn⟩ | ⟨g, c, cur, e, hbg, _⟩
  · have : gs = [] := List.eq_nil_of_length_eq_zero hn
    subst this
    simp [FdsS]
  · cases e
    refine fdsS_of (S := fun b => base ≤ b) hbg gs css 0 h.len (fun j h1 h2 => (h.fld j h1 h2).mono (fun b hb => hb.1)) (fun j h' i u hu => ?_)
    have hi : i < 7 := by
      have := (List.getElem?_eq_some_iff.1 hu).1
      rwa [h.seven _ (List.getElem_mem h')] at this
    have h1 := h.own.cells (g := g) rfl (j * 7 + i) u (by rw [flat_get' 7 css h.seven j h' i hi]; exact hu)
    rw [Addr.add_lit] at h1
    simpa using h1

theorem RowF.room {W : World} {base : Nat} {p : Option Addr} {n cap : Nat} {gs : List Fd} {css : List (List Value)} (h : RowF W base (.slice p n cap) gs css) : gs.length ≤ cap ∧ cap ≤ maxLen := by
  rcases h.own.2 with ⟨e, hn⟩ | ⟨g, c, cur, e, _, _, h1, h2, _⟩
  · simp only [Value.slice.injEq] at e
    obtain ⟨_, _, e3⟩ := e
    exact ⟨by omega, by rw [e3]; decide⟩
  · cases e
    exact ⟨h1, h2⟩

/-- One more. -/
theorem RowF.push {W W1 : World} {base : Nat} {v : Value} {gs : List Fd} {css : List (List Value)} (h : RowF W base v gs css) {g : Fd} {cs : List Value} (hg : FdS (fun b => base ≤ b ∧ v.ownBlock ≠ some b) W g cs)
    {n : Nat} (hn : gs.length = n) {gg cap1 : Nat} (hown : W1.ownsRow base 59 7 (.slice (some ⟨gg, 0, none⟩) (n + 1) cap1) (n + 1) (css.flatMap id ++ cs)) (hgrow : W.grownBy W1 v.ownBlock) (hat : v.ownBlock = some gg ∨ gg = W.heap.size) :
    RowF W1 base (.slice (some ⟨gg, 0, none⟩) (n + 1) cap1) (gs ++ [g]) (css ++ [cs]) := by
  subst hn
  have keep : ∀ {f : Fd} {c : List Value}, FdS (fun b => base ≤ b ∧ v.ownBlock ≠ some b) W f c → FdS (fun b => base ≤ b ∧ (Value.slice (some ⟨gg, 0, none⟩) (gs.length + 1) cap1).ownBlock ≠ some b) W1 f c := fun hf => hf.keep (fun b hs hlt => by
    refine ⟨hgrow.block b hlt (fun e => hs.2 e.symm), hs.1, ?_⟩
    intro e
    simp [Value.ownBlock] at e
    rcases hat with h | h
    · exact hs.2 (by rw [h, e])
    · omega)
  refine ⟨by rw [List.length_append, List.flatMap_append]; simpa using hown, by simp [h.len], fun j h1 h2 => ?_⟩
  by_cases hj : j < gs.length
  · rw [List.getElem_append_left hj, List.getElem_append_left (by rw [h.len]; exact hj)]
    exact keep (h.fld j hj (by rw [h.len]; exact hj))
  · have e : j = gs.length := by simp at h1; omega
    subst e
    have hl := h.len
    simp only [List.getElem_append_right (Nat.le_refl _), Nat.sub_self]
    rw [List.getElem_append_right (by omega)]
    simp only [hl, Nat.sub_self, List.getElem_cons_zero]
    exact keep hg

/-! ### Bare fields -/
def Fd.named (f : Fd) (nm : ByteArray) (nl : Bool) : Fd := .mk nm nl f.k f.wd f.id f.ix f.kids
mutual
def bareF : Fd → Fd
  | .mk nm nl k wd id ix kids => if k = 19 ∨ k = 20 then (match bareL kids with | [] => .mk nm nl k wd id ix [] | g :: _ => g.named nm nl) else .mk nm nl k wd id ix (bareL kids)
def bareL : List Fd → List Fd
  | [] => []
  | f :: r => bareF f :: bareL r
end
theorem bareL_eq : ∀ l : List Fd, bareL l = l.map bareF
  | [] => rfl
  | f :: r => by rw [bareL, bareL_eq r]; rfl
mutual
/-- Every dictionary and every run has a child; none has more than 32. -/
def okF : Fd → Prop
  | .mk nm nl k wd id ix kids => (k = 19 ∨ k = 20 → kids ≠ []) ∧ kids.length ≤ 32 ∧ okL kids
def okL : List Fd → Prop
  | [] => True
  | f :: r => okF f ∧ okL r
end
mutual
theorem fd_ind {P : Fd → Prop} (h : ∀ f : Fd, (∀ g ∈ f.kids, P g) → P f) : ∀ f : Fd, P f
  | .mk nm nl k wd id ix kids => h _ (fd_indL h kids)
theorem fd_indL {P : Fd → Prop} (h : ∀ f : Fd, (∀ g ∈ f.kids, P g) → P f) : ∀ l : List Fd, ∀ g ∈ l, P g
  | [], g, hg => by cases hg
  | f :: r, g, hg => by
    rcases List.mem_cons.1 hg with e | e
    · rw [e]; exact fd_ind h f
    · exact fd_indL h r g e
end
theorem okL_mem : ∀ {l : List Fd}, okL l → ∀ f ∈ l, okF f
  | [], _, f, hf => by cases hf
  | g :: r, h, f, hf => by
    simp only [okL] at h
    rcases List.mem_cons.1 hf with e | e
    · rw [e]; exact h.1
    · exact okL_mem h.2 f e
theorem okF_kids {f : Fd} (h : okF f) : (f.k = 19 ∨ f.k = 20 → f.kids ≠ []) ∧ f.kids.length ≤ 32 ∧ okL f.kids := by
  cases f with
  | mk nm nl k wd id ix kids =>
    simp only [okF] at h
    exact h
theorem bareF_eq (f : Fd) : bareF f = if f.k = 19 ∨ f.k = 20 then (match f.kids.map bareF with | [] => .mk f.nm f.nl f.k f.wd f.id f.ix [] | g :: _ => g.named f.nm f.nl) else .mk f.nm f.nl f.k f.wd f.id f.ix (f.kids.map bareF) := by
  cases f with
  | mk nm nl k wd id ix kids =>
    rw [bareF, bareL_eq]
    rfl
theorem bareF_plain {f : Fd} (h : ¬ (f.k = 19 ∨ f.k = 20)) : bareF f = .mk f.nm f.nl f.k f.wd f.id f.ix (f.kids.map bareF) := by rw [bareF_eq, if_neg h]
theorem bareF_dict {f g : Fd} {r : List Fd} (h : f.k = 19 ∨ f.k = 20) (hk : f.kids = g :: r) : bareF f = (bareF g).named f.nm f.nl := by
  rw [bareF_eq, if_pos h, hk]
  rfl
theorem named_named (f : Fd) (a b : ByteArray) (x y : Bool) : (f.named a x).named b y = f.named b y := rfl
theorem bareF_named (f : Fd) (nm : ByteArray) (nl : Bool) : bareF (f.named nm nl) = (bareF f).named nm nl := by
  by_cases hk : f.k = 19 ∨ f.k = 20
  · cases hkd : f.kids with
    | nil =>
      rw [bareF_eq, bareF_eq f, if_pos hk, if_pos (show (f.named nm nl).k = 19 ∨ (f.named nm nl).k = 20 from hk)]
      show (match List.map bareF (f.named nm nl).kids with | [] => _ | g :: _ => _) = _
      rw [show (f.named nm nl).kids = f.kids from rfl, hkd]
      rfl
    | cons g r =>
      rw [bareF_dict (f := f.named nm nl) hk hkd, bareF_dict hk hkd]
      rfl
  · rw [bareF_plain hk, bareF_plain (f := f.named nm nl) hk]
    rfl

end Go.Fld
