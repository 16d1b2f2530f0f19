import Derived.Test.YtkhpgcbjmopkfaaGreatDoorFp
set_option linter.unusedVariables false
set_option maxRecDepth 100000
/-!
  FIELDS COPIED: the program's ownField. No conditions.
-/
namespace Go.Fld
open Go Go.RowKit Go.Proofs Go.ChangeShapes Go.WideShapes Go.ChangeAt Go.Shelf

theorem info59 : (Tryz.prog.info? 59).map (fun i => (i.zero.map (fun z => z.cells.size), i.size, i.bytes)) = some (some 7, 7, 80) := by kernel_rfl
theorem und23 : Tryz.prog.underlying 23 = some (.slice 59) := by kernel_rfl
theorem info28_parts : ∃ i z, Tryz.prog.info? 59 = some i ∧ i.zero = some z ∧ z.cells.size = 7 ∧ i.size = 7 ∧ i.bytes = 80 := by
  obtain ⟨i, hi, hzz⟩ := Option.map_eq_some_iff.1 info59
  simp only [Prod.mk.injEq] at hzz
  obtain ⟨h1, h2, h3⟩ := hzz
  obtain ⟨z, hz, hs⟩ := Option.map_eq_some_iff.1 h1
  exact ⟨i, z, hi, hz, hs, h2, h3⟩

/-- A field comes back, in memory of its own. -/
def FieldPost (w : World) (g : Fd) (e : Ending) (w' : World) : Prop := ∃ p cap, e = .returned (.agg #[.string g.nm, .bool g.nl, .int .i64 g.k, .int .i64 g.wd, .int .i64 g.id, .int .i64 g.ix, .slice p g.kids.length cap]) ∧
  FdS (fun b => w.heap.size ≤ b) w' g [.string g.nm, .bool g.nl, .int .i64 g.k, .int .i64 g.wd, .int .i64 g.id, .int .i64 g.ix, .slice p g.kids.length cap] ∧ Below w.heap.size w w'

theorem field_result {fn : Func} (hfn : fn.results = #[.cell 2 59]) {W : World} {tmps : Array Value} {rb : Nat} {c0 c1 c2 c3 c4 c5 c6 : Value} (ht : tmps.getD 2 undef = .pointer (some ⟨rb, 0, none⟩)) (hw : RowAt W rb [c0, c1, c2, c3, c4, c5, c6]) :
    (results fn tmps).run Tryz.prog W = .ok (.agg #[c0, c1, c2, c3, c4, c5, c6]) W := by
  have h0 := hw 0 _ rfl
  have h1 := hw 1 _ rfl
  have h2 := hw 2 _ rfl
  have h3 := hw 3 _ rfl
  have h4 := hw 4 _ rfl
  have h5 := hw 5 _ rfl
  have h6 := hw 6 _ rfl
  rw [Array.getD_eq_getD_getElem?] at ht
  simp [results, hfn, go_sem, ht, h0, h1, h2, h3, h4, h5, h6]

/-- Seven cells are laid into a box. -/
def put7 (W : World) (rb : Nat) (c0 c1 c2 c3 c4 c5 c6 : Value) : World :=
  ((((((W.setCell ⟨rb, 0, none⟩ c0).setCell ⟨rb, 1, none⟩ c1).setCell ⟨rb, 2, none⟩ c2).setCell ⟨rb, 3, none⟩ c3).setCell ⟨rb, 4, none⟩ c4).setCell ⟨rb, 5, none⟩ c5).setCell ⟨rb, 6, none⟩ c6
theorem put7_box {W : World} {rb : Nat} {l : List Value} (hl : l.length = 7) (h : BoxN W rb 59 l) (c0 c1 c2 c3 c4 c5 c6 : Value) : BoxN (put7 W rb c0 c1 c2 c3 c4 c5 c6) rb 59 [c0, c1, c2, c3, c4, c5, c6] := by
  have b := ((((((h.set 0 c0).set 1 c1).set 2 c2).set 3 c3).set 4 c4).set 5 c5).set 6 c6
  match l, hl with
  | [_, _, _, _, _, _, _], _ => exact b
theorem put7_other {W : World} {rb k : Nat} (hk : k ≠ rb) (c0 c1 c2 c3 c4 c5 c6 : Value) : (put7 W rb c0 c1 c2 c3 c4 c5 c6).heap[k]? = W.heap[k]? := by
  unfold put7
  rw [Below.heap_setCell _ _ _ k hk, Below.heap_setCell _ _ _ k hk, Below.heap_setCell _ _ _ k hk, Below.heap_setCell _ _ _ k hk, Below.heap_setCell _ _ _ k hk, Below.heap_setCell _ _ _ k hk, Below.heap_setCell _ _ _ k hk]
theorem put7_below {W w : World} {n rb : Nat} (h : Below n w W) (hn : n ≤ rb) (c0 c1 c2 c3 c4 c5 c6 : Value) : Below n w (put7 W rb c0 c1 c2 c3 c4 c5 c6) :=
  ((((((h.setCell (p := ⟨rb, 0, none⟩) hn c0).setCell (p := ⟨rb, 1, none⟩) hn c1).setCell (p := ⟨rb, 2, none⟩) hn c2).setCell (p := ⟨rb, 3, none⟩) hn c3).setCell (p := ⟨rb, 4, none⟩) hn c4).setCell (p := ⟨rb, 5, none⟩) hn c5).setCell (p := ⟨rb, 6, none⟩) hn c6

/-- The field is laid into the result's box and comes back. -/
theorem field_back {fn : Func} (hfn : fn.results = #[.cell 2 59]) {w W : World} {rb : Nat} {l : List Value} (hl : l.length = 7) (hbx : BoxN W rb 59 l) (hw : w.heap.size ≤ rb) (hB : Below w.heap.size w W) {g : Fd} {p : Option Addr} {cap : Nat} {S : Nat → Prop} (hS : ∀ b, S b → rb < b)
    (hg : FdS S W g [.string g.nm, .bool g.nl, .int .i64 g.k, .int .i64 g.wd, .int .i64 g.id, .int .i64 g.ix, .slice p g.kids.length cap]) {tmps : Array Value} (ht : tmps.getD 2 undef = .pointer (some ⟨rb, 0, none⟩)) :
    bodyPost Tryz.prog fn (FieldPost w g) Exit.ret { tmps := tmps, defers := [] } (put7 W rb (.string g.nm) (.bool g.nl) (.int .i64 g.k) (.int .i64 g.wd) (.int .i64 g.id) (.int .i64 g.ix) (.slice p g.kids.length cap)) := by
  refine bodyPost_ret (field_result hfn ht (put7_box hl hbx _ _ _ _ _ _ _).row) rfl ⟨p, cap, rfl, ?_, put7_below hB hw _ _ _ _ _ _ _⟩
  exact hg.keep (fun b hs hlt => ⟨put7_other (by have := hS b hs; omega) _ _ _ _ _ _ _, by have := hS b hs; omega⟩)

end Go.Fld
