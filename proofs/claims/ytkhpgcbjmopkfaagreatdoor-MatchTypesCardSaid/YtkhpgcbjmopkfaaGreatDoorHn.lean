import Derived.Test.YtkhpgcbjmopkfaaGreatDoorHl
import Derived.Test.YtkhpgcbjmopkfaaGreatDoorHg
set_option linter.unusedVariables false
set_option maxRecDepth 100000
/-!
  A SCHEMA COMES BACK. No conditions.
-/
namespace Go.Fld
open Go Go.RowKit Go.Proofs Go.ChangeShapes Go.WideShapes Go.ChangeAt Go.Shelf

/-- A schema without notes and an error come back. -/
def SchemaPost (w : World) (r : List Fd × Int) (e : Ending) (w' : World) : Prop := ∃ v, e = .returned (.tuple #[.agg #[v, .slice none 0 0], .int .i64 r.2]) ∧ FdsAt w' r.1 v ∧ Below w.heap.size w w'

theorem schema_result {fn : Func} {i j : Nat} (hfn : fn.results = #[.cell i 26, .tmp j]) {W : World} {tmps : Array Value} {rb : Nat} {c0 c1 v : Value} (ht : tmps.getD i undef = .pointer (some ⟨rb, 0, none⟩)) (hv : tmps.getD j undef = v) (hw : RowAt W rb [c0, c1]) :
    (results fn tmps).run Tryz.prog W = .ok (.tuple #[.agg #[c0, c1], v]) W := by
  have h0 := hw 0 _ rfl
  have h1 := hw 1 _ rfl
  rw [Array.getD_eq_getD_getElem?] at ht hv
  simp [results, hfn, go_sem, ht, hv, h0, h1]

/-- What lies in the result's box comes back. -/
theorem schema_back {fn : Func} {i j : Nat} (hfn : fn.results = #[.cell i 26, .tmp j]) {w W : World} {rb : Nat} {L : List Fd} {er : Int} {v : Value} (hbx : BoxN W rb 26 [v, .slice none 0 0]) (hB : Below w.heap.size w W) (hg : FdsAt W L v)
    {tmps : Array Value} (ht : tmps.getD i undef = .pointer (some ⟨rb, 0, none⟩)) (hv : tmps.getD j undef = .int .i64 er) : bodyPost Tryz.prog fn (SchemaPost w (L, er)) Exit.ret { tmps := tmps, defers := [] } W :=
  bodyPost_ret (schema_result hfn ht hv hbx.row) rfl ⟨v, rfl, hg, hB⟩
theorem fds_none (W : World) : FdsAt W [] (.slice none 0 0) := ⟨none, 0, rfl, Nat.le_refl _, Nat.zero_le _, trivial⟩
/-- Two cells are laid into a box. -/
theorem put2_box {W : World} {rb : Nat} {t : TypeId} {l : List Value} (hl : l.length = 2) (h : BoxN W rb t l) (c0 c1 : Value) : BoxN ((W.setCell ⟨rb, 0, none⟩ c0).setCell ⟨rb, 1, none⟩ c1) rb t [c0, c1] := by
  have b := (h.set 0 c0).set 1 c1
  match l, hl with
  | [_, _], _ => exact b
theorem put2_below {W w : World} {n rb : Nat} (h : Below n w W) (hn : n ≤ rb) (c0 c1 : Value) : Below n w ((W.setCell ⟨rb, 0, none⟩ c0).setCell ⟨rb, 1, none⟩ c1) :=
  (h.setCell (p := ⟨rb, 0, none⟩) hn c0).setCell (p := ⟨rb, 1, none⟩) hn c1

/-- A growing row stays while a cell ahead of it is written (the box that holds its slice). -/
theorem RowF.setBelow {W : World} {base : Nat} {v : Value} {gs : List Fd} {css : List (List Value)} (h : RowF W base v gs css) {a : Addr} (ha : a.block < base) (u : Value) : RowF (W.setCell a u) base v gs css :=
  ⟨ownsRow_setCell_below h.own ha u, h.len, fun j h1 h2 => (h.fld j h1 h2).keep (fun b hb hlt => ⟨Below.heap_setCell _ _ _ b (by have := hb.1; omega), hb⟩)⟩

end Go.Fld
