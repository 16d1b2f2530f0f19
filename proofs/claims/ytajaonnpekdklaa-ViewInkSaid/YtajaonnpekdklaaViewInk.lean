/-
  Every script of an ink, of any bound, is answered as the reference answers; ViewInk returns true. No conditions.
-/
import Derived.Test.YtajaonnpekdklaaInkD
import Derived.Test.YtajaonnpekdklaaOpen
namespace Go.Proofs.Ytajaonnpekdklaa.viewInk
open Go.ChangeShapes Go.WideShapes Go.ChangeAt Go.RowKit Mem Ink
set_option linter.unusedVariables false
set_option maxRecDepth 100000

section
variable {H : Type} {enc : TypeId × Value → H}
theorem opOf {w : World} {n : Nat} {cs : List Value} {x : DataW H × List MemPlace} (h : DataW.trod enc Try.prog w 0 (fun _ => true) true n 40 cs = some x) :
    ∃ o : OpD, cs = [.int .i64 o.kind, .int .u64 o.x, .int .i64 o.n, .string o.s] ∧ OpOk o := by
  have hl := Open.struct_len Try.underlying40 h
  rw [show Try.prog.cellsOf 40 = 4 from by kernel_rfl] at hl
  match cs, hl with
  | [c0, c1, c2, c3], _ =>
    obtain ⟨_, _, f0⟩ := Open.field Try.underlying40 h 0 3 0 1 rfl (by kernel_rfl)
    obtain ⟨_, _, f1⟩ := Open.field Try.underlying40 h 1 34 1 1 rfl (by kernel_rfl)
    obtain ⟨_, _, f2⟩ := Open.field Try.underlying40 h 2 3 2 1 rfl (by kernel_rfl)
    obtain ⟨_, _, f3⟩ := Open.field Try.underlying40 h 3 9 3 1 rfl (by kernel_rfl)
    obtain ⟨a, e0, _, w0⟩ := DataW.trod_int Try.underlying3 f0
    obtain ⟨b, e1, _, w1⟩ := DataW.trod_int Try.underlying34 f1
    obtain ⟨c, e2, _, w2⟩ := DataW.trod_int Try.underlying3 f2
    obtain ⟨s, e3, _, w3⟩ := DataW.trod_string Try.underlying9 f3
    simp at e0 e1 e2 e3
    subst e0 e1 e2 e3
    have b1 := bounds_u64 w1
    exact ⟨⟨a, b, c, s⟩, rfl, b1.1, b1.2, w3⟩
end

theorem walk {H : Type} {enc : TypeId × Value → H} (W : World) (args : Array Value) (ds : List (DataW H)) (told : LawFrame.Told enc Try.prog Try.f5 W args ds) :
    Calls Try.prog 5 args W fun e W' => e = .returned (.bool true) ∧ Below W.heap.size W W' := by
  obtain ⟨⟨p, hA, _⟩, ⟨base, hval⟩, hsz⟩ := told
  rw [Try.params5] at hA hval hsz
  obtain ⟨v0, v1, d0, d1, p0, p1, rfl, rfl, rfl, h0, h1⟩ := trodAll_two hA
  obtain ⟨a0, rfl, rfl, rfl, w0⟩ := open_int Try.underlying3 (hval 0 3 v0 rfl rfl) h0
  obtain ⟨a1, len, cap, rfl⟩ := okWide_slice Try.underlying29 (hval 1 29 v1 rfl rfl)
  obtain ⟨hl, hm, CS, D, n, hel, _⟩ := Open.slice Try.underlying29 (by rw [show Try.prog.cellsOf 40 = 4 from by kernel_rfl]; omega) h1
  rw [show Try.prog.cellsOf 40 = 4 from by kernel_rfl] at hel
  obtain ⟨l, hll, hlo⟩ := Open.list_of (n := len) (p := fun i o => CS i = [.int .i64 o.kind, .int .u64 o.x, .int .i64 o.n, .string o.s] ∧ OpOk o) (fun i hi => by
    obtain ⟨_, ⟨Pl, h2⟩, _⟩ := hel i hi
    exact opOf h2)
  subst hll
  unfold maxLen at hm
  refine ink_walk (L := fun _ => 0) a0 a1 cap l (by omega) ?_ (fun k hk => (hlo k hk).2) (fun _ _ => rfl)
  intro k hk
  obtain ⟨_, _, b, off, hp, hc⟩ := hel k hk
  rw [(hlo k hk).1] at hc
  exact ⟨b, off, hp, rfl, hc 0 (by omega), hc 1 (by omega), hc 2 (by omega), hc 3 (by omega)⟩

theorem isLaw : LawFrame.IsLaw Rows.viewInkSpec 2 := ⟨rfl, fun H ds h => by match ds, h with | [_, _], _ => rfl⟩

theorem lifted (os : Os) (started : os.Started) (H : Type) (enc : TypeId × Value → H) :
    ReturnsInHanded {} Try.checked os 5 .any (Rows.viewInkSpec.pre6 enc Try.prog Try.f5 Rows.viewInkRow.domain false) (Rows.viewInkSpec.post enc Try.prog Try.f5 false true false false) :=
  LawFrame.lifted (C := Try.checked) (tb := 4) (by kernel_rfl) started (by kernel_rfl) Try.func5 isLaw (by kernel_rfl) Try.underlying4 (by kernel_rfl)
    (by rw [Try.params5]; intro t ht; simp at ht; rcases ht with rfl | rfl <;> exact ⟨by kernel_rfl, of_decide_eq_true (by kernel_rfl)⟩)
    (ChangeSpec.witness6 (enc := enc) (C := Try.checked) false ⟨#[], #[.int .i64 0, .slice none 0 0], []⟩ 8 (by kernel_rfl) (by kernel_rfl) (by kernel_rfl) (by kernel_rfl)) walk

theorem over : Rows.viewInkRow.holds Try.pinned (OpenSpec.ofChange Rows.viewInkSpec) :=
  OpenClaim.holds_of_wide 5 Try.f5 rfl rfl rfl rfl rfl rfl rfl ⟨rfl, rfl, rfl, rfl, rfl⟩ rfl rfl rfl rfl rfl (by kernel_rfl) Try.func5 (by kernel_rfl)
    (of_decide_eq_true (by kernel_rfl)) (by unfold Func.isWrapper; first | (rw [if_pos (by decide +kernel)]; kernel_rfl) | (rw [if_neg (by decide +kernel)]; exact ⟨rfl, rfl⟩))
    (fun os started H enc _ => lifted os started H enc)

/-- ████ THE STATEMENT ████ -/
theorem proved : Rows.ViewInkSaid := over
#print axioms proved
end Go.Proofs.Ytajaonnpekdklaa.viewInk
