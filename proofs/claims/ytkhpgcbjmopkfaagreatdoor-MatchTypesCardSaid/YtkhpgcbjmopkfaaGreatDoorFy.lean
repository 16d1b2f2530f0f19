import Derived.RangeFuncNested
import Derived.RangeFuncBound
import Derived.RangeFuncCalls
import Derived.RangeFuncLeaves
import Derived.RangeFuncKeeps
import Derived.Shelf.Abstract
import Derived.Shelf.RegionOpen
import Derived.OwnWalkIn
import Derived.TacticsInMore
import Derived.LoopNIn
import Derived.LoopIn
import Derived.Maps.OwnIn
import Derived.Test.YtkhpgcbjmopkfaaGreatDoorFe
set_option linter.unusedVariables false
set_option maxRecDepth 100000
/-!
  ONE ROUND OF THE ITERATOR. No conditions.
-/
namespace Go.Fld
open Go Go.RowKit Go.Proofs Go.ChangeShapes Go.WideShapes Go.ChangeAt Go.Shelf
attribute [local go_sem] Oper.semAt_some


theorem wpIn_thenFalse {F : Fence} {n : Nat} {P : Program} {c : Code} {K : Act → World → Prop} {Q : Exit → Act → World → Prop} {a : Act} {w : World} (h : c.wpIn F n P (Exit.then K (fun _ _ _ => False)) a w) : c.wpIn F n P (Exit.then K Q) a w :=
  wpIn_mono h (fun e a w h => by cases e <;> first | exact h | exact h.elim)

set_option maxHeartbeats 1000000 in
/-- The round at a field: yield is called. -/
theorem yield_region {n l lb lo ll cap yb fb g p gcap k : Nat} {inD : Bool} {nm : ByteArray} {nl : Bool} {fk wd id ix : Int} {q : Option Addr} {kl cap' : Nat} {w : World} {R : Ending → World → Prop}
    {x0 x4 x5 x6 x7 x8 x9 x13 x14 x15 x16 x17 x18 x19 x20 x21 x22 x23 x24 x25 x26 x27 x28 x29 x30 x31 x32 x33 x34 x35 x36 x37 x38 x39 x40 x41 x42 x43 x44 x45 x46 x47 x48 x49 x50 x51 x52 x53 x54 x55 : Value} (hmx : Tryz.prog.follows .mixedOrders = true) (hk : k ≤ ll) (hll : ll ≤ cap) (hcap : cap ≤ 9223372036854775807)
    (y1 : w.cell? ⟨yb, 0, none⟩ = some (.func (.yield l) #[] #[]))
    (f0 : w.cell? ⟨fb, 0, none⟩ = some (.string nm))
    (f1 : w.cell? ⟨fb, 1, none⟩ = some (.bool nl))
    (f2 : w.cell? ⟨fb, 2, none⟩ = some (.int .i64 fk))
    (f3 : w.cell? ⟨fb, 3, none⟩ = some (.int .i64 wd))
    (f4 : w.cell? ⟨fb, 4, none⟩ = some (.int .i64 id))
    (f5 : w.cell? ⟨fb, 5, none⟩ = some (.int .i64 ix))
    (f6 : w.cell? ⟨fb, 6, none⟩ = some (.slice q kl cap'))
    (hY : YieldAt Fence.wide (n - 1) Tryz.prog l #[.agg #[.slice (some ⟨g, 0, none⟩) (p + 1) gcap, .slice (some ⟨lb, lo, none⟩) k cap, .string nm, .bool nl, .int .i64 fk, .int .i64 wd, .int .i64 id, .int .i64 ix, .slice q kl cap', .bool inD]] w.drew fun e W' => ∃ t : Bool, e = .returned (.bool t) ∧ R e W')
    {K : Act → World → Prop} (hK : ∀ (t : Bool) (W' : World), R (.returned (.bool t)) W' → K { tmps := #[x0, .slice (some ⟨lb, lo, none⟩) ll cap, .bool inD, .pointer (some ⟨yb, 0, none⟩), x4, x5, x6, x7, x8, x9, .int .i64 (k : Nat), .pointer (some ⟨fb, 0, none⟩), .slice (some ⟨g, 0, none⟩) (p + 1) gcap, x13, x14, x15, x16, x17, x18, x19, x20, x21, x22, x23, x24, .func (.yield l) #[] #[], .slice (some ⟨g, 0, none⟩) (p + 1) gcap, .slice (some ⟨lb, lo, none⟩) ll cap, .int .i64 (k : Nat), .slice (some ⟨lb, lo, none⟩) k cap, .agg #[.string nm, .bool nl, .int .i64 fk, .int .i64 wd, .int .i64 id, .int .i64 ix, .slice q kl cap'], .bool inD, .agg #[.slice (some ⟨g, 0, none⟩) (p + 1) gcap, .slice (some ⟨lb, lo, none⟩) k cap, .string nm, .bool nl, .int .i64 fk, .int .i64 wd, .int .i64 id, .int .i64 ix, .slice q kl cap', .bool inD], .bool t, .bool (!t), x35, x36, x37, x38, x39, x40, x41, x42, x43, x44, x45, x46, x47, x48, x49, x50, x51, x52, x53, x54, x55], defers := [] } W')
    : (Code.region 5 #[{ dst := some 25, op := Op.load 94 (Operand.tmp 3), type := 94, pos := "kind.go:122", after := #[], guard := none }, { dst := some 26, op := Op.move (Operand.tmp 12), type := 30, pos := "kind.go:122", after := #[], guard := none }, { dst := some 27, op := Op.move (Operand.tmp 1), type := 23, pos := "kind.go:122", after := #[], guard := none }, { dst := some 28, op := Op.move (Operand.tmp 10), type := 3, pos := "kind.go:122", after := #[], guard := none }, { dst := some 29, op := Op.slice 23 (Operand.tmp 27) none (some (Operand.tmp 28)) none, type := 23, pos := "kind.go:122", after := #[{ on := 2, ground := Ground.data }, { on := 3, ground := Ground.data }], guard := none }, { dst := some 30, op := Op.load 59 (Operand.tmp 11), type := 59, pos := "kind.go:122", after := #[], guard := none }, { dst := some 31, op := Op.move (Operand.tmp 2), type := 4, pos := "kind.go:122", after := #[], guard := none }, { dst := some 32, op := Op.build 82 #[(0, Operand.tmp 26), (1, Operand.tmp 29), (2, Operand.tmp 30), (3, Operand.tmp 31)], type := 82, pos := "kind.go:122", after := #[{ on := 1, ground := Ground.data }, { on := 4, ground := Ground.data }, { on := 5, ground := Ground.data }, { on := 6, ground := Ground.data }], guard := none }, { dst := some 33, op := Op.call { callee := Callee.value (Operand.tmp 25), args := #[Operand.tmp 32], argTypes := #[82] }, type := 4, pos := "kind.go:122", after := #[{ on := 0, ground := Ground.data }, { on := 7, ground := Ground.data }], guard := none }, { dst := some 34, op := Op.unOp UnOp.not 4 (Operand.tmp 33), type := 4, pos := "kind.go:122", after := #[{ on := 8, ground := Ground.data }], guard := none }] true).wpIn Fence.wide n Tryz.prog (Exit.then K (fun _ _ _ => False)) { tmps := #[x0, .slice (some ⟨lb, lo, none⟩) ll cap, .bool inD, .pointer (some ⟨yb, 0, none⟩), x4, x5, x6, x7, x8, x9, .int .i64 (k : Nat), .pointer (some ⟨fb, 0, none⟩), .slice (some ⟨g, 0, none⟩) (p + 1) gcap, x13, x14, x15, x16, x17, x18, x19, x20, x21, x22, x23, x24, x25, x26, x27, x28, x29, x30, x31, x32, x33, x34, x35, x36, x37, x38, x39, x40, x41, x42, x43, x44, x45, x46, x47, x48, x49, x50, x51, x52, x53, x54, x55], defers := [] } w := by
  have hdd : ∀ k : Nat, (Fence.wide.depth.isSome = true → 1 ≤ k) := fun k h => by simp [Fence.wide] at h
  obtain ⟨fn, tmps, assign, body, hyy, hRR⟩ := hY
  have hro : Fence.wide.round = none := rfl
  have HK := Lib.hid hK
  clear hK
  have hfn : ∀ f, Fence.wide.fn f := fun _ => trivial
  gi_region_with_o ((try refine ⟨hdd _, ?_⟩); refine hRR.mono ?_; clear hRR hyy; rintro e W3 ⟨t, rfl, HT⟩)
  all_goals exact HK.out _ _ HT

end Go.Fld
