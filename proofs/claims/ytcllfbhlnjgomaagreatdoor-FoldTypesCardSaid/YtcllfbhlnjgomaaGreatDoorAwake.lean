/-
  THE FRAME OF A LAW that leans on package-level variables as they are laid: a Go function of plain data that answers true and writes nothing that was there. No conditions.
-/
import GoSem.Claim
import GoSem.ClaimJoined
import GoSem.ClaimMapViews
import Derived.JoinedTies
import Derived.KernelRfl
import Derived.WalkKit
import Derived.ProofKit
import Derived.OpenShut
import Derived.ShutString
import Derived.ChangeOld
import Derived.Below
import Derived.SizedLaws
import Derived.Carry
import Derived.Test.YtcllfbhlnjgomaaGreatDoorAmZ
import Derived.Test.YtcllfbhlnjgomaaGreatDoorAmY0
import Derived.Test.YtcllfbhlnjgomaaGreatDoorCards
import Derived.Test.YtcllfbhlnjgomaaGreatDoorTie
import Derived.SevenTiedAt
set_option linter.unusedVariables false
namespace Go.Am.LawFrame
open Go Go.ChangeShapes Go.WideShapes Go.ChangeAt Go.RowKit

variable {H : Type} {enc : TypeId × Value → H} {P : Program}

theorem trodAll_below (hl : laidOutB P = true) {W W' : World} (hb : Below W.heap.size W W') :
    ∀ {ts : List TypeId} {vs : List Value} {ds : List (DataW H)} {ps : List MemPlace}, (∀ t ∈ ts, P.readableRec t = true ∧ t < P.types.size) →
      DataW.TrodAll enc P W 0 (fun _ => true) true ts vs ds ps → DataW.TrodAll enc P W' 0 (fun b => decide (b < W.heap.size)) true ts vs ds ps
  | [], [], [], _, _, h => h
  | t :: ts, v :: vs, d :: ds, ps, hr, ⟨p, q, h1, h2, e⟩ => by
    have hlt : ∀ x ∈ p, x.block < W.heap.size := by obtain ⟨m, hm⟩ := h1; exact DataW.trod_lt m _ _ _ hm
    exact ⟨p, q, Below.trod hl (hr t (by simp)).1 (hr t (by simp)).2 h1 hb hlt, trodAll_below hl hb (fun x hx => hr x (by simp [hx])) h2, e⟩

/-- What a law's walk is told: the arguments read as 'ds'; each has its type's form; no string, slice or map among them is longer than the reach. -/
structure Told (enc : TypeId × Value → H) (P : Program) (fn : Func) (W : World) (args : Array Value) (ds : List (DataW H)) : Prop where
  trod : ∃ p, DataW.TrodAll enc P W 0 (fun _ => true) true fn.params.toList args.toList ds p ∧ W.noneFrozen p
  ok : ∃ base, ∀ (j : Nat) t v, fn.params[j]? = some t → args[j]? = some v → Value.okWide P W .any base t v
  sized : (DataW.weightsEach P fn.params.toList ds).all (· ≤ reachBytes) = true

/-- The law's specification: true; each argument reads as it did. -/
def IsLaw (s : ChangeSpec) (n : Nat) : Prop := s.vars = [] ∧ ∀ (H : Type) (ds : List (DataW H)), ds.length = n → s.fn H ds = { results := [.lit (.bool true)], args := ds }

theorem trodAll_length {w : World} {base : Nat} {spare : Nat → Bool} {held : Bool} : ∀ {ts : List TypeId} {vs : List Value} {ds : List (DataW H)} {ps : List MemPlace}, DataW.TrodAll enc P w base spare held ts vs ds ps → ds.length = ts.length
  | [], [], [], _, _ => rfl
  | t :: ts, v :: vs, d :: ds, ps, ⟨p, q, h1, h2, e⟩ => by simp [trodAll_length h2]


theorem lifted {C : Checked} {os : Os} {f : FuncId} {fn : Func} {s : ChangeSpec} {tb : TypeId} {laid : List (String × DataW Unit)}
    (own : ownKnob C.prog.godebug = none) (started : os.Started) (noInit : C.prog.inits.idxOf? f = none) (hfn : C.prog.funcs[f]? = some fn)
    (hs : IsLaw s fn.params.size) (hres : fn.resultTypes = #[tb]) (htb : C.prog.underlying tb = some .bool)
    (hl : laidOutB C.prog = true) (hr : ∀ t ∈ fn.params.toList, C.prog.readableRec t = true ∧ t < C.prog.types.size)
    (witness : ∃ (w : World) (tape : Tape) (i : Input), w.os = os ∧ (w.forCall tape i).Shaped C.prog ∧ i.vars = [] ∧ Input.okWide C.prog (w.forCall tape i) .any w.heap.size f i ∧
      ((s.pre enc C.prog fn [] false (w.forCall tape i).memory i.args ∧ laidMetH C.prog laid (w.forCall tape i).memory) ∧ sizedMet enc C.prog fn (OpenSpec.ofChange s) false (w.forCall tape i).memory i.args) ∧ ({} : Assume).holds C.prog (lone (Frame.enter C.prog f i.args .normal) [] (w.forCall tape i)))
    (walk : ∀ (W : World) (args : Array Value) (ds : List (DataW H)), Told enc C.prog fn W args ds → laidMetH C.prog laid W →
      Calls C.prog f args W fun e W' => e = .returned (.bool true) ∧ Below W.heap.size W W') :
    ReturnsInHanded {} C os f .any (fun w args => (s.pre enc C.prog fn [] false w args ∧ laidMetH C.prog laid w) ∧ sizedMet enc C.prog fn (OpenSpec.ofChange s) false w args) (s.post enc C.prog fn false true false false) := by
  refine returnsInHanded_of_change_and (X := fun w _ => laidMetH C.prog laid w) (fun _ _ _ hh h => h.of_heap hh) own started noInit hfn witness ?_
  intro W base args ds gs before hval hW _ hsz hL _
  have hW' := hW
  obtain ⟨p, q, hA, hV, rfl, hfz, hnd⟩ := hW
  have hgs : gs = [] ∧ q = [] := by
    rw [hs.1] at hV
    cases gs with
    | nil => exact ⟨rfl, hV⟩
    | cons _ _ => exact hV.elim
  obtain ⟨rfl, rfl⟩ := hgs
  have hlen := trodAll_length hA
  have hfd : s.fn H (ds ++ []) = { results := [.lit (.bool true)], args := ds } := by rw [List.append_nil]; exact hs.2 H ds (by simpa using hlen)
  have hvt : s.plain.varTypes C.prog = [] := by simp [DataSpec.varTypes, ChangeSpec.plain, hs.1]
  refine (walk W args ds ⟨⟨p, hA, fun b off hp => hfz b off (by simp [hp])⟩, ⟨base, hval⟩, by simpa [hvt] using hsz⟩ hL).mono fun e W' ⟨he, bel⟩ => ?_
  subst he
  refine ⟨_, rfl, ds, [], p ++ [], [], p, [], hW', ?_, ?_, ?_, bel.frame _, fun h => by cases h⟩
  · rw [hfd, hres]
    exact trodAll_mk1 (shut_bool htb _)
  · rw [hfd]
    exact trodAll_below hl bel hr hA
  · rw [hfd, hs.1]; exact rfl

end Go.Am.LawFrame

/-
  What the document fixes of this layer holds: its closed run, in every world in which the listed variables hold what the program lays. No conditions but that.
-/
set_option linter.unusedVariables false
set_option maxRecDepth 100000
namespace Go.Proofs.YtcllfbhlnjgomaaGreatDoor
open Go Go.Am Go.RowKit

noncomputable def laidL : List (String × DataW Unit) := [("unicode/utf8.acceptRanges", Rows.laid_unicode_utf8_acceptRanges), ("colonnade/kind.says", Rows.laid_colonnade_kind_says), ("unicode/utf8.first", Rows.laid_unicode_utf8_first)]

theorem laid_glob {W : World} (h : laidMetH Tryz.prog laidL W) : ∃ g : Gh, Rel g St.empty W ∧ GlobOk gOf g W ∧ g.base = W.heap.size := by
  have h : laidMet Tryz.prog laidL W := h
  let g : Gh := { base := W.heap.size, use := fun _ => False, blk := fun _ => 0, fix := fun b _ => b < W.heap.size, tuse := fun _ => False, tok := fun _ => ⟨0, 0, 0, 0, 0⟩ }
  have key : ∀ {n : String} {d : DataW Unit} {i : Nat} {t : TypeId}, (n, d) ∈ laidL → Tryz.prog.globalNamed n = some i → (Tryz.prog.globals[i]?).map (·.type) = some t → flatB Tryz.prog t d = true → cellsD d = (flatV d).map .val → Rep g W (.rptr (cellsD d) 0) (.pointer (some ⟨i, 0, none⟩)) := by
    intro n d i t hm hg ht hb hc
    have hrd := reads_flat (Lib.laidMet.reads h hm) hg ht hb
    simp only [Rep]
    refine ⟨i, 0, flatV d, rfl, by rw [hc]; exact repAll_vals _, fun j u hj => ?_⟩
    have := hrd j u hj
    rw [Nat.zero_add]
    refine ⟨this, ?_⟩
    show i < W.heap.size
    unfold World.cell? at this
    cases hk : W.heap[i]? with
    | none => rw [hk] at this; cases this
    | some o => exact (Array.getElem?_eq_some_iff.1 hk).1
  refine ⟨g, ?_, ?_, rfl⟩
  · exact ⟨Nat.le_refl _, (fun i o h => by cases h), fun i h => h.elim, fun i j h => h.elim, fun i h => h.elim, (fun t n h => by cases h), fun t h => h.elim, fun t u h => h.elim, fun i t h => h.elim, fun b j h => h⟩
  · intro i a hi
    match i, hi with
    | 0, hi => cases hi; exact key (n := "colonnade/kind.says") (t := 169) (by simp [laidL]) (by kernel_rfl) (by kernel_rfl) (by kernel_rfl) (by kernel_rfl)
    | 1, hi => cases hi; exact key (n := "unicode/utf8.first") (t := 189) (by simp [laidL]) (by kernel_rfl) (by kernel_rfl) (by kernel_rfl) (by kernel_rfl)
    | 2, hi => cases hi; exact key (n := "unicode/utf8.acceptRanges") (t := 192) (by simp [laidL]) (by kernel_rfl) (by kernel_rfl) (by kernel_rfl) (by kernel_rfl)
    | _ + 3, hi => cases hi

/-- A call that bears no number, in whatever world. -/
theorem closed_calls {f : FuncId} {v : Value} (hc : ClosedOk Tryz.prog gOf f [] (.val v)) {W : World} (h : laidMetH Tryz.prog laidL W) : Calls Tryz.prog f #[] W fun e W' => e = .returned v ∧ Below W.heap.size W W' := by
  obtain ⟨g, rel, glob, hb⟩ := laid_glob h
  refine (callsIn_wide.1 (hc g W St.empty [] rel glob (by simp [RepAll]))).mono ?_
  intro e W' he
  cases e with
  | returned u =>
    obtain ⟨g', ext, _, hr⟩ := he
    simp only [Rep] at hr
    subst hr
    exact ⟨rfl, hb ▸ ext.below⟩
  | panicked c => exact he.elim
  | outgrown => exact he.elim

/-- What the document fixes of a join holds. -/
theorem awake_calls {W : World} (h : laidMetH Tryz.prog laidL W) : Calls Tryz.prog 5 #[] W fun e W' => e = .returned (.bool true) ∧ Below W.heap.size W W' :=
  closed_calls (closed_of_eval ok14 t14) h

end Go.Proofs.YtcllfbhlnjgomaaGreatDoor
