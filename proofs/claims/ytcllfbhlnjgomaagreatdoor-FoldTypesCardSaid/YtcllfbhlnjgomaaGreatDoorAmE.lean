import Derived.Test.YtcllfbhlnjgomaaGreatDoorAmD
import Derived.Laws.Cells
import Derived.Laws.Entries
import Derived.Deep.MidRow
set_option linter.unusedVariables false
set_option linter.unusedSimpArgs false
/-!
  THE ABSTRACT MACHINE, part E: operations that ask nothing of the world.
-/
namespace Go.Am
open Go Go.RowKit

/-- What a computation comes to that asks nothing of the world. -/
def pureOf (P : Program) {α : Type} : Sem α → Option α
  | .pure a => some a
  | .program k => pureOf P (k P)
  | _ => none

def Yld {α : Type} (P : Program) (x : Sem α) (v : α) : Prop := ∀ w, x.run P w = .ok v w

theorem pureOf_run {P : Program} {α : Type} : ∀ {x : Sem α} {v : α}, pureOf P x = some v → Yld P x v
  | .pure a, v, h => fun w => by simp only [pureOf, Option.some.injEq] at h; subst h; rfl
  | .program k, v, h => fun w => pureOf_run (x := k P) h w
  | .load _ _ _, _, h => by cases h
  | .store _ _ _ _, _, h => by cases h
  | .new _ _, _, h => by cases h
  | .shape _ _, _, h => by cases h
  | .freeze _ _ _, _, h => by cases h
  | .frozen _ _, _, h => by cases h
  | .getObj _ _, _, h => by cases h
  | .setObj _ _ _, _, h => by cases h
  | .choose _ _, _, h => by cases h
  | .sys _ _, _, h => by cases h
  | .mark _ _, _, h => by cases h
  | .halt _, _, h => by cases h

theorem Yld.bind {α β : Type} {P : Program} {x : Sem α} {f : α → Sem β} {a : α} {b : β} (h : Yld P x a) (k : Yld P (f a) b) : Yld P (x >>= f) b := fun w => by
  rw [Sem.run_bind, h w]; exact k w
theorem Yld.pure {α : Type} {P : Program} (a : α) : Yld P (Pure.pure a : Sem α) a := fun _ => rfl
theorem yld_underlying {P : Program} {t : TypeId} {d : TypeDesc} (h : P.underlying t = some d) : Yld P (underlying t) d := run_underlying h

def szOf (P : Program) (t : TypeId) : Option Nat := (P.info? t).map (·.size)
theorem yld_typeInfo {P : Program} {t : TypeId} {i : TypeInfo} (h : P.info? t = some i) : Yld P (typeInfo t) i := fun w => by simp [typeInfo, h]
theorem yld_sizeOf {P : Program} {t : TypeId} {k : Nat} (h : szOf P t = some k) : Yld P (sizeOf t) k := fun w => by
  unfold szOf at h
  obtain ⟨i, hi, rfl⟩ := Option.map_eq_some_iff.1 h
  simp [sizeOf, typeInfo, hi]

def isAggO (P : Program) (t : TypeId) : Option Bool := match P.underlying t with
  | some (.struct _) => some true
  | some (.array _ _) => some true
  | some _ => some false
  | none => none
theorem yld_isAgg {P : Program} {t : TypeId} {b : Bool} (h : isAggO P t = some b) : Yld P (isAgg t) b := fun w => by
  unfold isAggO at h
  unfold isAgg
  cases hu : P.underlying t with
  | none => rw [hu] at h; cases h
  | some d =>
    rw [hu] at h
    rw [Sem.run_bind, run_underlying hu w]
    cases d <;> simp_all

/-- Some cells out of a row, as a value of a type. -/
def partA (P : Program) (t : TypeId) (cs : List AV) (off : Nat) : Option AV :=
  match isAggO P t with
  | some true => match szOf P t with
    | some k => some (.agg ((cs.drop off).take k))
    | none => none
  | some false => cs[off]?
  | none => none

theorem part_sound {P : Program} {g : Gh} {w : World} {t : TypeId} {cs : List AV} {vs : List Value} {off : Nat} {r : AV} (h : partA P t cs off = some r) (hr : RepAll g w cs vs) :
    ∃ v, Yld P (part t vs.toArray off) v ∧ Rep g w r v := by
  unfold partA at h
  split at h
  · rename_i ha
    split at h
    · rename_i k hk
      cases h
      refine ⟨.agg ((vs.drop off).take k).toArray, ?_, by simp only [Rep]; exact ⟨_, rfl, (hr.drop off).take k⟩⟩
      unfold part
      refine (yld_isAgg ha).bind ?_
      simp only [if_true]
      refine (yld_sizeOf hk).bind ?_
      have : (vs.toArray.extract off (off + k)) = ((vs.drop off).take k).toArray := by
        simp [List.extract_toArray, List.extract_eq_take_drop]
      rw [this]
      exact Yld.pure _
    · cases h
  · rename_i ha
    obtain ⟨v, hv, hrv⟩ := hr.get h
    refine ⟨v, ?_, hrv⟩
    unfold part
    refine (yld_isAgg ha).bind ?_
    have : vs.toArray[off]? = some v := by simpa using hv
    simp only [Bool.false_eq_true, if_false, this]
    exact Yld.pure _
  · cases h

end Go.Am
