import Derived.Test.YtcllfbhlnjgomaaGreatDoorAmF
set_option linter.unusedVariables false
set_option linter.unusedSimpArgs false
/-!
  THE ABSTRACT MACHINE, part G: more operations that ask nothing of the world: cells, literals.
-/
namespace Go.Am
open Go Go.RowKit

def setAt (l : List AV) (off : Nat) (vs : List AV) : List AV := l.take off ++ vs ++ l.drop (off + vs.length)

theorem setAt_rep {g : Gh} {w : World} {cs us : List AV} {vs ws : List Value} (h : RepAll g w cs vs) (k : RepAll g w us ws) (off : Nat) :
    RepAll g w (setAt cs off us) (vs.take off ++ ws ++ vs.drop (off + ws.length)) := by
  unfold setAt
  rw [← k.length]
  exact ((h.take off).append k).append (h.drop _)

/-- The cells that a value takes up. -/
def cellsA : AV → List AV
  | .agg cs => cs
  | .val v => v.cells.toList.map .val
  | a => [a]

theorem cellsA_rep {g : Gh} {w : World} {a : AV} {v : Value} (h : Rep g w a v) : RepAll g w (cellsA a) v.cells.toList := by
  cases a with
  | agg cs => simp only [Rep] at h; obtain ⟨vs, rfl, h⟩ := h; exact h
  | val u => simp only [Rep] at h; subst h; exact repAll_vals _
  | ptr => have h2 := h; simp only [Rep] at h; obtain ⟨_, rfl⟩ := h; simp only [cellsA, RepAll, Value.cells]; exact ⟨_, [], rfl, h2, rfl⟩
  | rptr => have h2 := h; simp only [Rep] at h; obtain ⟨_, _, _, rfl, _⟩ := h; simp only [cellsA, RepAll, Value.cells]; exact ⟨_, [], rfl, h2, rfl⟩
  | imm => have h2 := h; simp only [Rep] at h; obtain ⟨_, _, _, _, rfl, _⟩ := h; simp only [cellsA, RepAll, Value.cells]; exact ⟨_, [], rfl, h2, rfl⟩
  | «mut» => have h2 := h; simp only [Rep] at h; obtain ⟨_, rfl, _⟩ := h; simp only [cellsA, RepAll, Value.cells]; exact ⟨_, [], rfl, h2, rfl⟩
  | map => have h2 := h; simp only [Rep] at h; obtain ⟨_, rfl⟩ := h; simp only [cellsA, RepAll, Value.cells]; exact ⟨_, [], rfl, h2, rfl⟩
  | func => have h2 := h; simp only [Rep] at h; obtain ⟨_, _, rfl, _⟩ := h; simp only [cellsA, RepAll, Value.cells]; exact ⟨_, [], rfl, h2, rfl⟩
  | yield => have h2 := h; simp only [Rep] at h; obtain ⟨_, rfl⟩ := h; simp only [cellsA, RepAll, Value.cells]; exact ⟨_, [], rfl, h2, rfl⟩
  | iface => have h2 := h; simp only [Rep] at h; obtain ⟨_, rfl, _⟩ := h; simp only [cellsA, RepAll, Value.cells]; exact ⟨_, [], rfl, h2, rfl⟩
  | tuple => have h2 := h; simp only [Rep] at h; obtain ⟨_, rfl, _⟩ := h; simp only [cellsA, RepAll, Value.cells]; exact ⟨_, [], rfl, h2, rfl⟩

def PRep (g : Gh) (w : World) : List (Nat × AV) → List (Nat × Value) → Prop
  | [], qs => qs = []
  | (i, a) :: r, qs => ∃ v q, qs = (i, v) :: q ∧ Rep g w a v ∧ PRep g w r q

def fillA (place : Nat → Option (Nat × Nat)) (cells : List AV) : List (Nat × AV) → Option (List AV)
  | [] => some cells
  | (i, a) :: rest => match place i with
    | none => none
    | some (off, size) => if Nat.beq (cellsA a).length size then (if Nat.ble (off + size) cells.length then fillA place (setAt cells off (cellsA a)) rest else none) else none

theorem foldl_set (vs : List Value) : ∀ (k off : Nat) (cells : Array Value), off + k + vs.length ≤ cells.size →
    ((vs.zipIdx k).foldl (fun cs (p : Value × Nat) => cs.setIfInBounds (off + p.2) p.1) cells).toList = cells.toList.take (off + k) ++ vs ++ cells.toList.drop (off + k + vs.length) := by
  induction vs with
  | nil => intro k off cells h; simp
  | cons c r ih =>
    intro k off cells h
    simp only [List.zipIdx_cons, List.foldl_cons, List.length_cons] at h ⊢
    rw [ih (k + 1) off _ (by rw [Array.size_setIfInBounds]; omega)]
    apply List.ext_getElem?
    intro j
    simp only [Array.toList_setIfInBounds, List.append_assoc, List.getElem?_append, List.length_take, List.length_set, Array.length_toList, List.getElem?_take, List.getElem?_drop, List.getElem?_set]
    by_cases h1 : j < off + k
    · have : j < min (off + k) cells.size := by omega
      have h3 : j < min (off + (k + 1)) cells.size := by omega
      have h4 : ¬ off + k = j := by omega
      simp [this, h3, h1, h4]; omega
    · by_cases h2 : j = off + k
      · subst h2
        have h3 : off + k < min (off + (k + 1)) cells.size := by omega
        have h4 : ¬ off + k < min (off + k) cells.size := by omega
        have h5 : off + k - min (off + k) cells.size = 0 := by omega
        have h6 : off + k < cells.size := by omega
        simp [h3, h4, h5, h6]
      · have h3 : ¬ j < min (off + (k + 1)) cells.size := by omega
        have h4 : ¬ j < min (off + k) cells.size := by omega
        have e1 : min (off + (k + 1)) cells.size = off + k + 1 := by omega
        have e2 : min (off + k) cells.size = off + k := by omega
        rw [e1] at h3 ⊢
        rw [e2] at h4 ⊢
        simp only [h3, h4, if_false]
        obtain ⟨m, rfl⟩ : ∃ m, j = off + k + 1 + m := ⟨j - (off + k + 1), by omega⟩
        have e3 : off + k + 1 + m - (off + k + 1) = m := by omega
        have e4 : off + k + 1 + m - (off + k) = m + 1 := by omega
        rw [e3, e4]
        simp only [List.getElem?_cons_succ, List.length_cons]
        by_cases h7 : m < r.length
        · have h8 : m + 1 < r.length + 1 := by omega
          simp [h7, h8]
        · have h8 : ¬ m + 1 < r.length + 1 := by omega
          have h9 : ¬ off + k = off + (k + 1) + r.length + (m - r.length) := by omega
          have e5 : off + (k + 1) + r.length + (m - r.length) = off + k + (r.length + 1) + (m + 1 - (r.length + 1)) := by omega
          simp only [h7, h8, if_false, h9]
          rw [e5]

theorem fill_step (off : Nat) (cells vs : Array Value) (h : off + vs.size ≤ cells.size) :
    (vs.zipIdx.foldl (fun cs (p : Value × Nat) => cs.setIfInBounds (off + p.2) p.1) cells).toList = cells.toList.take off ++ vs.toList ++ cells.toList.drop (off + vs.toList.length) := by
  have := foldl_set vs.toList 0 off cells (by simpa using h)
  rw [← Array.foldl_toList, Array.toList_zipIdx]
  simpa using this

theorem fill_sound {g : Gh} {w : World} {place : Nat → Option (Nat × Nat)} : ∀ {ps : List (Nat × AV)} {qs : List (Nat × Value)} {cells r : List AV} {cs : Array Value},
    fillA place cells ps = some r → RepAll g w cells cs.toList → PRep g w ps qs → ∃ out, Instr.fill place cs qs = some out ∧ RepAll g w r out.toList
  | [], qs, cells, r, cs, h, hc, hp => by
    simp only [PRep] at hp; subst hp
    simp only [fillA, Option.some.injEq] at h; subst h
    exact ⟨cs, rfl, hc⟩
  | (i, a) :: rest, qs, cells, r, cs, h, hc, hp => by
    simp only [PRep] at hp
    obtain ⟨v, q, rfl, hv, hq⟩ := hp
    simp only [fillA] at h
    split at h
    · cases h
    · rename_i off size hpl
      split at h
      · rename_i h1
        split at h
        · rename_i h2
          have h1 := Nat.eq_of_beq_eq_true h1
          have h2 := Nat.le_of_ble_eq_true h2
          have hcv := cellsA_rep hv
          have l1 : v.cells.size = size := by have := hcv.length; simp only [Array.length_toList] at this; omega
          have l2 : cs.size = cells.length := by have := hc.length; simpa using this
          have hle : off + v.cells.size ≤ cs.size := by omega
          have hs := fill_step off cs v.cells hle
          have hset := setAt_rep hc hcv off
          rw [← hs] at hset
          obtain ⟨out, ho, hr⟩ := fill_sound h hset hq
          refine ⟨out, ?_, hr⟩
          have c1 : (v.cells.size ≠ size || off + v.cells.size > cs.size) = false := by simp; omega
          simp only [Instr.fill, hpl]
          rw [c1]
          exact ho
        · cases h
      · cases h

/-- What an operand holds. -/
def EvOk (g : Gh) (w : World) (ev : Operand → Option AV) (ρ : Operand → Value) : Prop := ∀ x a, ev x = some a → Rep g w a (ρ x)

theorem EvOk.ext {g g' : Gh} {w w' : World} {ev : Operand → Option AV} {ρ : Operand → Value} (h : EvOk g w ev ρ) (e : Ext g w g' w') : EvOk g' w' ev ρ := fun x a hx => (h x a hx).ext e

def evParts (ev : Operand → Option AV) : List (Nat × Operand) → Option (List (Nat × AV))
  | [] => some []
  | (i, x) :: r => match ev x with
    | some a => match evParts ev r with
      | some q => some ((i, a) :: q)
      | none => none
    | none => none
theorem evParts_rep {g : Gh} {w : World} {ev : Operand → Option AV} {ρ : Operand → Value} (h : EvOk g w ev ρ) : ∀ {l : List (Nat × Operand)} {ps : List (Nat × AV)}, evParts ev l = some ps → PRep g w ps (l.map fun p => (p.1, ρ p.2))
  | [], ps, hp => by simp only [evParts, Option.some.injEq] at hp; subst hp; simp [PRep]
  | (i, x) :: r, ps, hp => by
    simp only [evParts] at hp
    split at hp
    · rename_i a ha
      split at hp
      · rename_i q hq
        cases hp
        simp only [PRep, List.map_cons]
        exact ⟨ρ x, _, rfl, h x a ha, evParts_rep h hq⟩
      · cases hp
    · cases hp

def evList (ev : Operand → Option AV) : List Operand → Option (List AV)
  | [] => some []
  | x :: r => match ev x with
    | some a => match evList ev r with
      | some q => some (a :: q)
      | none => none
    | none => none
theorem evList_rep {g : Gh} {w : World} {ev : Operand → Option AV} {ρ : Operand → Value} (h : EvOk g w ev ρ) : ∀ {l : List Operand} {ps : List AV}, evList ev l = some ps → RepAll g w ps (l.map ρ)
  | [], ps, hp => by simp only [evList, Option.some.injEq] at hp; subst hp; simp [RepAll]
  | x :: r, ps, hp => by
    simp only [evList] at hp
    split at hp
    · rename_i a ha
      split at hp
      · rename_i q hq
        cases hp
        simp only [RepAll, List.map_cons]
        exact ⟨ρ x, _, rfl, h x a ha, evList_rep h hq⟩
      · cases hp
    · cases hp

def evOpt (ev : Operand → Option AV) : Option Operand → Option (Option AV)
  | none => some none
  | some x => match ev x with
    | some a => some (some a)
    | none => none
def ORepO (g : Gh) (w : World) : Option AV → Option Value → Prop
  | none, v => v = none
  | some a, v => ∃ u, v = some u ∧ Rep g w a u
theorem evOpt_rep {g : Gh} {w : World} {ev : Operand → Option AV} {ρ : Operand → Value} (h : EvOk g w ev ρ) {x : Option Operand} {r : Option AV} (hx : evOpt ev x = some r) : ORepO g w r (x.map ρ) := by
  cases x with
  | none => simp only [evOpt, Option.some.injEq] at hx; subst hx; rfl
  | some x =>
    simp only [evOpt] at hx
    split at hx
    · rename_i a ha; cases hx; exact ⟨_, rfl, h x a ha⟩
    · cases hx

/-- A literal of a struct or an array. -/
def placesL (P : Program) : List Field → Option (List (Nat × Nat))
  | [] => some []
  | f :: r => match szOf P f.type with
    | some k => match placesL P r with
      | some q => some ((f.offset, k) :: q)
      | none => none
    | none => none
theorem placesL_eq {P : Program} : ∀ {fs : List Field} {q : List (Nat × Nat)}, placesL P fs = some q → fs.mapM (fun f => (P.info? f.type).map fun i => (f.offset, i.size)) = some q
  | [], q, h => by simp only [placesL, Option.some.injEq] at h; subst h; rfl
  | f :: r, q, h => by
    simp only [placesL] at h
    split at h
    · rename_i k hk
      split at h
      · rename_i q' hq
        cases h
        obtain ⟨i, hi, rfl⟩ := Option.map_eq_some_iff.1 hk
        simp [List.mapM_cons, hi, placesL_eq hq]
      · cases h
    · cases h

def zeroOf (P : Program) (t : TypeId) : Option Value := match P.info? t with
  | some i => i.zero
  | none => none
theorem yld_zeroValue {P : Program} {t : TypeId} {z : Value} (h : zeroOf P t = some z) : Yld P (zeroValue t) z := fun w => by
  unfold zeroOf at h
  split at h
  · rename_i i hi; simp [zeroValue, typeInfo, hi, h]
  · cases h

def zeroCellsA (z : Value) : List AV := z.cells.toList.map .val

def buildA (P : Program) (t : TypeId) (ps : List (Nat × AV)) : Option AV :=
  match zeroOf P t with
  | none => none
  | some z => match P.underlying t with
    | some (.struct fs) => match placesL P fs.toList with
      | some q => match fillA (fun i => q[i]?) (zeroCellsA z) ps with
        | some r => some (.agg r)
        | none => none
      | none => none
    | some (.array _ e) => match szOf P e with
      | some k => match fillA (fun i => some (i * k, k)) (zeroCellsA z) ps with
        | some r => some (.agg r)
        | none => none
      | none => none
    | _ => none

theorem build_sound {P : Program} {g : Gh} {w : World} {t : TypeId} {ps : List (Nat × AV)} {qs : Array (Nat × Value)} {r : AV} (h : buildA P t ps = some r) (hp : PRep g w ps qs.toList) :
    ∃ u, Yld P (Instr.build t qs) u ∧ Rep g w r u := by
  unfold buildA at h
  split at h
  · cases h
  · rename_i z hz
    have hz' := hz
    unfold zeroOf at hz
    split at hz
    · rename_i it hit
      split at h
      · rename_i fs hu
        split at h
        · rename_i q hq
          split at h
          · rename_i r' hf
            cases h
            obtain ⟨out, ho, hr⟩ := fill_sound (cs := z.cells) hf (repAll_vals _) hp
            refine ⟨.agg out, fun w' => run_build w' t qs out ?_, by simp only [Rep]; exact ⟨out.toList, rfl, hr⟩⟩
            simp only [Program.built, hit, hu, hz, placesL_eq hq]
            rw [← ho]
            congr 1
            funext i
            simp
          · cases h
        · cases h
      · rename_i n e hu
        split at h
        · rename_i k hk
          split at h
          · rename_i r' hf
            cases h
            obtain ⟨out, ho, hr⟩ := fill_sound (cs := z.cells) hf (repAll_vals _) hp
            obtain ⟨ie, hie, rfl⟩ := Option.map_eq_some_iff.1 hk
            refine ⟨.agg out, fun w' => run_build w' t qs out ?_, by simp only [Rep]; exact ⟨out.toList, rfl, hr⟩⟩
            simp only [Program.built, hit, hu, hz, hie]
            exact ho
          · cases h
        · cases h
      · cases h
    · cases hz

end Go.Am
