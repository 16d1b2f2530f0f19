import Derived.Test.YtcllfbhlnjgomaaGreatDoorAmI
import Derived.Laws.MakeOwn
set_option linter.unusedVariables false
set_option linter.unusedSimpArgs false
/-!
  THE ABSTRACT MACHINE, part J: new objects, new lists.
-/
namespace Go.Am
open Go Go.RowKit

def isNone {α : Type} : Option α → Bool
  | none => true
  | some _ => false
theorem isNone_of {α : Type} {x : Option α} (h : isNone x = true) : x = none := by cases x with
  | none => rfl
  | some _ => cases h

/-- A new variable. -/
def newA (s : St) (i : Nat) (t : TypeId) (cs : List AV) : Option (AV × St) :=
  if isNone (s.get i) then some (.ptr i 0, s.add i (.cells cs t)) else none

theorem new_sound {P : Program} {g : Gh} {s s' : St} {w : World} {i : Nat} {t : TypeId} {cs : List AV} {vs : Array Value} {r : AV} {x : Sem Value} (h : newA s i t cs = some (r, s')) (rel : Rel g s w) (hr : RepAll g w cs vs.toList)
    (hx : x.run P w = .ok (.pointer (some ⟨w.heap.size, 0, none⟩)) (w.alloc (.cells vs t))) : Does P g w x s' (fun g' w' v => Rep g' w' r v) := by
  unfold newA at h
  split at h
  · rename_i hn
    simp only [Option.some.injEq, Prod.mk.injEq] at h
    obtain ⟨rfl, rfl⟩ := h
    have p : Push (.cells vs t) w (w.alloc (.cells vs t)) := Push.of (Same.refl w) rfl
    obtain ⟨ext, rel', hu, hb⟩ := rel.newObj (o := .cells cs t) (isNone_of hn) p ⟨vs.toList, by simp, hr⟩
    exact ⟨_, _, _, hx, ext, rel', by simp only [Rep]; exact ⟨hu, by rw [hb]⟩⟩
  · cases h

def allocA (P : Program) (s : St) (i : Nat) (t : TypeId) : Option (AV × St) :=
  match zeroOf P t with
  | some z => newA s i t (zeroCellsA z)
  | none => none
theorem alloc_sound {P : Program} {g : Gh} {s s' : St} {w : World} {i : Nat} {t : TypeId} {r : AV} (h : allocA P s i t = some (r, s')) (rel : Rel g s w) :
    Does P g w (Instr.alloc t true (.tuple #[])) s' (fun g' w' v => Rep g' w' r v) := by
  unfold allocA at h
  split at h
  · rename_i z hz
    refine new_sound (vs := z.cells) h rel (repAll_vals _) ?_
    have h1 := yld_zeroValue hz w
    simp [Instr.alloc, h1, newVar, newRow]
  · cases h

def boxA (s : St) (i : Nat) (t : TypeId) (x : AV) : Option (AV × St) := newA s i t (cellsA x)
theorem box_sound {P : Program} {g : Gh} {s s' : St} {w : World} {i : Nat} {t : TypeId} {x r : AV} {v : Value} (h : boxA s i t x = some (r, s')) (rel : Rel g s w) (hx : Rep g w x v) :
    Does P g w (Instr.box t v) s' (fun g' w' v => Rep g' w' r v) := by
  refine new_sound (vs := v.cells) h rel (cellsA_rep hx) ?_
  simp [Instr.box, newVar, newRow]

/-- The cells of so many zero values. -/
def zeroRow (z : Value) (n : Nat) : List AV := (List.range n).map fun j => .val (z.cells[j % z.cells.size]!)
theorem zeroRow_rep (g : Gh) (w : World) (z : Value) (n : Nat) : RepAll g w (zeroRow z n) ((Array.range n).map (z.cells[· % z.cells.size]!)).toList := by
  have : zeroRow z n = ((List.range n).map fun j => z.cells[j % z.cells.size]!).map .val := by simp [zeroRow]
  rw [this]
  simp only [Array.toList_map, Array.toList_range]
  exact repAll_vals _

/-- A list literal. -/
def buildSliceA (P : Program) (t : TypeId) (len : Nat) (ps : List (Nat × AV)) : Option AV :=
  match P.underlying t with
  | some (.slice e) => match szOf P e with
    | some k => match zeroOf P e with
      | some z => if Nat.ble (len * k) 16777216 then (if Nat.ble len maxLen then
          match fillA (fun i => some (i * k, k)) (zeroRow z (len * k)) ps with
          | some cs => some (.imm len cs .exact)
          | none => none
        else none) else none
      | none => none
    | none => none
  | _ => none

theorem run_buildSlice' {P : Program} (w : World) (t e : TypeId) (len k : Nat) (parts : Array (Nat × Value)) (cells : Array Value) (z : Value)
    (hu : P.underlying t = some (.slice e)) (hk : szOf P e = some k) (hz : zeroOf P e = some z) (hsmall : len * k ≤ 16777216)
    (h : Instr.fill (fun i => some (i * k, k)) ((Array.range (len * k)).map (z.cells[· % z.cells.size]!)) parts.toList = some cells) :
    (Instr.buildSlice t len parts).run P w = .ok (.slice (some ⟨w.heap.size, 0, none⟩) len len) (w.alloc (.cells cells e)) := by
  have h1 := yld_sizeOf hk w
  have h2 := yld_zeroValue hz w
  have h3 : ¬ len * k > 2 ^ 24 := by omega
  by_cases h0 : len * k = 0
  · have e0 : (Array.range (len * k)).map (z.cells[· % z.cells.size]!) = #[] := by rw [h0]; simp [Array.range_zero']
    rw [e0] at h
    simp only [Instr.buildSlice, Sem.run_bind, run_underlying hu, Result.andThen_ok, h1]
    rw [if_neg h3]
    simp [h0, h, newRow, Array.range_zero']
  · simp [Instr.buildSlice, run_underlying hu, h1, h2, h3, h0, h, newRow]

theorem buildSlice_sound {P : Program} {g : Gh} {s : St} {w : World} {t : TypeId} {len : Nat} {ps : List (Nat × AV)} {qs : Array (Nat × Value)} {r : AV} (h : buildSliceA P t len ps = some r) (rel : Rel g s w) (hp : PRep g w ps qs.toList) :
    Does P g w (Instr.buildSlice t len qs) s (fun g' w' v => Rep g' w' r v) := by
  unfold buildSliceA at h
  split at h
  · rename_i e hu
    split at h
    · rename_i k hk
      split at h
      · rename_i z hz
        split at h
        · rename_i h1
          split at h
          · rename_i h2
            split at h
            · rename_i cs hf
              cases h
              have h1 := Nat.le_of_ble_eq_true h1
              have h2 := Nat.le_of_ble_eq_true h2
              obtain ⟨out, ho, hr⟩ := fill_sound hf (zeroRow_rep g w z (len * k)) hp
              have p : Push (.cells (out.toList ++ []).toArray e (0, 0)) w (w.alloc (.cells out e)) := by
                simp only [List.append_nil, Array.toArray_toList]
                exact Push.of (Same.refl w) rfl
              obtain ⟨ext, rel', row⟩ := rel.newRow p
              exact ⟨_, _, _, run_buildSlice' w t e len k qs out z hu hk hz h1 ho, ext, rel', by simp only [Rep]; exact ⟨w.heap.size, 0, len, out.toList, rfl, Nat.le_refl _, h2, hr.ext ext, row, rfl⟩⟩
            · cases h
          · cases h
        · cases h
      · cases h
    · cases h
  · cases h

/-- 'make([]T, l, c)'. -/
def makeSliceA (P : Program) (s : St) (i : Nat) (t : TypeId) (l c : AV) : Option (AV × St) :=
  match asN l, asN c with
  | some l, some c => match P.underlying t with
    | some (.slice e) => match P.info? e with
      | some ie => match ie.zero with
        | some z => if Nat.ble l c then (if Nat.ble (ie.bytes * c) 281474976710656 then (if Nat.ble c maxLen then
            match newA s i e (zeroRow z (c * ie.size)) with
            | some (_, s') => some (.mut i 0 l c, s')
            | none => none
          else none) else none) else none
        | none => none
      | none => none
    | _ => none
  | _, _ => none

theorem madeCells_eq (z : Value) (n : Nat) : madeCells z.cells n = (Array.range n).map (z.cells[· % z.cells.size]!) := rfl

theorem makeSlice_sound {P : Program} {g : Gh} {s s' : St} {w : World} {i : Nat} {t : TypeId} {l c r : AV} {vl vc : Value} (h : makeSliceA P s i t l c = some (r, s')) (rel : Rel g s w) (hl : Rep g w l vl) (hc : Rep g w c vc) :
    Does P g w (Instr.makeSlice t vl vc) s' (fun g' w' v => Rep g' w' r v) := by
  unfold makeSliceA at h
  split at h
  · rename_i l' c' el ec
    obtain ⟨kl, rfl⟩ := asN_of el hl
    obtain ⟨kc, rfl⟩ := asN_of ec hc
    split at h
    · rename_i e hu
      split at h
      · rename_i ie hie
        split at h
        · rename_i z hz
          split at h
          · rename_i h1
            split at h
            · rename_i h2
              split at h
              · rename_i h3
                split at h
                · rename_i r' s'' hnew
                  cases h
                  have h1 := Nat.le_of_ble_eq_true h1
                  have h2 := Nat.le_of_ble_eq_true h2
                  have h3 := Nat.le_of_ble_eq_true h3
                  unfold newA at hnew
                  split at hnew
                  · rename_i hn
                    cases hnew
                    have hrun := run_make (P := P) w t e ie z hu hie hz kl kc (l' : Int) (c' : Int) (by omega) (by omega) (by rw [← Int.natCast_mul]; omega) (by simp only [maxLen] at h3; omega)
                    have p : Push (.cells (madeCells z.cells (c' * ie.size)) e (0, 0)) w (w.alloc (.cells (madeCells z.cells (c' * ie.size)) e)) := Push.of (Same.refl w) rfl
                    obtain ⟨ext, rel', hu', hb⟩ := rel.newObj (o := .cells (zeroRow z (c' * ie.size)) e) (isNone_of hn) p ⟨(madeCells z.cells (c' * ie.size)).toList, by simp, by rw [madeCells_eq]; exact zeroRow_rep g w z _⟩
                    exact ⟨_, _, _, by simp only [Int.toNat_natCast] at hrun; exact hrun, ext, rel', by simp only [Rep, hb]; exact ⟨hu', by simp, h1, h3⟩⟩
                  · cases hnew
                · cases h
              · cases h
            · cases h
          · cases h
        · cases h
      · cases h
    · cases h
  · cases h

/-- 'make(map[K]V)' whose keys are numbers. -/
def makeMapA (P : Program) (s : St) (i : Nat) (t : TypeId) (res : Option AV) : Option (AV × St) :=
  match res with
  | some _ => none
  | none => match P.underlying t with
    | some (.map key _) => match P.underlying key with
      | some (.int kk) => if isNone (s.get i) then some (.map i, s.add i (.map kk [])) else none
      | _ => none
    | _ => none
theorem makeMap_sound {P : Program} {g : Gh} {s s' : St} {w : World} {i : Nat} {t : TypeId} {res : Option AV} {vr : Option Value} {r : AV} (h : makeMapA P s i t res = some (r, s')) (rel : Rel g s w) (hr : ORepO g w res vr) :
    Does P g w (Instr.makeMap t vr) s' (fun g' w' v => Rep g' w' r v) := by
  unfold makeMapA at h
  split at h
  · cases h
  · cases hr
    split at h
    · split at h
      · rename_i kk hkk
        split at h
        · rename_i hn
          cases h
          have p : Push (.map #[] 0) w (w.alloc (.map #[] 0)) := Push.of (Same.refl w) rfl
          obtain ⟨ext, rel', hu', hb⟩ := rel.newObj (o := .map kk []) (isNone_of hn) p ⟨#[], 0, rfl, fun e he => by simp at he, fun n => rfl⟩
          exact ⟨_, _, _, rfl, ext, rel', by simp only [Rep, hb]; exact ⟨hu', trivial⟩⟩
        · cases h
      · cases h
    · cases h

end Go.Am
