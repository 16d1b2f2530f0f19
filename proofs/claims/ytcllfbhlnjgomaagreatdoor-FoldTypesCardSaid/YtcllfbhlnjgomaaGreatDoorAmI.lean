import Derived.Test.YtcllfbhlnjgomaaGreatDoorAmH
set_option linter.unusedVariables false
set_option linter.unusedSimpArgs false
/-!
  THE ABSTRACT MACHINE, part I: reading, writing, new objects.
-/
namespace Go.Am
open Go Go.RowKit

/-- A computation that reads. -/
def Rds (P : Program) (g : Gh) (w : World) (x : Sem Value) (r : AV) : Prop := ∃ u, x.run P w = .ok u w ∧ Rep g w r u
/-- A computation that turns the memory. -/
def Does (P : Program) {α : Type} (g : Gh) (w : World) (x : Sem α) (s' : St) (ok : Gh → World → α → Prop) : Prop :=
  ∃ u w' g', x.run P w = .ok u w' ∧ Ext g w g' w' ∧ Rel g' s' w' ∧ ok g' w' u

/-! ### Reading -/
def partB (P : Program) (t : TypeId) (cs : List AV) (off : Nat) : Option AV :=
  match isAggO P t with
  | some true => match szOf P t with
    | some k => if Nat.ble (off + k) cs.length then some (.agg ((cs.drop off).take k)) else none
    | none => none
  | some false => cs[off]?
  | none => none

theorem load_row {P : Program} {g : Gh} {w : World} {t : TypeId} {cs : List AV} {vs : List Value} {b o off : Nat} {r : AV} (h : partB P t cs off = some r) (hr : RepAll g w cs vs)
    (hrow : ∀ j u, vs[j]? = some u → w.cell? ⟨b, o + j, none⟩ = some u) : Rds P g w (Instr.loadAt t (.pointer (some ⟨b, o + off, none⟩))) r := by
  unfold partB at h
  split at h
  · rename_i ha
    split at h
    · rename_i k hk
      split at h
      · rename_i hle
        have hle := Nat.le_of_ble_eq_true hle
        cases h
        have hlen : ((vs.drop off).take k).length = k := by rw [List.length_take, List.length_drop, hr.length]; omega
        obtain ⟨d, hd, hrow'⟩ : ∃ d, P.underlying t = some d ∧ d.isRow = true := by
          unfold isAggO at ha
          split at ha
          · rename_i f hu; exact ⟨_, hu, rfl⟩
          · rename_i f hu; exact ⟨_, hu, rfl⟩
          · cases ha
          · cases ha
        refine ⟨_, run_loadAt_mid w b (o + off) t ((vs.drop off).take k) d ?_ hd hrow' (by rw [hlen]; exact hk), by simp only [Rep]; exact ⟨_, rfl, (hr.drop off).take k⟩⟩
        intro j v hj
        rw [List.getElem?_take] at hj
        split at hj
        · rw [List.getElem?_drop] at hj
          rw [Nat.add_assoc]
          exact hrow _ _ hj
        · cases hj
      · cases h
    · cases h
  · rename_i ha
    obtain ⟨v, hv, hrv⟩ := hr.get h
    refine ⟨v, ?_, hrv⟩
    have h1 := yld_isAgg ha w
    have h2 := hrow _ _ hv
    simp [Instr.loadAt, Instr.sureAddr, loadVar, h1, run_load, h2]
  · cases h

theorem cells_row {w : World} {b : Nat} {vs : List Value} {t : TypeId} {fr : Nat × Nat} (h : w.heap[b]? = some (.cells vs.toArray t fr)) : ∀ j u, vs[j]? = some u → w.cell? ⟨b, 0 + j, none⟩ = some u := fun j u hj => by
  simp [World.cell?, h, hj]

def loadA (P : Program) (s : St) (t : TypeId) : AV → Option AV
  | .ptr i off => match s.get i with
    | some (.cells cs _) => partB P t cs off
    | _ => none
  | .rptr cs off => partB P t cs off
  | _ => none

theorem load_sound {P : Program} {g : Gh} {s : St} {w : World} {t : TypeId} {x r : AV} {v : Value} (h : loadA P s t x = some r) (rel : Rel g s w) (hr : Rep g w x v) : Rds P g w (Instr.loadAt t v) r := by
  unfold loadA at h
  split at h
  · rename_i i off
    split at h
    · rename_i cs ty hi
      simp only [Rep] at hr
      obtain ⟨h1, rfl⟩ := hr
      obtain ⟨_, _, vs, h2, h3⟩ := rel.objs i _ hi
      have := load_row (b := g.blk i) (o := 0) h h3 (cells_row h2)
      simpa using this
    · cases h
  · simp only [Rep] at hr
    obtain ⟨b, o, vs, rfl, h2, h3⟩ := hr
    exact load_row h h2 (fun j u hj => (h3 j u hj).1)
  · cases h

/-! ### Writing -/
def oneA : AV → Bool
  | .agg _ => false
  | .tuple _ => false
  | .val v => v.oneCell'
  | _ => true
def oneAll : List AV → Bool
  | [] => true
  | a :: r => if oneA a then oneAll r else false
theorem oneA_of {g : Gh} {w : World} {a : AV} {v : Value} (h : oneA a = true) (hr : Rep g w a v) : v.oneCell' = true := by
  cases a with
  | agg => cases h
  | tuple => cases h
  | val u => simp only [Rep] at hr; subst hr; exact h
  | ptr => simp only [Rep] at hr; obtain ⟨_, rfl⟩ := hr; rfl
  | rptr => simp only [Rep] at hr; obtain ⟨_, _, _, rfl, _⟩ := hr; rfl
  | imm => simp only [Rep] at hr; obtain ⟨_, _, _, _, rfl, _⟩ := hr; rfl
  | «mut» => simp only [Rep] at hr; obtain ⟨_, rfl, _⟩ := hr; rfl
  | map => simp only [Rep] at hr; obtain ⟨_, rfl⟩ := hr; rfl
  | func => simp only [Rep] at hr; obtain ⟨_, _, rfl, _⟩ := hr; rfl
  | yield => simp only [Rep] at hr; obtain ⟨_, rfl⟩ := hr; rfl
  | iface => simp only [Rep] at hr; obtain ⟨_, rfl, _⟩ := hr; rfl
theorem oneAll_of {g : Gh} {w : World} : ∀ {cs : List AV} {vs : List Value}, oneAll cs = true → RepAll g w cs vs → ∀ v ∈ vs, v.oneCell' = true
  | [], vs, h, hr => by simp only [RepAll] at hr; subst hr; intro v hv; cases hv
  | a :: r, vs, h, hr => by
    simp only [RepAll] at hr
    obtain ⟨v, q, rfl, h1, h2⟩ := hr
    simp only [oneAll] at h
    split at h
    · rename_i ha
      intro u hu
      rcases List.mem_cons.1 hu with rfl | hu
      · exact oneA_of ha h1
      · exact oneAll_of h h2 u hu
    · cases h

theorem setCells_fold (b o : Nat) (T : TypeId) (fr : Nat × Nat) : ∀ (vs : List Value) (k : Nat) (w : World) (C : Array Value), w.heap[b]? = some (.cells C T fr) →
    (w.setCells b (o + k) vs).heap[b]? = some (.cells ((vs.zipIdx k).foldl (fun cs (p : Value × Nat) => cs.setIfInBounds (o + p.2) p.1) C) T fr)
  | [], k, w, C, h => h
  | v :: r, k, w, C, h => by
    simp only [World.setCells, List.zipIdx_cons, List.foldl_cons]
    refine setCells_fold b o T fr r (k + 1) _ _ ?_
    simp [World.setCell, Array.getElem?_modify, h]

theorem setCells_but (b : Nat) : ∀ (vs : List Value) (o : Nat) (w : World), But b w (w.setCells b o vs)
  | [], o, w => ⟨rfl, rfl, rfl, Nat.le_refl _, fun _ _ _ => rfl⟩
  | v :: r, o, w => by
    have h := setCells_but b r (o + 1) (w.setCell ⟨b, o, none⟩ v)
    have hs : (w.setCell ⟨b, o, none⟩ v).heap.size = w.heap.size := by simp [World.setCell]
    refine ⟨h.os, h.tape, h.output, by rw [← hs]; exact h.size, fun j hj hne => ?_⟩
    simp only [World.setCells]
    rw [h.block j (by rw [hs]; exact hj) hne]
    have hne' : ¬ b = j := fun e => hne e.symm
    simp [World.setCell, Array.getElem?_modify, hne']

theorem setCells_row {w : World} {b o : Nat} {T : TypeId} {fr : Nat × Nat} {C : Array Value} {vs : List Value} (h : w.heap[b]? = some (.cells C T fr)) (hl : o + vs.length ≤ C.size) :
    ∃ C', (w.setCells b o vs).heap[b]? = some (.cells C' T fr) ∧ C'.toList = C.toList.take o ++ vs ++ C.toList.drop (o + vs.length) := by
  have h1 := setCells_fold b o T fr vs 0 w C h
  have h2 := foldl_set vs 0 o C (by simpa using hl)
  exact ⟨_, by simpa using h1, by simpa using h2⟩

def storeA (P : Program) (s : St) (t : TypeId) (a v : AV) : Option St :=
  match a with
  | .ptr i off => match s.get i with
    | some (.cells cs ty) => match szOf P t with
      | some k => if Nat.beq (cellsA v).length k then (if Nat.ble (off + k) cs.length then (if oneAll (cellsA v) then some (s.put i (.cells (setAt cs off (cellsA v)) ty)) else none) else none) else none
      | none => none
    | _ => none
  | _ => none

theorem store_sound {P : Program} {g : Gh} {s s' : St} {w : World} {t : TypeId} {a x : AV} {u v : Value} (h : storeA P s t a x = some s') (rel : Rel g s w) (ha : Rep g w a u) (hx : Rep g w x v) :
    Does P g w (Instr.storeAt t u v) s' (fun _ _ _ => True) := by
  unfold storeA at h
  split at h
  · rename_i i off
    split at h
    · rename_i cs ty hi
      split at h
      · rename_i k hk
        split at h
        · rename_i h1
          split at h
          · rename_i h2
            split at h
            · rename_i h3
              cases h
              have h1 := Nat.eq_of_beq_eq_true h1
              have h2 := Nat.le_of_ble_eq_true h2
              simp only [Rep] at ha
              obtain ⟨hu, rfl⟩ := ha
              obtain ⟨_, _, vs, hb, hvs⟩ := rel.objs i _ hi
              have hc := cellsA_rep hx
              have l1 : v.cells.size = k := by have := hc.length; simp only [Array.length_toList] at this; omega
              have l2 : vs.length = cs.length := hvs.length
              have hst := run_storeCells_cells (P := P) (g.blk i) off v.cells.toList 0 w (fun j hj => by
                  simp only [Array.length_toList] at hj
                  have hlt : off + j < vs.length := by omega
                  simp [World.cell?, hb]; omega) (fun j hj => by simp [World.frozen?, hb]) (oneAll_of h3 hc)
              obtain ⟨C', hb', hC'⟩ := setCells_row (w := w) (b := g.blk i) (o := off) (C := vs.toArray) (vs := v.cells.toList) hb (by simp only [Array.length_toList, List.size_toArray]; omega)
              have hbut := setCells_but (g.blk i) v.cells.toList off w
              have hext := rel.ext_but hi hbut
              have hq := setAt_rep hvs hc off
              obtain ⟨ext, rel'⟩ := rel.write (o' := .cells (setAt cs off (cellsA x)) ty) hi hbut ⟨C'.toList, by simpa using hb', by rw [hC']; exact hq⟩
              refine ⟨(), _, g, ?_, ext, rel', trivial⟩
              have hsz := yld_sizeOf hk w
              simp only [Nat.add_zero] at hst
              simp [Instr.storeAt, Instr.sureAddr, storeVar, hsz, l1, hst]
            · cases h
          · cases h
        · cases h
      · cases h
    · cases h
  · cases h

end Go.Am
