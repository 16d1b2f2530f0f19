import Derived.Test.YtcllfbhlnjgomaaGreatDoorAmS
set_option linter.unusedVariables false
set_option linter.unusedSimpArgs false
/-!
  THE ABSTRACT MACHINE, part T: loops; leaving a function; its results.
-/
namespace Go.Am
open Go Go.RowKit

/-! ### Loops, unrolled -/
def LoopWp (F : Fence) (n : Nat) (P : Program) (c : Code) (Q : Exit → Act → World → Prop) (a : Act) (w : World) : Prop :=
  ∀ (b : Frame) (k : List Item) (cs : List Frame), b.roundOf = F.round → F.fn b.fn → F.room (cs.length + 1 + n) →
    ∃ e a' w', Q e a' w' ∧ ArrivesIn (Machine.fenced P F) P (lone (b.atR a (.code c :: .inLoop c :: k)) cs w) b k cs e a' w'

theorem wpIn_loop_of {F : Fence} {n : Nat} {P : Program} {c : Code} {Q : Exit → Act → World → Prop} {a : Act} {w : World} (h : LoopWp F n P c Q a w) : (Code.loop c).wpIn F n P Q a w := by
  intro b k cs hro hb hr
  obtain ⟨e, a', w', hq, harr⟩ := h b k cs hro hb hr
  exact ⟨e, a', w', hq, .of_steps (.one (fenced_calm hb hr rfl) stepR_loop) harr⟩

theorem loopWp_of {F : Fence} {n : Nat} {P : Program} {c : Code} {Q : Exit → Act → World → Prop} {a : Act} {w : World} (h : c.wpIn F n P (Exit.then (LoopWp F n P c Q) Q) a w) : LoopWp F n P c Q a w := by
  intro b k cs hro hb hr
  obtain ⟨e, a₁, w₁, hq, harr⟩ := h b (.inLoop c :: k) cs hro hb hr
  cases e with
  | normal =>
    obtain ⟨e₂, a₂, w₂, hq₂, harr₂⟩ := hq b k cs hro hb hr
    exact ⟨e₂, a₂, w₂, hq₂, .of_steps (StepsIn.trans harr (.one (fenced_calm hb hr rfl) stepR_inLoop)) harr₂⟩
  | exit id => exact ⟨_, a₁, w₁, hq, .pass (x := .inLoop c) rfl (fun _ _ => .inl (by simp)) harr⟩
  | goto l => exact ⟨_, a₁, w₁, hq, .pass (x := .inLoop c) rfl (fun _ _ => .inl (by simp)) harr⟩
  | ret => exact ⟨_, a₁, w₁, hq, .pass (x := .inLoop c) rfl (fun _ _ => .inl (by simp)) harr⟩
  | panic ch => exact ⟨_, a₁, w₁, hq, .pass (x := .inLoop c) rfl (fun _ _ => .inl (by simp)) harr⟩
  | outgrown => exact ⟨_, a₁, w₁, hq, .pass (x := .inLoop c) rfl (fun _ _ => .inl (by simp)) harr⟩

/-! ### Results -/
def resL (P : Program) (s : St) (A : AAct) : List ResultVar → Option (List AV)
  | [] => some []
  | v :: r => match (match v with
      | .tmp t => if Nat.blt t A.n then some (A.tm.get t) else none
      | .cell p t => if Nat.blt p A.n then loadA P s t (A.tm.get p) else none) with
    | some a => match resL P s A r with
      | some q => some (a :: q)
      | none => none
    | none => none

def packA : List AV → AV
  | [v] => v
  | l => .tuple l

theorem tm_at {g : Gh} {w : World} {N : Nat} {tm : Tr} {vs : Array Value} (h : TmOk g w N tm vs) {t : Nat} (ht : Nat.blt t N = true) : Rep g w (tm.get t) (vs.getD t undef) := by
  have ht := blt_lt ht
  have hs : t < vs.size := by rw [h.1]; exact ht
  have := h.2 t vs[t] (by simp [hs])
  simpa [Array.getD, hs] using this

theorem load_var {P : Program} {g : Gh} {s : St} {w : World} {t : TypeId} {x r : AV} {v : Value} (h : loadA P s t x = some r) (rel : Rel g s w) (hr : Rep g w x v) : Rds P g w (do loadVar t (← asAddr v)) r := by
  obtain ⟨u, hu, hru⟩ := load_sound h rel hr
  refine ⟨u, ?_, hru⟩
  have : ∃ a, v = .pointer (some a) := by
    unfold loadA at h
    split at h
    · simp only [Rep] at hr; exact ⟨_, hr.2⟩
    · simp only [Rep] at hr; obtain ⟨_, _, _, e, _⟩ := hr; exact ⟨_, e⟩
    · cases h
  obtain ⟨a, rfl⟩ := this
  simpa [Instr.loadAt, Instr.sureAddr, asAddr] using hu

def resVar (tmps : Array Value) : ResultVar → Sem Value
  | .tmp t => pure (tmps.getD t undef)
  | .cell a t => do loadVar t (← asAddr (tmps.getD a undef))

theorem resL_sound {P : Program} {g : Gh} {s : St} {w : World} {A : AAct} {tmps : Array Value} (rel : Rel g s w) (htm : TmOk g w A.n A.tm tmps) : ∀ {l : List ResultVar} {q : List AV}, resL P s A l = some q →
    ∃ vs, (l.mapM (resVar tmps)).run P w = .ok vs w ∧ RepAll g w q vs
  | [], q, h => by
    simp only [resL, Option.some.injEq] at h
    subst h
    exact ⟨[], rfl, by simp [RepAll]⟩
  | v :: r, q, h => by
    simp only [resL] at h
    split at h
    · rename_i a ha
      split at h
      · rename_i q' hq
        cases h
        obtain ⟨vs, hrun, hvs⟩ := resL_sound rel htm hq
        have hv : Rds P g w (resVar tmps v) a := by
          cases v with
          | tmp t =>
            simp only [resVar] at ha ⊢
            split at ha
            · rename_i ht; cases ha; exact ⟨_, rfl, tm_at htm ht⟩
            · cases ha
          | cell p t =>
            simp only [resVar] at ha ⊢
            split at ha
            · rename_i ht; exact load_var ha rel (tm_at htm ht)
            · cases ha
        obtain ⟨u, hu, hru⟩ := hv
        refine ⟨u :: vs, ?_, by simp only [RepAll]; exact ⟨u, vs, rfl, hru, hvs⟩⟩
        rw [List.mapM_cons, Sem.run_bind, hu]
        simp only [Result.andThen_ok]
        rw [Sem.run_bind, hrun]
        rfl
      · cases h
    · cases h

theorem results_eq (fn : Func) (tmps : Array Value) : results fn tmps = (do
    let vs ← fn.results.mapM (resVar tmps)
    pure (if h : vs.size = 1 then vs[0] else .tuple vs)) := by
  unfold results
  congr 2

theorem results_sound {P : Program} {g : Gh} {s : St} {w : World} {A : AAct} {tmps : Array Value} {fn : Func} {q : List AV} (h : resL P s A fn.results.toList = some q) (rel : Rel g s w) (htm : TmOk g w A.n A.tm tmps) :
    ∃ v, (results fn tmps).run P w = .ok v w ∧ Rep g w (packA q) v := by
  obtain ⟨vs, hrun, hvs⟩ := resL_sound rel htm h
  have hl := hvs.length
  have key : (results fn tmps).run P w = .ok (if h : vs.toArray.size = 1 then vs.toArray[0] else .tuple vs.toArray) w := by
    rw [results_eq, Array.mapM_eq_mapM_toList, Sem.run_bind]
    have : (List.toArray <$> fn.results.toList.mapM (resVar tmps)).run P w = .ok vs.toArray w := by
      simp [hrun]
    rw [this]
    rfl
  refine ⟨_, key, ?_⟩
  match q, vs, hvs, hl with
  | [a], [v], hvs, _ =>
    simp only [RepAll] at hvs
    obtain ⟨_, _, e, h1, _⟩ := hvs
    cases e
    simpa [packA] using h1
  | [], [], hvs, _ => simp only [packA, Rep]; exact ⟨[], rfl, hvs⟩
  | a :: b :: r, v1 :: v2 :: vr, hvs, _ =>
    have : packA (a :: b :: r) = .tuple (a :: b :: r) := rfl
    rw [this]
    simp only [Rep]
    exact ⟨v1 :: v2 :: vr, by simp, hvs⟩

/-! ### Leaving -/
def leavesA (E : Env) : List ADef → St → Option St
  | [], s => some s
  | .mark i :: r, s => match s.get i with
    | some .mark => leavesA E r (s.put i .gone)
    | _ => none
  | .call f _ :: r, s => if E.D f then leavesA E r s else none

theorem leaves_sound {E : Env} (hE : EnvOk E) {fn : Func} {tmps : Array Value} {R : Ending → World → Prop} : ∀ {l : List ADef} {ds : List Deferred} {g : Gh} {s s' : St} {w : World}, leavesA E l s = some s' → Rel g s w → DfOk g w l ds →
    (∀ g' w', Ext g w g' w' → Rel g' s' w' → ∃ v, (results fn tmps).run E.P w' = .ok v w' ∧ R (.returned v) w') → LeavesInM Fence.wide 0 E.P fn tmps R ds .returning w
  | [], ds, g, s, s', w, h, rel, hd, hK => by
    simp only [leavesA, Option.some.injEq] at h
    subst h
    simp only [DfOk] at hd
    subst hd
    exact hK g w (Ext.refl g w) rel
  | .mark i :: r, ds, g, s, s', w, h, rel, hd, hK => by
    simp only [leavesA] at h
    split at h
    · rename_i hi
      simp only [DfOk] at hd
      obtain ⟨q, rfl, hu, hq⟩ := hd
      obtain ⟨_, _, hb⟩ := rel.objs i _ hi
      have hb : w.heap[g.blk i]? = some (.deferred (some [])) := hb
      obtain ⟨q1, q2⟩ := put_but (o' := .deferred none) hb
      obtain ⟨ext, rel'⟩ := rel.write (o' := .gone) hi q1 ⟨_, q2⟩
      refine ⟨by simp, .inl ⟨g.blk i, _, rfl, ?_, leaves_sound hE h rel' (hq.ext ext) (fun g2 w2 e2 r2 => hK g2 w2 (ext.trans e2) r2)⟩⟩
      simp [Instr.takeDeferred, getObj, setObj, Sem.run, hb]
    · cases h
  | .call f args :: r, ds, g, s, s', w, h, rel, hd, hK => by
    simp only [leavesA] at h
    split at h
    · rename_i hD
      simp only [DfOk] at hd
      obtain ⟨cap, as, vs, q, rfl, he, hargs, hq⟩ := hd
      obtain ⟨hb, hdef⟩ := hE.defer f hD
      refine ⟨by simp, .inr ⟨(fun h => by cases h), .func f, cap, f, as ++ cap, rfl, ?_, fun _ _ => trivial, ?_⟩⟩
      · exact hasBody_run hE.names hb (as ++ cap) w
      · refine (hdef (as ++ cap) w).mono ?_
        rintro e u w' ⟨⟨v, rfl⟩, rfl, same⟩
        obtain ⟨ext, rel'⟩ := rel.same same
        exact leaves_sound hE h rel' (hq.ext ext) (fun g2 w2 e2 r2 => hK g2 w2 (ext.trans e2) r2)
    · cases h

/-! ### Entering -/
def Tr.ofList : Nat → List AV → Tr → Tr
  | _, [], t => t
  | k, v :: r, t => Tr.ofList (k + 1) r (t.set k v)

theorem Tr.ofList_get : ∀ (l : List AV) (k : Nat) (t : Tr) (j : Nat), k + l.length ≤ 65536 → j < 65536 → (Tr.ofList k l t).get j = if k ≤ j then (match l[j - k]? with | some v => v | none => t.get j) else t.get j
  | [], k, t, j, h, hj => by simp [Tr.ofList]
  | v :: r, k, t, j, h, hj => by
    simp only [List.length_cons] at h
    simp only [Tr.ofList]
    rw [Tr.ofList_get r (k + 1) _ j (by omega) hj]
    by_cases e : j = k
    · subst e
      have : ¬ j + 1 ≤ j := by omega
      simp [this, Tr.get_set hj hj]
    · rw [Tr.get_set (by omega) hj, if_neg e]
      by_cases hk : k ≤ j
      · have h1 : k + 1 ≤ j := by omega
        obtain ⟨d, rfl⟩ : ∃ d, j = k + 1 + d := ⟨j - (k + 1), by omega⟩
        have e1 : k + 1 + d - (k + 1) = d := by omega
        have e2 : k + 1 + d - k = d + 1 := by omega
        simp [h1, hk, e1, e2]
      · have h1 : ¬ k + 1 ≤ j := by omega
        simp [h1, hk]

theorem Tr.get_leaf (j : Nat) : Tr.get .leaf j = .val undef := Tr.getP_leaf _

theorem enter_tm {g : Gh} {w : World} {args : List AV} {vs : List Value} {N : Nat} (h : RepAll g w args vs) (hl : args.length ≤ N) (hN : N ≤ 65536) : TmOk g w N (Tr.ofList 0 args .leaf) (vs.toArray ++ Array.replicate (N - vs.toArray.size) undef) := by
  have hlen := h.length
  refine ⟨by simp; omega, fun k u hk => ?_⟩
  have hlt : k < N := by
    have := (Array.getElem?_eq_some_iff.1 hk).1
    simp at this
    omega
  rw [Tr.ofList_get args 0 .leaf k (by omega) (by omega)]
  simp only [Nat.zero_le, if_true, Nat.sub_zero, Tr.get_leaf]
  rw [Array.getElem?_append] at hk
  simp only [List.size_toArray] at hk
  split at hk
  · rename_i hkl
    have hv : vs[k]? = some u := by simpa using hk
    cases ha : args[k]? with
    | none => rw [List.getElem?_eq_none_iff] at ha; omega
    | some a =>
      obtain ⟨v', h1, h2⟩ := h.get ha
      rw [hv] at h1
      cases h1
      exact h2
  · rename_i hkl
    have : args[k]? = none := by rw [List.getElem?_eq_none_iff]; omega
    rw [this]
    have hu : u = undef := by
      have h1 : k - vs.length < N - vs.length := by omega
      simp [Array.getElem?_replicate, h1] at hk
      exact hk.symm
    subst hu
    simp [Rep]

end Go.Am
