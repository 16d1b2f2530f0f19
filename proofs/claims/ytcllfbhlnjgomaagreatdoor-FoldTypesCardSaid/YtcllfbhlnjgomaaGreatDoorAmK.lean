import Derived.Test.YtcllfbhlnjgomaaGreatDoorAmJ
import Derived.MapKept
set_option linter.unusedVariables false
set_option linter.unusedSimpArgs false
/-!
  THE ABSTRACT MACHINE, part K: maps whose keys are numbers.
-/
namespace Go.Am
open Go Go.RowKit

theorem getI_ge {n : Int} : ∀ {ms : List MapEntry} {i j : Nat} {v : Value}, getI n ms i = some (j, v) → i ≤ j
  | [], i, j, v, h => by simp [getI] at h
  | e :: r, i, j, v, h => by
    simp only [getI] at h
    split at h
    · split at h
      · cases h; exact Nat.le_refl _
      · have := getI_ge h; omega
    · have := getI_ge h; omega

theorem getI_modify (n : Int) (kk : IntKind) (u : Value) : ∀ (ms : List MapEntry) (i j : Nat) (v : Value), getI n ms i = some (i + j, v) →
    ∀ k, getI k (ms.modify j fun e => { e with key := .int kk n, val := u }) i = if k = n then some (i + j, u) else getI k ms i
  | [], i, j, v, h, k => by simp [getI] at h
  | e :: r, i, 0, v, h, k => by
    simp only [getI] at h
    have hk : ∃ q, e.key = .int q n := by
      split at h
      · rename_i q m he
        split at h
        · rename_i hnm; subst hnm; exact ⟨q, he⟩
        · have := getI_ge h; omega
      · have := getI_ge h; omega
    obtain ⟨q, hq⟩ := hk
    simp only [List.modify_zero_cons, getI, hq]
    by_cases e' : k = n
    · simp [e']
    · simp [e']
  | e :: r, i, j + 1, v, h, k => by
    simp only [getI] at h
    simp only [List.modify_succ_cons, getI]
    have hr : ∀ {m : Int} {q}, e.key = .int q m → ¬ n = m := fun {m q} he hnm => by
      rw [he] at h
      simp only [hnm, if_true, Option.some.injEq, Prod.mk.injEq] at h
      omega
    have h' : getI n r (i + 1) = some (i + 1 + j, v) := by
      split at h
      · rename_i q m he
        rw [if_neg (hr he)] at h
        rw [h]; congr 2; omega
      · rw [h]; congr 2; omega
    have ih := getI_modify n kk u r (i + 1) j v h' k
    rw [ih]
    split
    · rename_i q m he
      have := hr he
      by_cases e1 : k = m
      · have : ¬ k = n := fun e2 => hr he (by omega)
        simp [e1]; intro e2; omega
      · by_cases e2 : k = n
        · subst e2; rw [if_neg e1, if_pos rfl, if_pos rfl]; congr 2; omega
        · simp [e1, e2]
    · by_cases e2 : k = n
      · subst e2; rw [if_pos rfl, if_pos rfl]; congr 2; omega
      · rw [if_neg e2, if_neg e2]

theorem getI_at {n : Int} : ∀ {ms : List MapEntry} {i j : Nat} {v : Value}, getI n ms i = some (i + j, v) → ∃ y q, ms[j]? = some y ∧ y.key = .int q n
  | [], i, j, v, h => by simp [getI] at h
  | e :: r, i, j, v, h => by
    have step : getI n r (i + 1) = some (i + j, v) → ∃ y q, (e :: r)[j]? = some y ∧ y.key = .int q n := fun h => by
      have := getI_ge h
      obtain ⟨j', rfl⟩ : ∃ j', j = j' + 1 := ⟨j - 1, by omega⟩
      have h' : getI n r (i + 1) = some (i + 1 + j', v) := by rw [h]; congr 2; omega
      obtain ⟨y, q, h1, h2⟩ := getI_at h'
      exact ⟨y, q, by simpa using h1, h2⟩
    simp only [getI] at h
    split at h
    · rename_i q m he
      split at h
      · rename_i e'; subst e'
        have : j = 0 := by
          simp only [Option.some.injEq, Prod.mk.injEq] at h
          omega
        subst this
        exact ⟨e, q, rfl, he⟩
      · exact step h
    · exact step h

theorem getI_push (e : MapEntry) {kk : IntKind} {n : Int} (he : e.key = .int kk n) : ∀ (ms : List MapEntry) (i : Nat) (k : Int),
    getI k (ms ++ [e]) i = match getI k ms i with | some r => some r | none => if k = n then some (i + ms.length, e.val) else none
  | [], i, k => by simp [getI, he]
  | x :: r, i, k => by
    simp only [List.cons_append, getI]
    split
    · split
      · rfl
      · rw [getI_push e he r (i + 1) k]
        split
        · rfl
        · simp only [List.length_cons]; split
          · congr 2; omega
          · rfl
    · rw [getI_push e he r (i + 1) k]
      split
      · rfl
      · simp only [List.length_cons]; split
        · congr 2; omega
        · rfl

theorem findNow_int {kk : IntKind} (n : Int) : ∀ (ms : List MapEntry) (i : Nat), (∀ e ∈ ms, ∃ m, e.key = .int kk m) → Instr.findNow (.int kk) (.int kk n) ms i = some (getI n ms i)
  | [], i, _ => rfl
  | e :: r, i, h => by
    obtain ⟨m, hm⟩ := h e (List.mem_cons_self ..)
    have ih := findNow_int n r (i + 1) (fun x hx => h x (List.mem_cons_of_mem _ hx))
    simp only [Instr.findNow, getI, hm, Instr.sameNow, if_true]
    by_cases e' : n = m
    · simp [e']
    · have : (n == m) = false := by simpa using e'
      simp only [this, e', if_false]
      exact ih

theorem yld_checkKey_int {P : Program} {key : TypeId} {kk k : IntKind} {n : Int} {em : Bool} (hk : P.underlying key = some (.int kk)) : Yld P (Instr.checkKey em 10000 key (.int k n)) () := fun w => by
  have h : ∀ d, (Instr.checkKey em (d + 1) key (.int k n)).run P w = .ok () w := fun d => by simp [Instr.checkKey, run_underlying hk]
  exact h 9999

theorem yld_findKey_int {P : Program} {key : TypeId} {kk : IntKind} {n : Int} {ms : List MapEntry} (hk : P.underlying key = some (.int kk)) (h : ∀ e ∈ ms, ∃ m, e.key = .int kk m) : Yld P (Instr.findKey key (.int kk n) ms) (getI n ms 0) := fun w => by
  simp [Instr.findKey, run_underlying hk, findNow_int n ms 0 h]

def asKey (kk : IntKind) : AV → Option Int
  | .val (.int k n) => if k = kk then some n else none
  | _ => none
theorem asKey_of {g : Gh} {w : World} {kk : IntKind} {a : AV} {v : Value} {n : Int} (h : asKey kk a = some n) (hr : Rep g w a v) : v = .int kk n := by
  unfold asKey at h
  split at h
  · split at h
    · rename_i e; cases h; subst e; simpa [Rep] using hr
    · cases h
  · cases h

/-- What a lookup hands back. -/
def pairA (ok : Bool) (a : AV) (b : Bool) : AV := if ok then .tuple [a, .val (.bool b)] else a
theorem pairA_rep {g : Gh} {w : World} {ok b : Bool} {a : AV} {v : Value} (h : Rep g w a v) : Rep g w (pairA ok a b) (if ok then .tuple #[v, .bool b] else v) := by
  unfold pairA
  cases ok with
  | false => simpa using h
  | true =>
    simp only [if_true, Rep]
    exact ⟨[v, .bool b], rfl, by simp only [RepAll, Rep]; exact ⟨v, [.bool b], rfl, h, .bool b, [], rfl, rfl, rfl⟩⟩

def foundA (P : Program) (elem : TypeId) (n : Int) (es : List (Int × AV)) (ok : Bool) : Option AV :=
  match findI n es with
  | some a => some (pairA ok a true)
  | none => match zeroOf P elem with
    | some z => some (pairA ok (ofVal z) false)
    | none => none

def lookupA (P : Program) (s : St) (t : TypeId) (x ix : AV) (ok : Bool) : Option AV :=
  match P.underlying t with
  | some (.map key elem) => match P.underlying key with
    | some (.int kk) => match asKey kk ix with
      | some n => match x with
        | .map i => match s.get i with
          | some (.map k' es) => if k' = kk then foundA P elem n es ok else none
          | _ => none
        | .val (.map none) => foundA P elem n [] ok
        | _ => none
      | none => none
    | _ => none
  | _ => none

theorem found_sound {P : Program} {g : Gh} {w : World} {t key elem : TypeId} {kk : IntKind} {n : Int} {es : List (Int × AV)} {ms : Array MapEntry} {ok : Bool} {r : AV} {x : Value} (h : foundA P elem n es ok = some r)
    (hu : P.underlying t = some (.map key elem)) (hk : P.underlying key = some (.int kk)) (hm : MRep g w kk es ms.toList)
    (hx : x = .map none ∧ ms = #[] ∨ ∃ b c, x = .map (some b) ∧ w.heap[b]? = some (.map ms c)) : Rds P g w (Instr.lookup t x (.int kk n) ok) r := by
  have hck := fun em => yld_checkKey_int (P := P) (k := kk) (n := n) (em := em) hk w
  have hfk := yld_findKey_int (P := P) (n := n) hk hm.1 w
  have hv := hm.2 n
  have key : (∃ i v, getI n ms.toList 0 = some (i, v) ∧ Rep g w r (if ok then .tuple #[v, .bool true] else v)) ∨
      (getI n ms.toList 0 = none ∧ ∃ z, (zeroValue elem).run P w = .ok z w ∧ Rep g w r (if ok then .tuple #[z, .bool false] else z)) := by
    unfold foundA at h
    split at h
    · rename_i a ha
      cases h
      rw [ha] at hv
      obtain ⟨i, u, hi, hru⟩ := hv
      exact .inl ⟨i, u, hi, pairA_rep hru⟩
    · rename_i ha
      rw [ha] at hv
      split at h
      · rename_i z hz
        cases h
        exact .inr ⟨hv, z, yld_zeroValue hz w, pairA_rep (ofVal_rep g w z)⟩
      · cases h
  rcases hx with ⟨rfl, rfl⟩ | ⟨b', c, rfl, hb⟩
  · have e0 : (#[] : Array MapEntry).toList = [] := rfl
    rw [e0] at hfk key
    rcases key with ⟨i, v, h1, hr⟩ | ⟨h1, z, hz, hr⟩
    · exact ⟨_, by simp only [Instr.lookup, Sem.run_bind, run_underlying hu, Result.andThen_ok, Sem.run_pure, hck, hfk, h1], hr⟩
    · exact ⟨_, by simp only [Instr.lookup, Sem.run_bind, run_underlying hu, Result.andThen_ok, Sem.run_pure, hck, hfk, h1, hz], hr⟩
  · rcases key with ⟨i, v, h1, hr⟩ | ⟨h1, z, hz, hr⟩
    · exact ⟨_, by simp only [Instr.lookup, Sem.run_bind, run_underlying hu, Result.andThen_ok, Sem.run_pure, MapKept.run_getObj_map hb, hck, hfk, h1], hr⟩
    · exact ⟨_, by simp only [Instr.lookup, Sem.run_bind, run_underlying hu, Result.andThen_ok, Sem.run_pure, MapKept.run_getObj_map hb, hck, hfk, h1, hz], hr⟩

theorem lookup_sound {P : Program} {g : Gh} {s : St} {w : World} {t : TypeId} {x ix r : AV} {ok : Bool} {v vi : Value} (h : lookupA P s t x ix ok = some r) (rel : Rel g s w) (hr : Rep g w x v) (hi : Rep g w ix vi) :
    Rds P g w (Instr.lookup t v vi ok) r := by
  unfold lookupA at h
  split at h
  · rename_i key elem hu
    split at h
    · rename_i kk hk
      split at h
      · rename_i n hn
        have := asKey_of hn hi
        subst this
        split at h
        · rename_i i
          split at h
          · rename_i k' es hget
            split at h
            · rename_i e
              subst e
              simp only [Rep] at hr
              obtain ⟨_, rfl⟩ := hr
              obtain ⟨_, _, ms, c, hb, hm⟩ := rel.objs i _ hget
              exact found_sound h hu hk hm (.inr ⟨_, c, rfl, hb⟩)
            · cases h
          · cases h
        · simp only [Rep] at hr
          subst hr
          exact found_sound (ms := #[]) h hu hk ⟨fun e he => by simp at he, fun n => rfl⟩ (.inl ⟨rfl, rfl⟩)
        · cases h
      · cases h
    · cases h
  · cases h

def insI (n : Int) (a : AV) : List (Int × AV) → List (Int × AV)
  | [] => [(n, a)]
  | (m, b) :: r => if n = m then (n, a) :: r else if n < m then (n, a) :: (m, b) :: r else (m, b) :: insI n a r
theorem findI_insI (n : Int) (a : AV) : ∀ (es : List (Int × AV)) (k : Int), findI k (insI n a es) = if k = n then some a else findI k es
  | [], k => by simp [insI, findI]
  | (m, b) :: r, k => by
    simp only [insI]
    split
    · rename_i e; subst e
      simp only [findI]
      split <;> rfl
    · rename_i e
      split
      · simp only [findI]
      · simp only [findI]
        rw [findI_insI n a r k]
        by_cases e1 : k = m
        · have : ¬ k = n := fun e2 => e (by omega)
          simp [e1]; intro e2; omega
        · simp [e1]

def mapUpdateA (P : Program) (s : St) (t : TypeId) (m ix x : AV) : Option St :=
  match P.underlying t with
  | some (.map key elem) => match P.underlying key with
    | some (.int kk) => match asKey kk ix with
      | some n => match m with
        | .map i => match s.get i with
          | some (.map k' es) => if k' = kk then some (s.put i (.map kk (insI n x es))) else none
          | _ => none
        | _ => none
      | none => none
    | _ => none
  | _ => none

theorem put_but {w : World} {b : Nat} {o o' : Obj} (h : w.heap[b]? = some o) : But b w { w with heap := w.heap.setIfInBounds b o' } ∧ ({ w with heap := w.heap.setIfInBounds b o' } : World).heap[b]? = some o' := by
  have hlt := (Array.getElem?_eq_some_iff.1 h).1
  refine ⟨⟨rfl, rfl, rfl, by simp, fun j hj hne => ?_⟩, by simp [hlt]⟩
  have : ¬ b = j := fun e => hne e.symm
  simp [Array.getElem?_setIfInBounds, this]

theorem MRep.set {g : Gh} {w : World} {kk : IntKind} {es : List (Int × AV)} {ms : List MapEntry} {n : Int} {a : AV} {v : Value} {j : Nat} {old : Value} (h : MRep g w kk es ms) (hj : getI n ms 0 = some (j, old)) (hv : Rep g w a v) :
    MRep g w kk (insI n a es) (ms.modify j fun e => { e with key := .int kk n, val := v }) := by
  have hmod := getI_modify n kk v ms 0 j old (by simpa using hj)
  refine ⟨fun e he => ?_, fun k => ?_⟩
  · obtain ⟨q, hq⟩ := List.mem_iff_getElem?.1 he
    rw [List.getElem?_modify] at hq
    split at hq
    · obtain ⟨x, hx, rfl⟩ := Option.map_eq_some_iff.1 hq
      exact ⟨n, rfl⟩
    · obtain ⟨x, hx, rfl⟩ := Option.map_eq_some_iff.1 hq
      exact h.1 x (List.mem_iff_getElem?.2 ⟨q, hx⟩)
  · rw [hmod k, findI_insI]
    split
    · exact ⟨_, _, rfl, hv⟩
    · exact h.2 k

theorem MRep.push {g : Gh} {w : World} {kk : IntKind} {es : List (Int × AV)} {ms : List MapEntry} {n : Int} {a : AV} {v : Value} {c : Nat} (h : MRep g w kk es ms) (hj : getI n ms 0 = none) (hv : Rep g w a v) :
    MRep g w kk (insI n a es) (ms ++ [{ key := .int kk n, val := v, born := c }]) := by
  refine ⟨fun e he => ?_, fun k => ?_⟩
  · rcases List.mem_append.1 he with he | he
    · exact h.1 e he
    · simp only [List.mem_singleton] at he; subst he; exact ⟨n, rfl⟩
  · rw [getI_push _ (kk := kk) (n := n) rfl ms 0 k, findI_insI]
    by_cases e : k = n
    · subst e
      rw [hj, if_pos rfl]
      simp only [if_true]
      exact ⟨_, _, rfl, hv⟩
    · simp only [e, if_false]
      have := h.2 k
      cases hf : findI k es with
      | none => rw [hf] at this; simp only [VRep] at this ⊢; rw [this]
      | some b =>
        rw [hf] at this
        obtain ⟨i, u, h1, h2⟩ := this
        rw [h1]; exact ⟨i, u, rfl, h2⟩

theorem mapUpdate_sound {P : Program} {g : Gh} {s s' : St} {w : World} {t : TypeId} {m ix x : AV} {vm vi v : Value} (h : mapUpdateA P s t m ix x = some s') (rel : Rel g s w) (hm : Rep g w m vm) (hi : Rep g w ix vi) (hx : Rep g w x v) :
    Does P g w (Instr.mapUpdate t vm vi v) s' (fun _ _ _ => True) := by
  unfold mapUpdateA at h
  split at h
  · rename_i key elem hu
    split at h
    · rename_i kk hk
      split at h
      · rename_i n hn
        have := asKey_of hn hi
        subst this
        split at h
        · rename_i i
          split at h
          · rename_i k' es hget
            split at h
            · rename_i e
              subst e
              cases h
              simp only [Rep] at hm
              obtain ⟨_, rfl⟩ := hm
              obtain ⟨_, _, ms, c, hb, hmr⟩ := rel.objs i _ hget
              have hck := fun em => yld_checkKey_int (P := P) (k := k') (n := n) (em := em) hk w
              have hfk := yld_findKey_int (P := P) (n := n) hk hmr.1 w
              cases hg : getI n ms.toList 0 with
              | some p =>
                obtain ⟨j, old⟩ := p
                rw [hg] at hfk
                obtain ⟨q1, q2⟩ := put_but (o' := .map (ms.modify j fun e => { e with key := .int k' n, val := v }) c) hb
                obtain ⟨ext, rel'⟩ := rel.write (o' := .map k' (insI n x es)) hget q1 ⟨_, c, q2, by rw [Array.toList_modify]; exact hmr.set hg hx⟩
                refine ⟨(), _, g, ?_, ext, rel', trivial⟩
                have hkey : ((ms[j]?).map (·.key)).getD (.int k' n) = .int k' n := by
                  obtain ⟨y, q, hy, hq⟩ := getI_at (i := 0) (by simpa using hg)
                  have hy' : ms[j]? = some y := by simpa using hy
                  obtain ⟨m', hm'⟩ := hmr.1 y (List.mem_iff_getElem?.2 ⟨j, hy⟩)
                  rw [hq] at hm'
                  cases hm'
                  rw [hy']
                  simpa using hq
                have hks : (Instr.keyThatStays (.int k' n) (.int k' n)).run P w = .ok (.int k' n) w := by
                  have : Instr.sameBits 10000 (.int k' n) (.int k' n) = true := by simp [Instr.sameBits]
                  simp [Instr.keyThatStays, this]
                simp only [Instr.mapUpdate, Sem.run_bind, run_underlying hu, Result.andThen_ok, Sem.run_pure, MapKept.run_getObj_map hb, hck, hfk, hkey, hks, MapKept.run_setObj_map _ hb]
              | none =>
                rw [hg] at hfk
                obtain ⟨q1, q2⟩ := put_but (o' := .map (ms.push { key := .int k' n, val := v, born := c }) (c + 1)) hb
                obtain ⟨ext, rel'⟩ := rel.write (o' := .map k' (insI n x es)) hget q1 ⟨_, c + 1, q2, by rw [Array.toList_push]; exact hmr.push hg hx⟩
                refine ⟨(), _, g, ?_, ext, rel', trivial⟩
                simp only [Instr.mapUpdate, Sem.run_bind, run_underlying hu, Result.andThen_ok, Sem.run_pure, MapKept.run_getObj_map hb, hck, hfk, MapKept.run_setObj_map _ hb]
            · cases h
          · cases h
        · cases h
      · cases h
    · cases h
  · cases h

end Go.Am
