import Derived.Test.YtcllfbhlnjgomaaGreatDoorAmL
set_option linter.unusedVariables false
set_option linter.unusedSimpArgs false
/-!
  THE ABSTRACT MACHINE, part M: one operation.
-/
namespace Go.Am
open Go Go.RowKit

def pickA (c x y : Option AV) : Option AV :=
  match c with
  | some (.val (.bool b)) => if b then x else y
  | _ => none

def nilCheckA : AV → Option AV
  | .ptr i off => some (.ptr i off)
  | .rptr cs off => some (.rptr cs off)
  | .func (.func f) p q => some (.func (.func f) p q)
  | .yield i => some (.yield i)
  | .iface t v => some (.iface t v)
  | _ => none

/-- What plain values come to. -/
def pureA (P : Program) (ev : Operand → Option AV) (args : List Operand) (f : Array Value → Sem Value) : Option AV :=
  match evList ev args with
  | some as => match plainAll as with
    | some us => match pureOf P (f us.toArray) with
      | some v => some (ofVal v)
      | none => none
    | none => none
  | none => none
theorem pureA_sound {P : Program} {g : Gh} {w : World} {ev : Operand → Option AV} {ρ : Operand → Value} {args : Array Operand} {f : Array Value → Sem Value} {r : AV} (h : pureA P ev args.toList f = some r) (hev : EvOk g w ev ρ) : ∃ z, Yld P (f (args.map ρ)) z ∧ Rep g w r z := by
  unfold pureA at h
  split at h
  · rename_i as has
    split at h
    · rename_i us hus
      split at h
      · rename_i v hv
        cases h
        have e := plainAll_of hus (evList_rep hev has)
        have e2 : args.map ρ = us.toArray := by apply Array.ext'; simp [e]
        rw [e2]
        exact ⟨v, pureOf_run hv, ofVal_rep g w v⟩
      · cases h
    · cases h
  · cases h

/-- An operation that asks nothing of the world. -/
def tOp (P : Program) (ev : Operand → Option AV) (o : Oper) : Option AV :=
  match o.op with
  | .move x => ev x
  | .assign x => ev x
  | .pick c x y => pickA (ev c) (ev x) (ev y)
  | .nilCheck x => match ev x with
    | some a => nilCheckA a
    | none => none
  | .binOp op t x y _ => match ev x, ev y with
    | some a, some b => binA P op t x y a b
    | _, _ => none
  | .unOp op _ x => match ev x with
    | some a => unA P op a
    | none => none
  | .convert src dst x => match ev x with
    | some a => convA P src dst a
    | none => none
  | .makeInterface t x => match ev x with
    | some a => makeIfaceA P t a
    | none => none
  | .makeFunc fn f c => match evList ev f.toList, evList ev c.toList with
    | some f, some c => some (.func fn f c)
    | _, _ => none
  | .slice t x lo hi mx => match ev x, evOpt ev lo, evOpt ev hi, evOpt ev mx with
    | some a, some l, some h, some m => sliceA P t a l h m
    | _, _, _, _ => none
  | .fieldAddr t x i => match ev x with
    | some a => fieldAddrA P t a i
    | none => none
  | .field t x i => match ev x with
    | some a => fieldA P t a i
    | none => none
  | .indexAddr t x i => match ev x, ev i with
    | some a, some b => indexAddrA P t a b
    | _, _ => none
  | .index t x i => match ev x, ev i with
    | some a, some b => indexA P t a b
    | _, _ => none
  | .extract x i => match ev x with
    | some a => extractA a i
    | none => none
  | .build t ps => match evParts ev ps.toList with
    | some q => buildA P t q
    | none => none
  | .call c => match c.callee with
    | .builtin .len => match c.args.toList, c.argTypes.toList with
      | [x], [t] => match ev x with
        | some a => lenOpA P t a
        | none => none
      | _, _ => none
    | .builtin .min => pureA P ev c.args.toList (Builtin.min_ c.argTypes o.type)
    | .builtin .max => pureA P ev c.args.toList (Builtin.max_ c.argTypes o.type)
    | _ => none
  | _ => none

theorem arr_eq {α : Type} {a : Array α} {l : List α} (h : a.toList = l) : a = l.toArray := by rw [← h]

theorem tOp_sound {P : Program} {g : Gh} {w : World} {ev : Operand → Option AV} {ρ : Operand → Value} {o : Oper} {r : AV} (h : tOp P ev o = some r) (hev : EvOk g w ev ρ) :
    ∃ v, (∀ w', (execOp ρ o).run P w' = .ok (.value v) w') ∧ Rep g w r v := by
  unfold tOp at h
  unfold execOp
  split at h
  · rename_i x ho
    exact ⟨_, fun w' => by simp [ho], hev _ _ h⟩
  · rename_i x ho
    exact ⟨_, fun w' => by simp [ho], hev _ _ h⟩
  · rename_i c x y ho
    unfold pickA at h
    split at h
    · rename_i b hc
      have hc := hev _ _ hc
      simp only [Rep] at hc
      cases b with
      | true =>
        simp only [if_true] at h
        exact ⟨_, fun w' => by simp [ho, hc, asBool], hev _ _ h⟩
      | false =>
        simp only [Bool.false_eq_true, if_false] at h
        exact ⟨_, fun w' => by simp [ho, hc, asBool], hev _ _ h⟩
    · cases h
  · rename_i x ho
    split at h
    · rename_i a ha
      have hr := hev _ _ ha
      unfold nilCheckA at h
      split at h
      · cases h
        refine ⟨_, fun w' => ?_, hr⟩
        simp only [Rep] at hr; obtain ⟨_, hr⟩ := hr
        simp [ho, hr]
      · cases h
        refine ⟨_, fun w' => ?_, hr⟩
        simp only [Rep] at hr; obtain ⟨_, _, _, hr, _⟩ := hr
        simp [ho, hr]
      · cases h
        refine ⟨_, fun w' => ?_, hr⟩
        simp only [Rep] at hr; obtain ⟨_, _, hr, _⟩ := hr
        simp [ho, hr]
      · cases h
        refine ⟨_, fun w' => ?_, hr⟩
        simp only [Rep] at hr; obtain ⟨_, hr⟩ := hr
        simp [ho, hr]
      · cases h
        refine ⟨_, fun w' => ?_, hr⟩
        simp only [Rep] at hr; obtain ⟨_, hr, _⟩ := hr
        simp [ho, hr]
      · cases h
    · cases h
  · rename_i op t x y yt ho
    split at h
    · rename_i a b ha hb
      obtain ⟨z, hy, hz⟩ := bin_sound h (hev _ _ ha) (hev _ _ hb)
      exact ⟨z, fun w' => by have := hy w'; simp only [ho, Sem.run_bind] at this ⊢; simp [this], hz⟩
    · cases h
  · rename_i op t x ho
    split at h
    · rename_i a ha
      obtain ⟨z, hy, hz⟩ := un_sound h (hev _ _ ha)
      exact ⟨z, fun w' => by have := hy w'; simp [ho, this], hz⟩
    · cases h
  · rename_i src dst x ho
    split at h
    · rename_i a ha
      obtain ⟨z, hy, hz⟩ := conv_sound h (hev _ _ ha)
      exact ⟨z, fun w' => by have := hy w'; simp [ho, this], hz⟩
    · cases h
  · rename_i t x ho
    split at h
    · rename_i a ha
      obtain ⟨z, hy, hz⟩ := makeIface_sound h (hev _ _ ha)
      exact ⟨z, fun w' => by have := hy w'; simp [ho, this], hz⟩
    · cases h
  · rename_i fn f c ho
    split at h
    · rename_i f' c' hf hc
      cases h
      refine ⟨.func fn (f.map ρ) (c.map ρ), fun w' => by simp [ho, Instr.makeFunc], ?_⟩
      simp only [Rep]
      exact ⟨f.toList.map ρ, c.toList.map ρ, by congr 1 <;> (apply Array.ext'; simp), evList_rep hev hf, evList_rep hev hc⟩
    · cases h
  · rename_i t x lo hi mx ho
    split at h
    · rename_i a l hh m ha hl hhi hm
      obtain ⟨z, hy, hz⟩ := slice_sound h (hev _ _ ha) (evOpt_rep hev hl) (evOpt_rep hev hhi) (evOpt_rep hev hm)
      exact ⟨z, fun w' => by have := hy w'; simp [ho, this], hz⟩
    · cases h
  · rename_i t x i ho
    split at h
    · rename_i a ha
      obtain ⟨z, hy, hz⟩ := fieldAddr_sound h (hev _ _ ha)
      exact ⟨z, fun w' => by have := hy w'; simp [ho, this], hz⟩
    · cases h
  · rename_i t x i ho
    split at h
    · rename_i a ha
      obtain ⟨z, hy, hz⟩ := field_sound h (hev _ _ ha)
      exact ⟨z, fun w' => by have := hy w'; simp [ho, this], hz⟩
    · cases h
  · rename_i t x i ho
    split at h
    · rename_i a b ha hb
      obtain ⟨z, hy, hz⟩ := indexAddr_sound h (hev _ _ ha) (hev _ _ hb)
      exact ⟨z, fun w' => by have := hy w'; simp [ho, this], hz⟩
    · cases h
  · rename_i t x i ho
    split at h
    · rename_i a b ha hb
      obtain ⟨z, hy, hz⟩ := index_sound h (hev _ _ ha) (hev _ _ hb)
      exact ⟨z, fun w' => by have := hy w'; simp [ho, this], hz⟩
    · cases h
  · rename_i x i ho
    split at h
    · rename_i a ha
      obtain ⟨z, hy, hz⟩ := extract_sound (P := P) h (hev _ _ ha)
      exact ⟨z, fun w' => by have := hy w'; simp [ho, this], hz⟩
    · cases h
  · rename_i t ps ho
    split at h
    · rename_i q hq
      obtain ⟨z, hy, hz⟩ := build_sound (qs := ps.map fun (i, x) => (i, ρ x)) h (by
        have := evParts_rep hev hq
        simpa using this)
      exact ⟨z, fun w' => by have := hy w'; simp only [ho, Sem.run_bind, this]; rfl, hz⟩
    · cases h
  · rename_i c ho
    split at h
    · rename_i hc
      split at h
      · rename_i x t hx ht
        split at h
        · rename_i a ha
          have hx := arr_eq hx
          have ht := arr_eq ht
          obtain ⟨z, hy, hz⟩ := len_sound (P := P) (ty := o.type) h (hev _ _ ha)
          refine ⟨z, fun w' => ?_, hz⟩
          have := hy w'
          simp [ho, resolve, hc, hx, ht, invoke, builtin, this]
        · cases h
      · cases h
    · rename_i hc
      obtain ⟨z, hy, hz⟩ := pureA_sound h hev
      exact ⟨z, fun w' => by have := hy w'; simp [ho, resolve, hc, invoke, builtin, this], hz⟩
    · rename_i hc
      obtain ⟨z, hy, hz⟩ := pureA_sound h hev
      exact ⟨z, fun w' => by have := hy w'; simp [ho, resolve, hc, invoke, builtin, this], hz⟩
    · cases h
  · cases h

/-- An operation that reads. -/
def rOp (P : Program) (ev : Operand → Option AV) (s : St) (o : Oper) : Option AV :=
  match o.op with
  | .load t x => match ev x with
    | some a => loadA P s t a
    | none => none
  | .lookup t x k ok => match ev x, ev k with
    | some a, some b => lookupA P s t a b ok
    | _, _ => none
  | _ => none

theorem rOp_sound {P : Program} {g : Gh} {s : St} {w : World} {ev : Operand → Option AV} {ρ : Operand → Value} {o : Oper} {r : AV} (h : rOp P ev s o = some r) (rel : Rel g s w) (hev : EvOk g w ev ρ) :
    ∃ v, (execOp ρ o).run P w = .ok (.value v) w ∧ Rep g w r v := by
  unfold rOp at h
  unfold execOp
  split at h
  · rename_i t x ho
    split at h
    · rename_i a ha
      obtain ⟨v, hr, hv⟩ := load_sound h rel (hev _ _ ha)
      exact ⟨v, by simp [ho, hr], hv⟩
    · cases h
  · rename_i t x k ok ho
    split at h
    · rename_i a b ha hb
      obtain ⟨v, hr, hv⟩ := lookup_sound h rel (hev _ _ ha) (hev _ _ hb)
      exact ⟨v, by simp [ho, hr], hv⟩
    · cases h
  · cases h

/-- What an operation comes to, that is no call. -/
def NextIs (x : Next) (v : Value) : Prop := x = .value v ∨ x = .skip ∧ v = undef

def withS (r : Option St) : Option (AV × St) :=
  match r with
  | some s => some (.val undef, s)
  | none => none

/-- An operation that turns the memory; a new thing bears the number i. -/
def eOp (P : Program) (ev : Operand → Option AV) (i : Nat) (s : St) (o : Oper) : Option (AV × St) :=
  match o.op with
  | .alloc t => allocA P s i t
  | .box t x => match ev x with
    | some a => boxA s i t a
    | none => none
  | .buildSlice t len ps => match evParts ev ps.toList with
    | some q => match buildSliceA P t len q with
      | some r => some (r, s)
      | none => none
    | none => none
  | .store t x y => match ev x, ev y with
    | some a, some b => withS (storeA P s t a b)
    | _, _ => none
  | .makeMap t r => match evOpt ev r with
    | some q => makeMapA P s i t q
    | none => none
  | .makeSlice t l c => match ev l, ev c with
    | some a, some b => makeSliceA P s i t a b
    | _, _ => none
  | .mapUpdate t m k x => match ev m, ev k, ev x with
    | some a, some b, some c => withS (mapUpdateA P s t a b c)
    | _, _, _ => none
  | .insert t m k x => match ev m, ev k, ev x with
    | some a, some b, some c => withS (mapUpdateA P s t a b c)
    | _, _, _ => none
  | .call c => match c.callee with
    | .builtin .append => match c.args.toList with
      | [x, y] => match ev x, ev y with
        | some a, some b => appendA P s i c.argTypes.toList a b
        | _, _ => none
      | _ => none
    | _ => none
  | _ => none

theorem eOp_sound {P : Program} {g : Gh} {s s' : St} {w : World} {ev : Operand → Option AV} {ρ : Operand → Value} {o : Oper} {i : Nat} {r : AV} (h : eOp P ev i s o = some (r, s')) (rel : Rel g s w) (hev : EvOk g w ev ρ) :
    ∃ x v w' g', (execOp ρ o).run P w = .ok x w' ∧ NextIs x v ∧ Ext g w g' w' ∧ Rel g' s' w' ∧ Rep g' w' r v := by
  have value : ∀ {x : Sem Value}, Does P g w x s' (fun g' w' v => Rep g' w' r v) → (execOp ρ o = do pure (.value (← x))) → ∃ x v w' g', (execOp ρ o).run P w = .ok x w' ∧ NextIs x v ∧ Ext g w g' w' ∧ Rel g' s' w' ∧ Rep g' w' r v := by
    rintro x ⟨v, w', g', h1, h2, h3, h4⟩ he
    exact ⟨_, v, w', g', by rw [he]; simp [h1], .inl rfl, h2, h3, h4⟩
  have unit : ∀ {x : Sem Unit} {q : Option St}, withS q = some (r, s') → (∀ s1, q = some s1 → Does P g w x s1 (fun _ _ _ => True)) → (execOp ρ o = do x; pure .skip) → ∃ x v w' g', (execOp ρ o).run P w = .ok x w' ∧ NextIs x v ∧ Ext g w g' w' ∧ Rel g' s' w' ∧ Rep g' w' r v := by
    intro x q hq hx he
    cases q with
    | none => cases hq
    | some s1 =>
      cases hq
      obtain ⟨v, w', g', h1, h2, h3, _⟩ := hx _ rfl
      exact ⟨_, undef, w', g', by rw [he]; simp [h1], .inr ⟨rfl, rfl⟩, h2, h3, by simp [Rep]⟩
  unfold eOp at h
  split at h
  · rename_i t ho
    exact value (alloc_sound h rel) (by simp [execOp, ho])
  · rename_i t x ho
    split at h
    · rename_i a ha
      exact value (box_sound h rel (hev _ _ ha)) (by simp [execOp, ho])
    · cases h
  · rename_i t len ps ho
    split at h
    · rename_i q hq
      split at h
      · rename_i r' hr
        cases h
        exact value (buildSlice_sound (qs := ps.map fun (i, x) => (i, ρ x)) hr rel (by
          have := evParts_rep hev hq
          simpa using this)) (by simp [execOp, ho])
      · cases h
    · cases h
  · rename_i t x y ho
    split at h
    · rename_i a b ha hb
      exact unit h (fun s1 hs => store_sound hs rel (hev _ _ ha) (hev _ _ hb)) (by simp [execOp, ho])
    · cases h
  · rename_i t q ho
    split at h
    · rename_i q' hq
      exact value (makeMap_sound h rel (evOpt_rep hev hq)) (by simp [execOp, ho])
    · cases h
  · rename_i t l c ho
    split at h
    · rename_i a b ha hb
      exact value (makeSlice_sound h rel (hev _ _ ha) (hev _ _ hb)) (by simp [execOp, ho])
    · cases h
  · rename_i t m k x ho
    split at h
    · rename_i a b c ha hb hc
      exact unit h (fun s1 hs => mapUpdate_sound hs rel (hev _ _ ha) (hev _ _ hb) (hev _ _ hc)) (by simp [execOp, ho])
    · cases h
  · rename_i t m k x ho
    split at h
    · rename_i a b c ha hb hc
      exact unit h (fun s1 hs => mapUpdate_sound hs rel (hev _ _ ha) (hev _ _ hb) (hev _ _ hc)) (by simp [execOp, ho])
    · cases h
  · rename_i c ho
    split at h
    · rename_i hc
      split at h
      · rename_i x y hxy
        split at h
        · rename_i a b ha hb
          refine value (append_sound (ty := o.type) h rel (hev _ _ ha) (hev _ _ hb)) ?_
          have hxy := arr_eq hxy
          simp [execOp, ho, resolve, hc, hxy, invoke, builtin]
        · cases h
      · cases h
    · cases h
  · cases h

end Go.Am
