import Derived.Test.YtcllfbhlnjgomaaGreatDoorAmP
set_option linter.unusedVariables false
set_option linter.unusedSimpArgs false
/-!
  THE ABSTRACT MACHINE, part Q: what an operation looks at; what it leaves alone.
-/
namespace Go.Am
open Go Go.RowKit

theorem evList_congr {ev ev' : Operand → Option AV} : ∀ {l : List Operand}, (∀ x ∈ l, ev x = ev' x) → evList ev l = evList ev' l
  | [], _ => rfl
  | x :: r, h => by
    simp only [evList]
    rw [h x (List.mem_cons_self ..), evList_congr (fun y hy => h y (List.mem_cons_of_mem _ hy))]
theorem evParts_congr {ev ev' : Operand → Option AV} : ∀ {l : List (Nat × Operand)}, (∀ x ∈ l.map (·.2), ev x = ev' x) → evParts ev l = evParts ev' l
  | [], _ => rfl
  | (i, x) :: r, h => by
    simp only [evParts]
    rw [h x (by simp), evParts_congr (fun y hy => h y (by simp only [List.map_cons]; exact List.mem_cons_of_mem _ hy))]
theorem evOpt_congr {ev ev' : Operand → Option AV} {x : Option Operand} (h : ∀ y ∈ x, ev y = ev' y) : evOpt ev x = evOpt ev' x := by
  cases x with
  | none => rfl
  | some y => simp only [evOpt]; rw [h y (by simp)]

theorem tOp_congr {P : Program} {ev ev' : Operand → Option AV} {o : Oper} (h : ∀ x ∈ o.op.operands, ev x = ev' x) : tOp P ev o = tOp P ev' o := by
  unfold tOp
  cases ho : o.op <;> rw [ho] at h <;> simp only [Op.operands] at h <;> try rfl
  case move x => exact h x (by simp)
  case assign x => exact h x (by simp)
  case pick c x y => simp only [h c (by simp), h x (by simp), h y (by simp)]
  case nilCheck x => simp only [h x (by simp)]
  case binOp op t x y yt => simp only [h x (by simp), h y (by simp)]
  case unOp op t x => simp only [h x (by simp)]
  case convert a b x => simp only [h x (by simp)]
  case makeInterface t x => simp only [h x (by simp)]
  case makeFunc fn f c =>
    dsimp only
    rw [evList_congr (fun x hx => h x (by simp at hx ⊢; exact .inl hx)), evList_congr (l := c.toList) (fun x hx => h x (by simp at hx ⊢; exact .inr hx))]
  case slice t x lo hi mx =>
    simp only [h x (by simp)]
    rw [evOpt_congr (x := lo) (fun y hy => h y (by simp at hy; subst hy; simp)), evOpt_congr (x := hi) (fun y hy => h y (by simp at hy; subst hy; simp)), evOpt_congr (x := mx) (fun y hy => h y (by simp at hy; subst hy; simp))]
  case fieldAddr t x i => simp only [h x (by simp)]
  case field t x i => simp only [h x (by simp)]
  case indexAddr t x i => simp only [h x (by simp), h i (by simp)]
  case index t x i => simp only [h x (by simp), h i (by simp)]
  case extract x i => simp only [h x (by simp)]
  case build t ps =>
    dsimp only
    rw [evParts_congr (fun x hx => h x (by simpa using hx))]
  case call c =>
    dsimp only
    split
    · rename_i hc
      split
      · rename_i x t hx ht
        have hx := arr_eq hx
        have e := h x (by simp [Call.operands, hc, hx])
        simp only [e]
      · rfl
    · rename_i hc
      have e : evList ev c.args.toList = evList ev' c.args.toList := evList_congr (fun x hx => h x (by simp [Call.operands, hc]; simpa using hx))
      simp only [pureA, e]
    · rename_i hc
      have e : evList ev c.args.toList = evList ev' c.args.toList := evList_congr (fun x hx => h x (by simp [Call.operands, hc]; simpa using hx))
      simp only [pureA, e]
    · rfl

theorem rOp_congr {P : Program} {ev ev' : Operand → Option AV} {s : St} {o : Oper} (h : ∀ x ∈ o.op.operands, ev x = ev' x) : rOp P ev s o = rOp P ev' s o := by
  unfold rOp
  cases ho : o.op <;> rw [ho] at h <;> simp only [Op.operands] at h <;> try rfl
  case load t x => simp only [h x (by simp)]
  case lookup t x k ok => simp only [h x (by simp), h k (by simp)]

theorem eOp_congr {P : Program} {ev ev' : Operand → Option AV} {i : Nat} {s : St} {o : Oper} (h : ∀ x ∈ o.op.operands, ev x = ev' x) : eOp P ev i s o = eOp P ev' i s o := by
  unfold eOp
  cases ho : o.op <;> rw [ho] at h <;> simp only [Op.operands] at h <;> try rfl
  case box t x => simp only [h x (by simp)]
  case buildSlice t len ps =>
    dsimp only
    rw [evParts_congr (fun x hx => h x (by simpa using hx))]
  case store t x y => simp only [h x (by simp), h y (by simp)]
  case makeMap t r =>
    dsimp only
    rw [evOpt_congr (fun y hy => h y (by simp at hy; subst hy; simp))]
  case makeSlice t l c => simp only [h l (by simp), h c (by simp)]
  case mapUpdate t m k x => simp only [h m (by simp), h k (by simp), h x (by simp)]
  case insert t m k x => simp only [h m (by simp), h k (by simp), h x (by simp)]
  case call c =>
    dsimp only
    split
    · rename_i hc
      split
      · rename_i x y hxy
        have hxy := arr_eq hxy
        have e1 := h x (by simp [Call.operands, hc, hxy])
        have e2 := h y (by simp [Call.operands, hc, hxy])
        simp only [e1, e2]
      · rfl
    · rfl

theorem resolveA_congr {P : Program} {ev ev' : Operand → Option AV} {c : Call} (h : ∀ x ∈ c.operands, ev x = ev' x) : resolveA P ev c = resolveA P ev' c := by
  unfold resolveA
  rw [evList_congr (l := c.args.toList) (fun x hx => h x (by
    unfold Call.operands
    simp at hx ⊢
    exact .inr hx))]
  split
  · split
    · rename_i f hc
      rw [h f (by simp [Call.operands, hc])]
    · rename_i x name hc
      rw [h x (by simp [Call.operands, hc])]
    · rfl
  · rfl

theorem cOp_congr {E : Env} {R : Rec} {ev ev' : Operand → Option AV} {o : Oper} (h : ∀ x ∈ o.op.operands, ev x = ev' x) : cOp E R ev o = cOp E R ev' o := by
  unfold cOp
  cases ho : o.op <;> rw [ho] at h <;> simp only [Op.operands] at h <;> try rfl
  case call c => simp only [resolveA_congr h]
theorem iOp_congr {E : Env} {R : Rec} {ev ev' : Operand → Option AV} {s : St} {o : Oper} (h : ∀ x ∈ o.op.operands, ev x = ev' x) : iOp E R ev s o = iOp E R ev' s o := by
  unfold iOp
  cases ho : o.op <;> rw [ho] at h <;> simp only [Op.operands] at h <;> try rfl
  case call c => simp only [resolveA_congr h]

theorem valD_congr {cm : Oper → Bool} {E : Env} {R : Rec} {ev ev' : Operand → Option AV} {i : Nat} {s : St} {o : Oper} (h : ∀ x ∈ o.op.operands, ev x = ev' x) : valD cm E R ev i s o = valD cm E R ev' i s o := by
  unfold valD
  rw [tOp_congr h, rOp_congr h, eOp_congr h, cOp_congr h, iOp_congr h]

/-! ### What an operation leaves alone -/
def KeepC (s s' : St) : Prop := ∀ k cs t, s.get k = some (.cells cs t) → s'.get k = some (.cells cs t)
def KeepM (s s' : St) : Prop := ∀ k kk es, s.get k = some (.map kk es) → s'.get k = some (.map kk es)

theorem add_keep {s : St} {i : Nat} {o : AObj} (h : s.get i = none) (k : Nat) (x : AObj) (hk : s.get k = some x) : (s.add i o).get k = some x := by
  have e : (s.add i o).get k = if k = i then some o else s.get k := lookL_insL i o s.objs k
  rw [e]
  split
  · rename_i e; subst e; rw [h] at hk; cases hk
  · exact hk
theorem put_keep {s : St} {i : Nat} {o o' : AObj} (h : s.get i = some o') (k : Nat) (x : AObj) (hk : s.get k = some x) (hne : x ≠ o') : (s.put i o).get k = some x := by
  have e : (s.put i o).get k = if k = i then some o else s.get k := lookL_putL h k
  rw [e]
  split
  · rename_i e; subst e; rw [h] at hk; cases hk; exact absurd rfl hne
  · exact hk

theorem newA_keep {s s' : St} {i : Nat} {t : TypeId} {cs : List AV} {r : AV} (h : newA s i t cs = some (r, s')) (k : Nat) (x : AObj) (hk : s.get k = some x) : s'.get k = some x := by
  unfold newA at h
  split at h
  · rename_i hn; cases h; exact add_keep (isNone_of hn) k x hk
  · cases h

theorem appendA_get {P : Program} {s s' : St} {i : Nat} {ts : List TypeId} {x y r : AV} (h : appendA P s i ts x y = some (r, s')) (k : Nat) : s'.get k = s.get k := by
  unfold appendA at h
  repeat' split at h
  all_goals first
    | (cases h; rfl)
    | cases h

/-- It adds objects at most. -/
def addsB (o : Op) : Bool :=
  match o with
  | .store _ _ _ => false
  | .mapUpdate _ _ _ _ => false
  | .insert _ _ _ _ => false
  | _ => true

theorem eOp_adds {P : Program} {ev : Operand → Option AV} {i : Nat} {s s' : St} {o : Oper} {r : AV} (hb : addsB o.op = true) (h : eOp P ev i s o = some (r, s')) (k : Nat) (x : AObj) (hk : s.get k = some x) : s'.get k = some x := by
  unfold eOp at h
  split at h
  · rename_i t ho
    unfold allocA at h
    split at h
    · exact newA_keep h k x hk
    · cases h
  · split at h
    · exact newA_keep h k x hk
    · cases h
  · split at h
    · split at h
      · cases h; exact hk
      · cases h
    · cases h
  · rename_i ho; rw [ho] at hb; cases hb
  · split at h
    · unfold makeMapA at h
      split at h
      · cases h
      · split at h
        · split at h
          · split at h
            · rename_i hn; cases h; exact add_keep (isNone_of hn) k x hk
            · cases h
          · cases h
        · cases h
    · cases h
  · split at h
    · unfold makeSliceA at h
      repeat' split at h
      all_goals first
        | (cases h; done)
        | (rename_i hnew; cases h; exact newA_keep hnew k x hk)
    · cases h
  · rename_i ho; rw [ho] at hb; cases hb
  · rename_i ho; rw [ho] at hb; cases hb
  · split at h
    · split at h
      · split at h
        · rw [appendA_get h k]; exact hk
        · cases h
      · cases h
    · cases h
  · cases h

/-- It leaves the rows of cells alone. -/
def keepCB (o : Op) : Bool :=
  match o with
  | .store _ _ _ => false
  | _ => true
/-- It leaves the maps alone. -/
def keepMB (o : Op) : Bool :=
  match o with
  | .mapUpdate _ _ _ _ => false
  | .insert _ _ _ _ => false
  | _ => true

theorem mapUpdateA_keepC {P : Program} {s s' : St} {t : TypeId} {m ix x : AV} (h : mapUpdateA P s t m ix x = some s') : KeepC s s' := by
  unfold mapUpdateA at h
  repeat' split at h
  all_goals first
    | (cases h; done)
    | (rename_i hget _; cases h; exact fun k cs t hk => put_keep hget k _ hk (by intro e; cases e))
theorem storeA_keepM {P : Program} {s s' : St} {t : TypeId} {a x : AV} (h : storeA P s t a x = some s') : KeepM s s' := by
  unfold storeA at h
  repeat' split at h
  all_goals first
    | (cases h; done)
    | (rename_i hget _ _ _ _ _ _; cases h; exact fun k cs t hk => put_keep hget k _ hk (by intro e; cases e))

theorem withS_some {q : Option St} {r : AV} {s' : St} (h : withS q = some (r, s')) : q = some s' := by
  cases q with
  | none => cases h
  | some s => cases h; rfl

theorem eOp_keepC {P : Program} {ev : Operand → Option AV} {i : Nat} {s s' : St} {o : Oper} {r : AV} (hb : keepCB o.op = true) (h : eOp P ev i s o = some (r, s')) : KeepC s s' := by
  by_cases ha : addsB o.op = true
  · exact fun k cs t hk => eOp_adds ha h k _ hk
  · unfold eOp at h
    cases ho : o.op <;> rw [ho] at h hb ha <;> simp only [addsB, keepCB, not_true_eq_false] at hb ha h
    case store => cases hb
    case mapUpdate t m k x =>
      split at h
      · exact mapUpdateA_keepC (withS_some h)
      · cases h
    case insert t m k x =>
      split at h
      · exact mapUpdateA_keepC (withS_some h)
      · cases h
theorem eOp_keepM {P : Program} {ev : Operand → Option AV} {i : Nat} {s s' : St} {o : Oper} {r : AV} (hb : keepMB o.op = true) (h : eOp P ev i s o = some (r, s')) : KeepM s s' := by
  by_cases ha : addsB o.op = true
  · exact fun k cs t hk => eOp_adds ha h k _ hk
  · unfold eOp at h
    cases ho : o.op <;> rw [ho] at h hb ha <;> simp only [addsB, keepMB, not_true_eq_false] at hb ha h
    case mapUpdate => cases hb
    case insert => cases hb
    case store t x y =>
      split at h
      · exact storeA_keepM (withS_some h)
      · cases h

theorem loadA_keep {P : Program} {s s' : St} {t : TypeId} {x r : AV} (hk : KeepC s s') (h : loadA P s t x = some r) : loadA P s' t x = some r := by
  unfold loadA at h ⊢
  split at h
  · split at h
    · rename_i hget
      simp only [hk _ _ _ hget]
      exact h
    · cases h
  · exact h
  · cases h
theorem lookupA_keep {P : Program} {s s' : St} {t : TypeId} {x ix r : AV} {ok : Bool} (hk : KeepM s s') (h : lookupA P s t x ix ok = some r) : lookupA P s' t x ix ok = some r := by
  unfold lookupA at h ⊢
  split at h
  · rename_i h1
    try rw [h1]
    try simp only
    split at h
    · rename_i h2
      try rw [h2]
      try simp only
      split at h
      · rename_i h3
        try rw [h3]
        try simp only
        split at h
        · split at h
          · rename_i hget
            simp only [hk _ _ _ hget]
            exact h
          · cases h
        · exact h
        · cases h
      · cases h
    · cases h
  · cases h

/-- An operation whose value stays as long as its operands' values, and the cells or maps that it reads, stay. -/
def firstB (cm : Oper → Bool) (o : Oper) : Bool :=
  match cls o with
  | .T => true
  | .Lc => true
  | .Lm => true
  | .C => cm o
  | .E => false
/-- May the operation oj come ahead of oi and leave oi's value alone? -/
def letsB (cm : Oper → Bool) (oi oj : Oper) : Bool :=
  match cls oi with
  | .T => true
  | .C => true
  | .Lc => (match cls oj with
    | .C => cm oj
    | _ => keepCB oj.op)
  | .Lm => (match cls oj with
    | .C => cm oj
    | _ => keepMB oj.op)
  | .E => false

theorem valD_first {cm : Oper → Bool} {E : Env} {R : Rec} {ev : Operand → Option AV} {i : Nat} {s s1 : St} {o : Oper} {r : AV} (hf : firstB cm o = true) (h : valD cm E R ev i s o = some (r, s1)) : s1 = s := by
  unfold valD at h
  unfold firstB at hf
  split at h
  · exact (keepS_some h).2
  · exact (keepS_some h).2
  · exact (keepS_some h).2
  · rename_i hc
    rw [hc] at hf
    simp only at hf
    rw [hf] at h
    exact (keepS_some h).2
  · rename_i hc
    rw [hc] at hf
    cases hf

theorem keepS_of {r : AV} {s : St} : keepS (some r) s = some (r, s) := rfl

/-- The operation oj has come ahead: oi's value is what it was. -/
theorem valD_stays {cm : Oper → Bool} {E : Env} {R : Rec} {evi evj : Operand → Option AV} {i j : Nat} {s sj : St} {oi oj : Oper} {r rj : AV} (hf : firstB cm oi = true) (hl : letsB cm oi oj = true) (h : valD cm E R evi i s oi = some (r, s)) (hj : valD cm E R evj j s oj = some (rj, sj)) :
    valD cm E R evi i sj oi = some (r, sj) := by
  unfold valD at h ⊢
  unfold firstB at hf
  unfold letsB at hl
  split at h
  · obtain ⟨h1, _⟩ := keepS_some h; simp only [h1]; rfl
  · rename_i hc
    obtain ⟨h1, _⟩ := keepS_some h
    rw [hc] at hl
    simp only at hl ⊢
    have hk : KeepC s sj := by
      unfold valD at hj
      split at hj
      · obtain ⟨_, rfl⟩ := keepS_some hj; exact fun _ _ _ h => h
      · obtain ⟨_, rfl⟩ := keepS_some hj; exact fun _ _ _ h => h
      · obtain ⟨_, rfl⟩ := keepS_some hj; exact fun _ _ _ h => h
      · rename_i hcj
        rw [hcj] at hl
        simp only at hl
        rw [hl] at hj
        obtain ⟨_, rfl⟩ := keepS_some hj; exact fun _ _ _ h => h
      · rename_i hcj
        rw [hcj] at hl
        exact eOp_keepC hl hj
    have : rOp E.P evi sj oi = some r := by
      unfold rOp at h1 ⊢
      unfold cls at hc
      cases ho : oi.op <;> rw [ho] at hc h1 <;> simp only at hc h1 <;> try (cases hc; done)
      case load t x =>
        simp only
        split at h1
        · exact loadA_keep hk h1
        · cases h1
      case call c => split at hc <;> try (cases hc; done)
                     split at hc <;> cases hc
    rw [this]; rfl
  · rename_i hc
    obtain ⟨h1, _⟩ := keepS_some h
    rw [hc] at hl
    simp only at hl ⊢
    have hk : KeepM s sj := by
      unfold valD at hj
      split at hj
      · obtain ⟨_, rfl⟩ := keepS_some hj; exact fun _ _ _ h => h
      · obtain ⟨_, rfl⟩ := keepS_some hj; exact fun _ _ _ h => h
      · obtain ⟨_, rfl⟩ := keepS_some hj; exact fun _ _ _ h => h
      · rename_i hcj
        rw [hcj] at hl
        simp only at hl
        rw [hl] at hj
        obtain ⟨_, rfl⟩ := keepS_some hj; exact fun _ _ _ h => h
      · rename_i hcj
        rw [hcj] at hl
        exact eOp_keepM hl hj
    have : rOp E.P evi sj oi = some r := by
      unfold rOp at h1 ⊢
      unfold cls at hc
      cases ho : oi.op <;> rw [ho] at hc h1 <;> simp only at hc h1 <;> try (cases hc; done)
      case lookup t x k ok =>
        simp only
        split at h1
        · exact lookupA_keep hk h1
        · cases h1
      case call c => split at hc <;> try (cases hc; done)
                     split at hc <;> cases hc
    rw [this]; rfl
  · rename_i hc
    rw [hc] at hf
    simp only at hf
    rw [hf] at h ⊢
    obtain ⟨h1, _⟩ := keepS_some h
    simp only [if_true, h1]; rfl
  · rename_i hc
    rw [hc] at hf
    cases hf

end Go.Am
