import Derived.Test.YtcllfbhlnjgomaaGreatDoorAmO
set_option linter.unusedVariables false
set_option linter.unusedSimpArgs false
/-!
  THE ABSTRACT MACHINE, part P: an operation in a frame.
-/
namespace Go.Am
open Go Go.RowKit

structure Env where
  P : Program
  G : Nat → Option AV
  D : FuncId → Bool
  C : FuncId → Bool
  O : FuncId → Bool
  M : List (FuncId × List AV × AV)
  N : List (FuncId × List AV × St × AV × St)

/-- A call whose arguments and result bear no number: it leaves the memory as it was. -/
def ClosedOk (P : Program) (G : Nat → Option AV) (f : FuncId) (args : List AV) (r : AV) : Prop :=
  ∀ g w s vs, Rel g s w → GlobOk G g w → RepAll g w args vs → CallsIn Fence.wide 0 P f vs.toArray w (Ret g w r s)

/-- A call at a memory that is known in full. -/
def OpenOk (P : Program) (G : Nat → Option AV) (f : FuncId) (args : List AV) (s : St) (r : AV) (s' : St) : Prop :=
  ∀ g w vs, Rel g s w → GlobOk G g w → RepAll g w args vs → CallsIn Fence.wide 0 P f vs.toArray w (Ret g w r s')

/-- A deferred function that does nothing where nothing panics. -/
def DefOk (P : Program) (f : FuncId) : Prop :=
  hasBody P f = true ∧ ∀ args w, CallsDIn Fence.wide 0 P f args .returning w (fun e u w' => (∃ v, e = .returned v) ∧ u = .returning ∧ Same w w')

structure EnvOk (E : Env) : Prop where
  mixed : E.P.follows .mixedOrders = true
  names : NamesOk E.P
  glob : ∀ i a, E.G i = some a → closedA a = true
  memo : ∀ m ∈ E.M, ClosedOk E.P E.G m.1 m.2.1 m.2.2
  memoN : ∀ m ∈ E.N, OpenOk E.P E.G m.1 m.2.1 m.2.2.1 m.2.2.2.1 m.2.2.2.2
  defer : ∀ f, E.D f = true → DefOk E.P f

theorem closed_call {P : Program} {G : Nat → Option AV} {call : FuncId → List AV → St → Option (AV × St)} (hc : CallOk P G call) (hG : ∀ i a, G i = some a → closedA a = true) {f : FuncId} {args : List AV} {r : AV} {s1 : St}
    {q : AV} (h : call f args St.empty = some (r, s1)) (ha : closedAll args = true) (hr : shutA r = some q) : ClosedOk P G f args q := fun g w s vs rel glob hargs => by
  obtain ⟨hq, hrep⟩ := shutA_rep hr
  have glob' : GlobOk G (g.own w) w := fun i a hi => Rep.closed (g := g) (g' := g.own w) (fun b j h => h) (hG i a hi) (glob i a hi)
  refine (hc f args St.empty r s1 h (g.own w) w vs rel.own glob' (RepAll.closed (g := g) (g' := g.own w) (fun b j h => h) ha hargs)).mono ?_
  intro e w1 he
  cases e with
  | returned v =>
    obtain ⟨g1, ext, rel1, hv⟩ := he
    obtain ⟨e2, r2⟩ := rel.back ext rel1
    exact ⟨_, e2, r2, Rep.closed (g := g1) (g' := { g with fix := g1.fix }) (fun b j h => h) hq (hrep hv)⟩
  | panicked c => exact he
  | outgrown => exact he

def lookM (f : FuncId) (args : List AV) : List (FuncId × List AV × AV) → Option AV
  | [] => none
  | (k, as, r) :: q => if Nat.beq f k then (if eqAll args as then some r else lookM f args q) else lookM f args q
theorem lookM_mem {f : FuncId} {args : List AV} {r : AV} : ∀ {l : List (FuncId × List AV × AV)}, lookM f args l = some r → (f, args, r) ∈ l
  | [], h => by cases h
  | (k, as, r') :: q, h => by
    simp only [lookM] at h
    split at h
    · rename_i e
      split at h
      · rename_i e2
        cases h
        rw [Nat.eq_of_beq_eq_true e, eqAll_eq e2]
        exact List.mem_cons_self ..
      · exact List.mem_cons_of_mem _ (lookM_mem h)
    · exact List.mem_cons_of_mem _ (lookM_mem h)

/-- Arguments without numbers. -/
def shutArgs (args : List AV) : List AV := if closedAll args then args else weakAll args
theorem shutArgs_rep {g : Gh} {w : World} {args : List AV} {vs : List Value} (h : RepAll g w args vs) : RepAll g w (shutArgs args) vs := by
  unfold shutArgs
  split
  · exact h
  · exact h.weak

def callC0 (E : Env) (call : FuncId → List AV → St → Option (AV × St)) (f : FuncId) (args : List AV) : Option AV :=
  match lookM f args E.M with
  | some r => some r
  | none => if closedAll args then
      match call f args St.empty with
      | some (r, _) => shutA r
      | none => none
    else none
theorem callC0_sound {E : Env} (hE : EnvOk E) {call : FuncId → List AV → St → Option (AV × St)} (hc : CallOk E.P E.G call) {f : FuncId} {args : List AV} {r : AV} (h : callC0 E call f args = some r) : ClosedOk E.P E.G f args r := by
  unfold callC0 at h
  split at h
  · rename_i r' hm
    cases h
    exact hE.memo _ (lookM_mem hm)
  · split at h
    · rename_i ha
      split at h
      · rename_i r' s1 hr
        exact closed_call hc hE.glob hr ha h
      · cases h
    · cases h

/-- A call that leaves the memory as it was. -/
def callC (E : Env) (call : FuncId → List AV → St → Option (AV × St)) (f : FuncId) (args : List AV) : Option AV := callC0 E call f (shutArgs args)
theorem callC_sound {E : Env} (hE : EnvOk E) {call : FuncId → List AV → St → Option (AV × St)} (hc : CallOk E.P E.G call) {f : FuncId} {args : List AV} {r : AV} (h : callC E call f args = some r) : ClosedOk E.P E.G f (shutArgs args) r :=
  callC0_sound hE hc h

def lookN (f : FuncId) (args : List AV) (s : St) : List (FuncId × List AV × St × AV × St) → Option (AV × St)
  | [] => none
  | (k, as, t, r, s') :: q => if Nat.beq f k then (if eqAll args as then (if eqS s t then some (r, s') else lookN f args s q) else lookN f args s q) else lookN f args s q
theorem lookN_mem {f : FuncId} {args : List AV} {s s' : St} {r : AV} : ∀ {l : List (FuncId × List AV × St × AV × St)}, lookN f args s l = some (r, s') → (f, args, s, r, s') ∈ l
  | [], h => by cases h
  | (k, as, t, r', t') :: q, h => by
    simp only [lookN] at h
    split at h
    · rename_i e
      split at h
      · rename_i e2
        split at h
        · rename_i e3
          cases h
          rw [Nat.eq_of_beq_eq_true e, eqAll_eq e2, eqS_eq e3]
          exact List.mem_cons_self ..
        · exact List.mem_cons_of_mem _ (lookN_mem h)
      · exact List.mem_cons_of_mem _ (lookN_mem h)
    · exact List.mem_cons_of_mem _ (lookN_mem h)

/-- A call. -/
def callF (E : Env) (call : FuncId → List AV → St → Option (AV × St)) (f : FuncId) (args : List AV) (s : St) : Option (AV × St) :=
  match lookN f args s E.N with
  | some (r, s') => if noLoop s'.objs then some (r, s') else none
  | none => if E.C f then (match callC E call f args with
    | some r => some (r, s)
    | none => call f args s) else call f args s
theorem callF_sound {E : Env} (hE : EnvOk E) {call : FuncId → List AV → St → Option (AV × St)} (hc : CallOk E.P E.G call) {f : FuncId} {args : List AV} {s s' : St} {r : AV} (h : callF E call f args s = some (r, s')) {g : Gh} {w : World} {vs : List Value}
    (rel : Rel g s w) (glob : GlobOk E.G g w) (hargs : RepAll g w args vs) : CallsIn Fence.wide 0 E.P f vs.toArray w (Ret g w r s') := by
  unfold callF at h
  split at h
  · rename_i r' s1 hn
    split at h
    · cases h
      exact hE.memoN _ (lookN_mem hn) g w vs rel glob hargs
    · cases h
  · split at h
    · split at h
      · rename_i q hq
        cases h
        exact callC_sound hE hc hq g w s vs rel glob (shutArgs_rep hargs)
      · exact hc _ _ _ _ _ h g w vs rel glob hargs
    · exact hc _ _ _ _ _ h g w vs rel glob hargs

/-! ### An operation's value -/
/-- What an operation comes to in a frame: whatever goes on from the value goes on from the operation. -/
def ValIn (P : Program) (o : Oper) (a : Act) (g : Gh) (w : World) (r : AV) (s' : St) : Prop :=
  ∀ (ro : Option Nat) (K : Act → World → Prop) (Q : Exit → Act → World → Prop), (∀ v g' w', Ext g w g' w' → Rel g' s' w' → Rep g' w' r v → K (a.put o.dst v) w') → o.wpIn (FW ro) 0 P a w K Q

theorem semAt_of_next {P : Program} {ρ : Operand → Value} {o : Oper} {w w' : World} {x : Next} (h : (execOp ρ o).run P w = .ok x w') (hx : ∀ d, x ≠ .defer d) (ro : Option Nat) : o.semAt ro ρ = execOp ρ o := by
  refine Oper.semAt_eq ro ρ o (fun c hc => ?_)
  simp only [execOp, hc, Sem.run_bind] at h
  cases hr : (resolve ρ c o.type).run P w with
  | ok d w1 => rw [hr] at h; simp at h; exact hx d h.1.symm
  | halt z w1 => rw [hr] at h; cases h

theorem valIn_next {P : Program} {o : Oper} {a : Act} {g : Gh} {w : World} {r : AV} {s' : St} {x : Next} {v : Value} {g' : Gh} {w' : World} (h : (execOp a.eval o).run P w = .ok x w') (hx : NextIs x v) (ext : Ext g w g' w') (rel : Rel g' s' w') (hr : Rep g' w' r v) :
    ValIn P o a g w r s' := fun ro K Q hK => by
  have hK := hK v g' w' ext rel hr
  have hs : o.semAt ro a.eval = execOp a.eval o := semAt_of_next h (fun d hd => by rcases hx with rfl | ⟨rfl, _⟩ <;> cases hd) ro
  refine ⟨fun _ _ => trivial, ?_⟩
  show o.uponIn _ _ _ _ _ _ ((o.semAt ro a.eval).run P w)
  rw [hs, h]
  rcases hx with rfl | ⟨rfl, rfl⟩
  · exact hK
  · exact hK

theorem valIn_call {P : Program} {o : Oper} {a : Act} {g : Gh} {w : World} {r : AV} {s' : St} {f : FuncId} {vs : List Value} (h : (execOp a.eval o).run P w = .ok (.enter f vs.toArray) w) (hc : CallsIn Fence.wide 0 P f vs.toArray w (Ret g w r s')) :
    ValIn P o a g w r s' := fun ro K Q hK => by
  have hs : o.semAt ro a.eval = execOp a.eval o := semAt_of_next h (fun d hd => by cases hd) ro
  refine ⟨fun _ _ => trivial, ?_⟩
  show o.uponIn _ _ _ _ _ _ ((o.semAt ro a.eval).run P w)
  rw [hs, h]
  refine ⟨(fun h => by cases h), (callsIn_FW hc).mono ?_⟩
  intro e w1 he
  cases e with
  | returned v =>
    obtain ⟨g1, ext, rel1, hv⟩ := he
    exact hK v g1 w1 ext rel1 hv
  | panicked c => exact he.elim
  | outgrown => exact he.elim

theorem valIn_round {P : Program} {o : Oper} {a : Act} {g : Gh} {w : World} {r : AV} {s' : St} {l f : Nat} {tmps : Array Value} {assign body : Code} (h : (execOp a.eval o).run P w = .ok (.round l f tmps assign body) w)
    (hc : RoundIn Fence.wide 0 P l f tmps assign body w (Ret g w r s')) : ValIn P o a g w r s' := fun ro K Q hK => by
  have hs : o.semAt ro a.eval = execOp a.eval o := semAt_of_next h (fun d hd => by cases hd) ro
  refine ⟨fun _ _ => trivial, ?_⟩
  show o.uponIn _ _ _ _ _ _ ((o.semAt ro a.eval).run P w)
  rw [hs, h]
  refine ⟨(fun h => by cases h), (roundIn_FW hc).mono ?_⟩
  intro e w1 he
  cases e with
  | returned v =>
    obtain ⟨g1, ext, rel1, hv⟩ := he
    exact hK v g1 w1 ext rel1 hv
  | panicked c => exact he.elim
  | outgrown => exact he.elim

structure Rec where
  call : FuncId → List AV → St → Option (AV × St)
  round : Nat → List AV → St → Option (AV × St)

/-- A call that leaves the memory as it was, as an operation. -/
def cOp (E : Env) (R : Rec) (ev : Operand → Option AV) (o : Oper) : Option AV :=
  match o.op with
  | .call c => match resolveA E.P ev c with
    | some (.func (.func k) _ _, args) => callC E R.call k args
    | _ => none
  | _ => none

/-- Whatever call. -/
def iOp (E : Env) (R : Rec) (ev : Operand → Option AV) (s : St) (o : Oper) : Option (AV × St) :=
  match o.op with
  | .call c => match resolveA E.P ev c with
    | some (.func (.func k) _ _, args) => callF E R.call k args s
    | some (.yield l, args) => R.round l args s
    | _ => none
  | _ => none

structure RecOk (E : Env) (R : Rec) : Prop where
  call : CallOk E.P E.G R.call
  round : RoundOk E.P E.G R.round
  callS : ∀ f args s r s', R.call f args s = some (r, s') → Stat s s'
  roundS : ∀ i args s r s', R.round i args s = some (r, s') → Stat s s'

theorem callF_stat {E : Env} {call : FuncId → List AV → St → Option (AV × St)} (hc : ∀ f args s r s', call f args s = some (r, s') → Stat s s') {f : FuncId} {args : List AV} {s s' : St} {r : AV} (h : callF E call f args s = some (r, s')) : Stat s s' := by
  unfold callF at h
  split at h
  · split at h
    · rename_i hn; cases h; exact Stat.of_none hn
    · cases h
  · split at h
    · split at h
      · cases h; exact Stat.refl _
      · exact hc _ _ _ _ _ h
    · exact hc _ _ _ _ _ h
theorem iOp_stat {E : Env} {R : Rec} (hR : RecOk E R) {o : Oper} {s s' : St} {r : AV} {ev : Operand → Option AV} (h : iOp E R ev s o = some (r, s')) : Stat s s' := by
  unfold iOp at h
  split at h
  · split at h
    · exact callF_stat hR.callS h
    · exact hR.roundS _ _ _ _ _ h
    · cases h
  · cases h

theorem tOp_valIn {E : Env} {o : Oper} {a : Act} {g : Gh} {s : St} {w : World} {r : AV} {ev : Operand → Option AV} (h : tOp E.P ev o = some r) (rel : Rel g s w) (hev : EvOk g w ev a.eval) : ValIn E.P o a g w r s := by
  obtain ⟨v, h1, h2⟩ := tOp_sound h hev
  exact valIn_next (h1 w) (.inl rfl) (Ext.refl g w) rel h2
theorem rOp_valIn {E : Env} {o : Oper} {a : Act} {g : Gh} {s : St} {w : World} {r : AV} {ev : Operand → Option AV} (h : rOp E.P ev s o = some r) (rel : Rel g s w) (hev : EvOk g w ev a.eval) : ValIn E.P o a g w r s := by
  obtain ⟨v, h1, h2⟩ := rOp_sound h rel hev
  exact valIn_next h1 (.inl rfl) (Ext.refl g w) rel h2
theorem eOp_valIn {E : Env} {o : Oper} {a : Act} {g : Gh} {s s' : St} {w : World} {i : Nat} {r : AV} {ev : Operand → Option AV} (h : eOp E.P ev i s o = some (r, s')) (rel : Rel g s w) (hev : EvOk g w ev a.eval) : ValIn E.P o a g w r s' := by
  obtain ⟨x, v, w', g', h1, h2, h3, h4, h5⟩ := eOp_sound h rel hev
  exact valIn_next h1 h2 h3 h4 h5
theorem cOp_valIn {E : Env} (hE : EnvOk E) {R : Rec} (hR : RecOk E R) {o : Oper} {a : Act} {g : Gh} {s : St} {w : World} {r : AV} {ev : Operand → Option AV} (h : cOp E R ev o = some r) (rel : Rel g s w) (glob : GlobOk E.G g w) (hev : EvOk g w ev a.eval) : ValIn E.P o a g w r s := by
  unfold cOp at h
  split at h
  · rename_i c ho
    split at h
    · rename_i k x y args hres
      rcases resolve_sound hE.names ho hres hev with ⟨k', vs, e, hargs, hrun⟩ | ⟨l, vs, e, _⟩
      · cases e
        exact valIn_call hrun (callC_sound hE hR.call h g w s vs rel glob (shutArgs_rep hargs))
      · cases e
    · cases h
  · cases h
theorem iOp_valIn {E : Env} (hE : EnvOk E) {R : Rec} (hR : RecOk E R) {o : Oper} {a : Act} {g : Gh} {s s' : St} {w : World} {r : AV} {ev : Operand → Option AV} (h : iOp E R ev s o = some (r, s')) (rel : Rel g s w) (glob : GlobOk E.G g w) (hev : EvOk g w ev a.eval) : ValIn E.P o a g w r s' := by
  unfold iOp at h
  split at h
  · rename_i c ho
    split at h
    · rename_i k x y args hres
      rcases resolve_sound hE.names ho hres hev with ⟨k', vs, e, hargs, hrun⟩ | ⟨l, vs, e, _⟩
      · cases e
        exact valIn_call hrun (callF_sound hE hR.call h rel glob hargs)
      · cases e
    · rename_i l args hres
      rcases resolve_sound hE.names ho hres hev with ⟨k', vs, e, hargs, hrun⟩ | ⟨l', vs, e, hu, hargs, hrun⟩
      · cases e
      · cases e
        obtain ⟨f, tmps, assign, body, h1, h2⟩ := hR.round l args s r s' h g w vs rel glob hargs hu
        exact valIn_round (by rw [hrun]; exact h1) h2
    · cases h
  · cases h

/-- The classes of operations. -/
inductive Cl where
  | T | Lc | Lm | C | E
def cls (o : Oper) : Cl :=
  match o.op with
  | .load _ _ => .Lc
  | .lookup _ _ _ _ => .Lm
  | .alloc _ => .E
  | .box _ _ => .E
  | .buildSlice _ _ _ => .E
  | .store _ _ _ => .E
  | .makeMap _ _ => .E
  | .makeSlice _ _ _ => .E
  | .mapUpdate _ _ _ _ => .E
  | .insert _ _ _ _ => .E
  | .call c => match c.callee with
    | .builtin b => match b with
      | .len => .T
      | .min => .T
      | .max => .T
      | _ => .E
    | _ => .C
  | _ => .T

/-- It leaves the memory as it was. -/
def keepS (r : Option AV) (s : St) : Option (AV × St) :=
  match r with
  | some r => some (r, s)
  | none => none

/-- The value of an operation, by its class (cm: calls leave the memory as it was). -/
def valD (cm : Oper → Bool) (E : Env) (R : Rec) (ev : Operand → Option AV) (i : Nat) (s : St) (o : Oper) : Option (AV × St) :=
  match cls o with
  | .T => keepS (tOp E.P ev o) s
  | .Lc => keepS (rOp E.P ev s o) s
  | .Lm => keepS (rOp E.P ev s o) s
  | .C => if cm o then keepS (cOp E R ev o) s else iOp E R ev s o
  | .E => eOp E.P ev i s o

theorem keepS_some {r : Option AV} {s s' : St} {x : AV} (h : keepS r s = some (x, s')) : r = some x ∧ s' = s := by
  unfold keepS at h
  split at h
  · cases h; exact ⟨rfl, rfl⟩
  · cases h

theorem valD_valIn {cm : Oper → Bool} {E : Env} (hE : EnvOk E) {R : Rec} (hR : RecOk E R) {o : Oper} {a : Act} {g : Gh} {s s' : St} {w : World} {i : Nat} {r : AV} {ev : Operand → Option AV} (h : valD cm E R ev i s o = some (r, s')) (rel : Rel g s w) (glob : GlobOk E.G g w) (hev : EvOk g w ev a.eval) :
    ValIn E.P o a g w r s' := by
  unfold valD at h
  split at h
  · obtain ⟨h1, rfl⟩ := keepS_some h; exact tOp_valIn h1 rel hev
  · obtain ⟨h1, rfl⟩ := keepS_some h; exact rOp_valIn h1 rel hev
  · obtain ⟨h1, rfl⟩ := keepS_some h; exact rOp_valIn h1 rel hev
  · split at h
    · obtain ⟨h1, rfl⟩ := keepS_some h; exact cOp_valIn hE hR h1 rel glob hev
    · exact iOp_valIn hE hR h rel glob hev
  · exact eOp_valIn h rel hev

theorem valD_stat {cm : Oper → Bool} {E : Env} {R : Rec} (hR : RecOk E R) {o : Oper} {s s' : St} {i : Nat} {r : AV} {ev : Operand → Option AV} (h : valD cm E R ev i s o = some (r, s')) : Stat s s' := by
  unfold valD at h
  split at h
  · obtain ⟨_, rfl⟩ := keepS_some h; exact Stat.refl _
  · obtain ⟨_, rfl⟩ := keepS_some h; exact Stat.refl _
  · obtain ⟨_, rfl⟩ := keepS_some h; exact Stat.refl _
  · split at h
    · obtain ⟨_, rfl⟩ := keepS_some h; exact Stat.refl _
    · exact iOp_stat hR h
  · exact eOp_stat h

/-! ### Is it wanted? -/
def wantedA (ops : List Oper) (A : AAct) (o : Oper) : Option Bool :=
  match o.guard with
  | none => some true
  | some (j, b) => match ops[j]? with
    | some oj => match oj.dst with
      | some d => if Nat.blt d A.n then
          match A.tm.get d with
          | .val v => match v with
            | .bool x => some (x == b)
            | _ => some false
          | _ => none
        else none
      | none => none
    | none => none

theorem wanted_sound {ops : Array Oper} {g : Gh} {w : World} {A : AAct} {a : Act} {o : Oper} {b : Bool} (h : wantedA ops.toList A o = some b) (hA : ActOk g w A a) : Region.wanted o (yielded ops a.tmps) = b := by
  unfold wantedA at h
  unfold Region.wanted
  split at h
  · rename_i hg
    rw [hg]
    simpa using h
  · rename_i j b' hg
    rw [hg]
    simp only
    split at h
    · rename_i oj hj
      have hj' : ops[j]? = some oj := by simpa using hj
      split at h
      · rename_i d hd
        split at h
        · rename_i hlt
          have hlt := blt_lt hlt
          have hs : d < a.tmps.size := by rw [hA.tm.1]; exact hlt
          have hrep := hA.tm.2 d a.tmps[d] (by simp [hs])
          split at h
          · rename_i v hv
            rw [hv] at hrep
            simp only [Rep] at hrep
            have hat : a.tmps[d]? = some v := by simp [hs, hrep]
            cases v with
            | bool x =>
              simp only [Option.some.injEq] at h
              subst h
              have hy : yielded ops a.tmps j = some x := by
                unfold yielded
                rw [hj']
                simp only [Option.bind_some, hd, hat]
              rw [hy]
              cases x <;> cases b' <;> rfl
            | _ =>
              simp only [Option.some.injEq] at h
              subst h
              have hy : yielded ops a.tmps j = none := by
                unfold yielded
                rw [hj']
                simp only [Option.bind_some, hd, hat]
              rw [hy]
              rfl
          · cases h
        · cases h
      · cases h
    · cases h

def OpK (g : Gh) (w : World) (A' : AAct) (s' : St) (K : Act → World → Prop) : Prop := ∀ g' w' a', Ext g w g' w' → Rel g' s' w' → ActOk g' w' A' a' → K a' w'

theorem resolve_defer {P : Program} {g : Gh} {w : World} {ev : Operand → Option AV} {ρ : Operand → Value} {c : Call} {k : FuncId} {x y args : List AV} (h : resolveA P ev c = some (.func (.func k) x y, args)) (hev : EvOk g w ev ρ) (hv : ∃ f, c.callee = .value f) (t : TypeId) :
    ∃ as cap vs, (resolve ρ c t).run P w = .ok { target := .fn (.func k) cap, args := as } w ∧ as ++ cap = vs.toArray ∧ RepAll g w args vs := by
  obtain ⟨f, hc⟩ := hv
  unfold resolveA at h
  split at h
  · rename_i as has
    have hargs := evList_rep hev has
    have harr : c.args.map ρ = (c.args.toList.map ρ).toArray := by apply Array.ext'; simp
    rw [hc] at h
    simp only at h
    split at h
    · rename_i k' first cap hf
      split at h
      · cases h
        have hr := hev _ _ hf
        simp only [Rep] at hr
        obtain ⟨fs, cs, h1, h2, h3⟩ := hr
        refine ⟨fs.toArray ++ (c.args.toList.map ρ).toArray, cs.toArray, fs ++ c.args.toList.map ρ ++ cs, ?_, by apply Array.ext'; simp, (h2.append hargs).append h3⟩
        simp only [resolve, hc, harr, h1, Deferred.ofValue, Sem.run_pure]
      · cases h
    · cases h
    · cases h
  · cases h

/-- A new value for an operation's temporary. -/
def putR (A : AAct) (d : Option Tmp) (p : Option (AV × St)) : Option (AAct × St) :=
  match p with
  | some (r, s) => match A.put d r with
    | some A' => some (A', s)
    | none => none
  | none => none

/-- One operation of a region: never a defer. -/
def stepD (cm : Oper → Bool) (E : Env) (R : Rec) (ops : List Oper) (i : Nat) (o : Oper) (A : AAct) (s : St) : Option (AAct × St) :=
  match wantedA ops A o with
  | some true => putR A o.dst (valD cm E R (evA E.G A) i s o)
  | some false => putR A o.dst (some (.val undef, s))
  | none => none

theorem putR_stat {A A' : AAct} {d : Option Tmp} {p : Option (AV × St)} {s s' : St} (h : putR A d p = some (A', s')) (k : ∀ r s1, p = some (r, s1) → Stat s s1) : Stat s s' := by
  unfold putR at h
  split at h
  · split at h
    · cases h; exact k _ _ rfl
    · cases h
  · cases h
theorem stepD_stat {cm : Oper → Bool} {E : Env} {R : Rec} (hR : RecOk E R) {ops : List Oper} {o : Oper} {A A' : AAct} {s s' : St} {i : Nat} (h : stepD cm E R ops i o A s = some (A', s')) : Stat s s' := by
  unfold stepD at h
  split at h
  · exact putR_stat h (fun r s1 e => valD_stat hR e)
  · exact putR_stat h (fun r s1 e => by cases e; exact Stat.refl _)
  · cases h

/-- What is asked of an operation of a region. -/
def OpIn (P : Program) (ro : Option Nat) (ops : Array Oper) (o : Oper) (a : Act) (w : World) (K : Act → World → Prop) (Q : Exit → Act → World → Prop) : Prop :=
  if Region.wanted o (yielded ops a.tmps) then o.wpIn (FW ro) 0 P a w K Q else (∀ f, o.about P w a.eval = some f → (FW ro).fn f) ∧ K (a.put o.dst undef) w

theorem stepD_sound {cm : Oper → Bool} {E : Env} (hE : EnvOk E) {R : Rec} (hR : RecOk E R) {ops : Array Oper} {o : Oper} {a : Act} {A A' : AAct} {g : Gh} {s s' : St} {w : World} {i : Nat} (h : stepD cm E R ops.toList i o A s = some (A', s')) (rel : Rel g s w) (glob : GlobOk E.G g w) (hA : ActOk g w A a)
    {ro : Option Nat} {K : Act → World → Prop} {Q : Exit → Act → World → Prop} (hK : OpK g w A' s' K) : OpIn E.P ro ops o a w K Q := by
  unfold stepD at h
  unfold OpIn
  split at h
  · rename_i hw
    rw [wanted_sound hw hA]
    simp only [if_true]
    unfold putR at h
    split at h
    · rename_i r s1 hv
      split at h
      · rename_i A1 hp
        cases h
        refine valD_valIn hE hR hv rel glob (evA_ok glob hA) ro K Q (fun v g' w' ext rel' hr => ?_)
        exact hK g' w' _ ext rel' ((hA.ext ext).put hp hr)
      · cases h
    · cases h
  · rename_i hw
    rw [wanted_sound hw hA]
    simp only [Bool.false_eq_true, if_false]
    simp only [putR] at h
    split at h
    · rename_i A1 hp
      cases h
      exact ⟨fun _ _ => trivial, hK g w _ (Ext.refl g w) rel (hA.put hp (by simp [Rep]))⟩
    · cases h
  · cases h

/-- One operation of a region without a draw. -/
def stepF (E : Env) (R : Rec) (rd : Bool) (ops : List Oper) (i : Nat) (o : Oper) (A : AAct) (s : St) : Option (AAct × St) :=
  match o.op with
  | .defer c => if rd then none else
      match wantedA ops A o with
      | some true => match c.callee with
        | .value _ => match resolveA E.P (evA E.G A) c with
          | some (.func (.func k) _ _, args) => putR { A with df := .call k args :: A.df } o.dst (some (.val undef, s))
          | _ => none
        | _ => none
      | _ => none
  | _ => stepD (fun _ => false) E R ops i o A s

theorem stepF_sound {E : Env} (hE : EnvOk E) {R : Rec} (hR : RecOk E R) {rd : Bool} {ops : Array Oper} {o : Oper} {a : Act} {A A' : AAct} {g : Gh} {s s' : St} {w : World} {i : Nat} (h : stepF E R rd ops.toList i o A s = some (A', s')) (rel : Rel g s w) (glob : GlobOk E.G g w) (hA : ActOk g w A a)
    {ro : Option Nat} (hro : rd = false → ro = none) {K : Act → World → Prop} {Q : Exit → Act → World → Prop} (hK : OpK g w A' s' K) : OpIn E.P ro ops o a w K Q := by
  unfold stepF at h
  split at h
  · rename_i c ho
    split at h
    · cases h
    · rename_i hrd
      have hro := hro (by simpa using hrd)
      subst hro
      split at h
      · rename_i hw
        unfold OpIn
        rw [wanted_sound hw hA]
        simp only [if_true]
        split at h
        · rename_i f hc
          split at h
          · rename_i k x y args hres
            obtain ⟨as, cap, vs, hrun, he, hargs⟩ := resolve_defer (w := w) hres (evA_ok glob hA) ⟨f, hc⟩ o.type
            simp only [putR] at h
            split at h
            · rename_i A1 hp
              cases h
              refine ⟨fun _ _ => trivial, ?_⟩
              show o.uponIn _ _ _ _ _ _ ((o.semAt none a.eval).run E.P w)
              rw [Oper.semAt_none]
              have : (execOp a.eval o).run E.P w = .ok (.defer { target := .fn (.func k) cap, args := as }) w := by
                simp [execOp, ho, hrun]
              rw [this]
              have hA2 : ActOk g w { A with df := .call k args :: A.df } { a with defers := { target := .fn (.func k) cap, args := as } :: a.defers } :=
                ⟨hA.tm, hA.most, by simp only [DfOk]; exact ⟨cap, as, vs, a.defers, rfl, he, hargs, hA.df⟩⟩
              exact hK g w _ (Ext.refl g w) rel (hA2.put hp (by simp [Rep]))
            · cases h
          · cases h
        · cases h
      · cases h
  · exact stepD_sound hE hR h rel glob hA hK

theorem stepF_stat {E : Env} {R : Rec} (hR : RecOk E R) {rd : Bool} {ops : List Oper} {o : Oper} {A A' : AAct} {s s' : St} {i : Nat} (h : stepF E R rd ops i o A s = some (A', s')) : Stat s s' := by
  unfold stepF at h
  split at h
  · repeat' split at h
    all_goals first
      | (cases h; done)
      | exact putR_stat h (fun r s1 e => by cases e; exact Stat.refl _)
  · exact stepD_stat hR h

/-! ### A region without a draw -/
def evOps (E : Env) (R : Rec) (rd : Bool) (ops : List Oper) : Nat → List Oper → AAct → St → Option (AAct × St)
  | _, [], A, s => some (A, s)
  | i, o :: r, A, s => match stepF E R rd ops i o A s with
    | some (A', s') => evOps E R rd ops (i + 1) r A' s'
    | none => none

theorem evOps_stat {E : Env} {R : Rec} (hR : RecOk E R) {rd : Bool} {ops : List Oper} : ∀ {l : List Oper} {i : Nat} {A A' : AAct} {s s' : St}, evOps E R rd ops i l A s = some (A', s') → Stat s s'
  | [], i, A, A', s, s', h => by cases h; exact Stat.refl _
  | o :: r, i, A, A', s, s', h => by
    simp only [evOps] at h
    split at h
    · rename_i A1 s1 h1
      exact (stepF_stat hR h1).trans (evOps_stat hR h)
    · cases h

theorem evOps_sound {E : Env} (hE : EnvOk E) {R : Rec} (hR : RecOk E R) {rd : Bool} {ops : Array Oper} {ro : Option Nat} (hro : rd = false → ro = none) {Q : Exit → Act → World → Prop} :
    ∀ (m i k : Nat) (l : List Oper) (a : Act) (A A' : AAct) (g : Gh) (s s' : St) (w : World), l = ops.toList.drop k → l.length = m → evOps E R rd ops.toList i l A s = some (A', s') → Rel g s w → GlobOk E.G g w → ActOk g w A a →
      OpK g w A' s' (Q .normal) → wpOpsIn (FW ro) 0 E.P ops Q (List.range' k m) a w
  | 0, i, k, l, a, A, A', g, s, s', w, hl, hm, h, rel, glob, hA, hK => by
    have : l = [] := List.eq_nil_of_length_eq_zero hm
    subst this
    cases h
    exact hK g w a (Ext.refl g w) rel hA
  | m + 1, i, k, l, a, A, A', g, s, s', w, hl, hm, h, rel, glob, hA, hK => by
    cases l with
    | nil => cases hm
    | cons o r =>
      have ho : ops[k]? = some o := by
        have h0 : (ops.toList.drop k)[0]? = some o := by rw [← hl]; rfl
        rw [List.getElem?_drop] at h0
        simpa using h0
      have hr : r = ops.toList.drop (k + 1) := by
        have : (ops.toList.drop k).tail = r := by rw [← hl]; rfl
        rw [← this]; simp
      simp only [evOps] at h
      split at h
      · rename_i A1 s1 h1
        rw [List.range'_succ, wpOpsIn_cons]
        unfold wpOpIn
        rw [ho]
        refine stepF_sound hE hR h1 rel glob hA hro (fun g' w' a' ext rel' hA' => ?_)
        refine evOps_sound hE hR hro m (i + 1) (k + 1) r a' A1 A' g' s1 s' w' hr (by simpa using hm) h rel' (glob.ext ext) hA' (fun g2 w2 a2 e2 r2 h2 => hK g2 w2 a2 (ext.trans e2) r2 h2)
      · cases h

theorem region_sound {E : Env} (hE : EnvOk E) {R : Rec} (hR : RecOk E R) {rd : Bool} {id : Nat} {ops : Array Oper} {ro : Option Nat} (hro : rd = false → ro = none) {Q : Exit → Act → World → Prop} {i : Nat} {a : Act} {A A' : AAct} {g : Gh} {s s' : St} {w : World}
    (h : evOps E R rd ops.toList i ops.toList A s = some (A', s')) (rel : Rel g s w) (glob : GlobOk E.G g w) (hA : ActOk g w A a) (hK : OpK g w A' s' (Q .normal)) : (Code.region id ops false).wpIn (FW ro) 0 E.P Q a w := by
  refine wpIn_region ?_
  rw [List.range_eq_range']
  exact evOps_sound hE hR hro ops.size i 0 ops.toList a A A' g s s' w rfl (by simp) h rel glob hA hK

end Go.Am
