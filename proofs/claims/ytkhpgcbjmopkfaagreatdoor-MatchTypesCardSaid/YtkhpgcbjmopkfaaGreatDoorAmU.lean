import Derived.Test.YtkhpgcbjmopkfaaGreatDoorAmN
import Derived.RangeFuncLeaves
set_option linter.unusedVariables false
set_option linter.unusedSimpArgs false
/-!
  THE ABSTRACT MACHINE, part O: activations; calls.
-/
namespace Go.Am
open Go Go.RowKit

def FW (ro : Option Nat) : Fence := { Fence.wide with round := ro }

theorem callsIn_FW {ro : Option Nat} {n : Nat} {P : Program} {f : FuncId} {args : Array Value} {w : World} {R : Ending → World → Prop} (h : CallsIn Fence.wide 0 P f args w R) : CallsIn (FW ro) n P f args w R :=
  ⟨trivial, fun cs _ => h.2 cs (room_wide _)⟩
theorem roundIn_FW {ro : Option Nat} {n : Nat} {P : Program} {l : Nat} {f : FuncId} {tmps : Array Value} {assign body : Code} {w : World} {R : Ending → World → Prop} (h : RoundIn Fence.wide 0 P l f tmps assign body w R) : RoundIn (FW ro) n P l f tmps assign body w R :=
  ⟨trivial, fun c cs _ => h.2 c cs (room_wide _)⟩

/-- The package-level variables that are laid. -/
def GlobOk (G : Nat → Option AV) (g : Gh) (w : World) : Prop := ∀ i a, G i = some a → Rep g w a (.pointer (some ⟨i, 0, none⟩))
theorem GlobOk.ext {G : Nat → Option AV} {g g' : Gh} {w w' : World} (h : GlobOk G g w) (e : Ext g w g' w') : GlobOk G g' w' := fun i a hi => (h i a hi).ext e

inductive ADef where
  | mark (i : Nat)
  | call (f : FuncId) (args : List AV)
  deriving Inhabited

structure AAct where
  n : Nat
  tm : Tr
  df : List ADef
  deriving Inhabited

def DfOk (g : Gh) (w : World) : List ADef → List Deferred → Prop
  | [], ds => ds = []
  | .mark i :: r, ds => ∃ q, ds = { target := .collected (g.blk i), args := #[] } :: q ∧ g.use i ∧ DfOk g w r q
  | .call f args :: r, ds => ∃ cap as vs q, ds = { target := .fn (.func f) cap, args := as } :: q ∧ as ++ cap = vs.toArray ∧ RepAll g w args vs ∧ DfOk g w r q

theorem DfOk.ext {g g' : Gh} {w w' : World} (e : Ext g w g' w') : ∀ {l : List ADef} {ds : List Deferred}, DfOk g w l ds → DfOk g' w' l ds
  | [], ds, h => h
  | .mark i :: r, ds, h => by
    simp only [DfOk] at h ⊢
    obtain ⟨q, h1, h2, h3⟩ := h
    exact ⟨q, by rw [e.blk i h2]; exact h1, e.use i h2, DfOk.ext e h3⟩
  | .call f args :: r, ds, h => by
    simp only [DfOk] at h ⊢
    obtain ⟨cap, as, vs, q, h1, h2, h3, h4⟩ := h
    exact ⟨cap, as, vs, q, h1, h2, RepAll.ext e h3, DfOk.ext e h4⟩

structure ActOk (g : Gh) (w : World) (A : AAct) (a : Act) : Prop where
  tm : TmOk g w A.n A.tm a.tmps
  most : A.n ≤ 65536
  df : DfOk g w A.df a.defers

theorem ActOk.ext {g g' : Gh} {w w' : World} {A : AAct} {a : Act} (h : ActOk g w A a) (e : Ext g w g' w') : ActOk g' w' A a := ⟨h.tm.ext e, h.most, h.df.ext e⟩

def evA (G : Nat → Option AV) (A : AAct) : Operand → Option AV
  | .tmp t => if Nat.blt t A.n then some (A.tm.get t) else none
  | .const v => some (ofVal v)
  | .global i => G i
  | .func f => some (.func (.func f) [] [])

theorem evA_ok {G : Nat → Option AV} {g : Gh} {w : World} {A : AAct} {a : Act} (hG : GlobOk G g w) (h : ActOk g w A a) : EvOk g w (evA G A) a.eval := fun x r hx => by
  cases x with
  | tmp t =>
    simp only [evA] at hx
    split at hx
    · rename_i hlt
      have hlt := blt_lt hlt
      cases hx
      have hs : t < a.tmps.size := by rw [h.tm.1]; exact hlt
      have := h.tm.2 t a.tmps[t] (by simp [hs])
      simpa [Act.eval, Array.getD, hs] using this
    · cases hx
  | const v => simp only [evA, Option.some.injEq] at hx; subst hx; exact ofVal_rep g w v
  | global i => exact hG i r hx
  | func f =>
    simp only [evA, Option.some.injEq] at hx
    subst hx
    simp only [Rep, Act.eval]
    exact ⟨[], [], rfl, rfl, rfl⟩

def AAct.put (A : AAct) (d : Option Tmp) (r : AV) : Option AAct :=
  match d with
  | some d => if Nat.blt d A.n then some { A with tm := A.tm.set d r } else none
  | none => some A

theorem ActOk.put {g : Gh} {w : World} {A A' : AAct} {a : Act} {d : Option Tmp} {r : AV} {v : Value} (h : ActOk g w A a) (hp : A.put d r = some A') (hr : Rep g w r v) : ActOk g w A' (a.put d v) := by
  unfold AAct.put at hp
  split at hp
  · split at hp
    · rename_i d hlt
      cases hp
      exact ⟨h.tm.set h.most (blt_lt hlt) hr, h.most, h.df⟩
    · cases hp
  · cases hp; exact h

/-- What a call leaves. -/
def Ret (g : Gh) (w : World) (r : AV) (s' : St) : Ending → World → Prop
  | .returned v, w' => ∃ g', Ext g w g' w' ∧ Rel g' s' w' ∧ Rep g' w' r v
  | _, _ => False

def CallOk (P : Program) (G : Nat → Option AV) (call : FuncId → List AV → St → Option (AV × St)) : Prop :=
  ∀ f args s r s', call f args s = some (r, s') → ∀ g w vs, Rel g s w → GlobOk G g w → RepAll g w args vs → CallsIn Fence.wide 0 P f vs.toArray w (Ret g w r s')

def RoundOk (P : Program) (G : Nat → Option AV) (round : Nat → List AV → St → Option (AV × St)) : Prop :=
  ∀ i args s r s', round i args s = some (r, s') → ∀ g w vs, Rel g s w → GlobOk G g w → RepAll g w args vs → g.use i →
    ∃ f tmps assign body, (Instr.yield (g.blk i) vs.toArray).run P w = .ok (.round (g.blk i) f tmps assign body) w ∧ RoundIn Fence.wide 0 P (g.blk i) f tmps assign body w (Ret g w r s')

/-! ### Which function is called -/
def NamesOk (P : Program) : Prop := ∀ (f : FuncId) (fn : Func), P.funcs[f]? = some fn → fn.body.isSome = true → (fn.name == "runtime.NumGoroutine") = false

theorem run_callFunc {P : Program} {f : FuncId} {fn : Func} (hN : NamesOk P) (hf : P.funcs[f]? = some fn) (hb : fn.body.isSome = true) (args : Array Value) (w : World) : (callFunc f args).run P w = .ok (.enter f args) w := by
  have h1 := hN f fn hf hb
  have h2 : fn.body.isNone = false := by cases h : fn.body <;> simp_all
  simp only [callFunc, Sem.run_bind, program, Sem.run, Result.andThen_ok, hf, h1, h2]
  simp

def hasBody (P : Program) (f : FuncId) : Bool :=
  match P.funcs[f]? with
  | some fn => match fn.body with
    | some _ => true
    | none => false
  | none => false
theorem hasBody_run {P : Program} {f : FuncId} (hN : NamesOk P) (h : hasBody P f = true) (args : Array Value) (w : World) : (callFunc f args).run P w = .ok (.enter f args) w := by
  unfold hasBody at h
  split at h
  · rename_i fn hf
    split at h
    · rename_i c hb
      exact run_callFunc hN hf (by rw [hb]; rfl) args w
    · cases h
  · cases h

def methodA (P : Program) (t : TypeId) (name : String) : Option FuncId :=
  match P.info? t with
  | some i => match i.methods.toList.find? (·.name == name) with
    | some m => match m.path.toList with
      | [] => match m.func with
        | some (f, pr) => match P.underlying t with
          | some (.pointer _) => if pr then some f else none
          | some _ => if pr then none else some f
          | none => none
        | none => none
      | _ => none
    | none => none
  | none => none

theorem run_method {P : Program} {t : TypeId} {name : String} {f : FuncId} (h : methodA P t name = some f) (v : Value) (n : Nat) (w : World) : (method (n + 1) t v name).run P w = .ok (f, v) w := by
  unfold methodA at h
  split at h
  · rename_i i hi
    split at h
    · rename_i m hm
      split at h
      · rename_i hp
        split at h
        · rename_i f' pr hfn
          have hm' : i.methods.find? (·.name == name) = some m := by rw [← Array.find?_toList]; exact hm
          split at h
          · rename_i e hu
            split at h
            · rename_i hpr
              cases h
              simp [method, typeInfo, hi, hm', hp, follow, hfn, receiverAt, run_underlying hu, hpr, Place.get]
            · cases h
          · rename_i d hne hu
            split at h
            · cases h
            · rename_i hpr
              cases h
              have hpr : pr = false := by simpa using hpr
              cases d <;> first
                | (exact absurd rfl (hne _))
                | simp [method, typeInfo, hi, hm', hp, follow, hfn, receiverAt, run_underlying hu, hpr, Place.get]
          · cases h
        · cases h
      · cases h
    · cases h
  · cases h

/-- What is called, with what. -/
def resolveA (P : Program) (ev : Operand → Option AV) (c : Call) : Option (AV × List AV) :=
  match evList ev c.args.toList with
  | some args => match c.callee with
    | .value f => match ev f with
      | some (.func (.func k) first cap) => if hasBody P k then some (.func (.func k) [] [], first ++ args ++ cap) else none
      | some (.yield l) => some (.yield l, args)
      | _ => none
    | .invoke x name => match ev x with
      | some (.iface t v) => match methodA P t name with
        | some k => if hasBody P k then some (.func (.func k) [] [], v :: args) else none
        | none => none
      | _ => none
    | .builtin _ => none
  | none => none

theorem resolve_sound {P : Program} {g : Gh} {w : World} {ev : Operand → Option AV} {ρ : Operand → Value} {o : Oper} {c : Call} {fv : AV} {args : List AV} (hN : NamesOk P) (ho : o.op = .call c) (h : resolveA P ev c = some (fv, args)) (hev : EvOk g w ev ρ) :
    (∃ k vs, fv = .func (.func k) [] [] ∧ RepAll g w args vs ∧ (execOp ρ o).run P w = .ok (.enter k vs.toArray) w) ∨
    (∃ l vs, fv = .yield l ∧ g.use l ∧ RepAll g w args vs ∧ execOp ρ o = Instr.yield (g.blk l) vs.toArray) := by
  unfold resolveA at h
  split at h
  · rename_i as has
    have hargs := evList_rep hev has
    have harr : c.args.map ρ = (c.args.toList.map ρ).toArray := by apply Array.ext'; simp
    split at h
    · rename_i f hc
      split at h
      · rename_i k first cap hf
        split at h
        · rename_i hb
          cases h
          have hr := hev _ _ hf
          simp only [Rep] at hr
          obtain ⟨fs, cs, h1, h2, h3⟩ := hr
          refine .inl ⟨k, fs ++ c.args.toList.map ρ ++ cs, rfl, (h2.append hargs).append h3, ?_⟩
          have hrun := hasBody_run hN hb ((fs ++ c.args.toList.map ρ ++ cs).toArray) w
          have e1 : (fs.toArray ++ (c.args.toList.map ρ).toArray ++ cs.toArray) = (fs ++ c.args.toList.map ρ ++ cs).toArray := by apply Array.ext'; simp
          simp only [execOp, ho, resolve, hc, harr, h1, Deferred.ofValue, Sem.run_bind, Sem.run_pure, Result.andThen_ok, invoke]
          rw [e1]
          exact hrun
        · cases h
      · rename_i l hf
        cases h
        have hr := hev _ _ hf
        simp only [Rep] at hr
        obtain ⟨h1, h2⟩ := hr
        refine .inr ⟨l, c.args.toList.map ρ, rfl, h1, hargs, ?_⟩
        simp only [execOp, ho, resolve, hc, harr, h2, Deferred.ofValue]
        show (invoke (.fn (.yield (g.blk l)) #[]) (#[] ++ (c.args.toList.map ρ).toArray)) = _
        simp [invoke]
      · cases h
    · rename_i x name hc
      split at h
      · rename_i t v hx
        split at h
        · rename_i k hk
          split at h
          · rename_i hb
            cases h
            have hr := hev _ _ hx
            simp only [Rep] at hr
            obtain ⟨u, h1, h2⟩ := hr
            refine .inl ⟨k, u :: c.args.toList.map ρ, rfl, by simp only [RepAll]; exact ⟨u, _, rfl, h2, hargs⟩, ?_⟩
            have hrun := hasBody_run hN hb ((u :: c.args.toList.map ρ).toArray) w
            have hm := run_method hk u (P.types.size + Made.depth - 1) w
            have hd : P.types.size + Made.depth - 1 + 1 = P.types.size + Made.depth := by
              have : 0 < Made.depth := by decide
              omega
            rw [hd] at hm
            have e1 : (#[u] ++ (c.args.toList.map ρ).toArray) = (u :: c.args.toList.map ρ).toArray := by apply Array.ext'; simp
            have e2 : ((#[Value.iface t u] ++ (c.args.toList.map ρ).toArray).extract 1 (#[Value.iface t u] ++ (c.args.toList.map ρ).toArray).size) = (c.args.toList.map ρ).toArray := by
              apply Array.ext'
              simp
              exact List.take_of_length_le (by simp)
            have e3 : (#[Value.iface t u] ++ (c.args.toList.map ρ).toArray)[0]? = some (.iface t u) := by simp
            simp only [execOp, ho, resolve, hc, harr, h1, Sem.run_bind, Sem.run_pure, Result.andThen_ok, invoke, e2, e3, callMethod, program, Sem.run, hm]
            rw [e1]
            exact hrun
          · cases h
        · cases h
      · cases h
    · cases h
  · cases h

end Go.Am

set_option linter.unusedVariables false
set_option linter.unusedSimpArgs false
/-!
  THE ABSTRACT MACHINE, part P: an operation in a frame.
-/
namespace Go.Am
open Go Go.RowKit

structure Env where
  P : Program
  G : Nat → Option AV
  D : FuncId → Bool
  C : FuncId → Bool
  O : FuncId → Bool
  M : List (FuncId × List AV × AV)
  N : List (FuncId × List AV × St × AV × St)

/-- A call whose arguments and result bear no number: it leaves the memory as it was. -/
def ClosedOk (P : Program) (G : Nat → Option AV) (f : FuncId) (args : List AV) (r : AV) : Prop :=
  ∀ g w s vs, Rel g s w → GlobOk G g w → RepAll g w args vs → CallsIn Fence.wide 0 P f vs.toArray w (Ret g w r s)

/-- A call at a memory that is known in full. -/
def OpenOk (P : Program) (G : Nat → Option AV) (f : FuncId) (args : List AV) (s : St) (r : AV) (s' : St) : Prop :=
  ∀ g w vs, Rel g s w → GlobOk G g w → RepAll g w args vs → CallsIn Fence.wide 0 P f vs.toArray w (Ret g w r s')

/-- A deferred function that does nothing where nothing panics. -/
def DefOk (P : Program) (f : FuncId) : Prop :=
  hasBody P f = true ∧ ∀ args w, CallsDIn Fence.wide 0 P f args .returning w (fun e u w' => (∃ v, e = .returned v) ∧ u = .returning ∧ Same w w')

structure EnvOk (E : Env) : Prop where
  mixed : E.P.follows .mixedOrders = true
  names : NamesOk E.P
  glob : ∀ i a, E.G i = some a → closedA a = true
  memo : ∀ m ∈ E.M, ClosedOk E.P E.G m.1 m.2.1 m.2.2
  memoN : ∀ m ∈ E.N, OpenOk E.P E.G m.1 m.2.1 m.2.2.1 m.2.2.2.1 m.2.2.2.2
  defer : ∀ f, E.D f = true → DefOk E.P f

theorem closed_call {P : Program} {G : Nat → Option AV} {call : FuncId → List AV → St → Option (AV × St)} (hc : CallOk P G call) (hG : ∀ i a, G i = some a → closedA a = true) {f : FuncId} {args : List AV} {r : AV} {s1 : St}
    {q : AV} (h : call f args St.empty = some (r, s1)) (ha : closedAll args = true) (hr : shutA r = some q) : ClosedOk P G f args q := fun g w s vs rel glob hargs => by
  obtain ⟨hq, hrep⟩ := shutA_rep hr
  have glob' : GlobOk G (g.own w) w := fun i a hi => Rep.closed (g := g) (g' := g.own w) (fun b j h => h) (hG i a hi) (glob i a hi)
  refine (hc f args St.empty r s1 h (g.own w) w vs rel.own glob' (RepAll.closed (g := g) (g' := g.own w) (fun b j h => h) ha hargs)).mono ?_
  intro e w1 he
  cases e with
  | returned v =>
    obtain ⟨g1, ext, rel1, hv⟩ := he
    obtain ⟨e2, r2⟩ := rel.back ext rel1
    exact ⟨_, e2, r2, Rep.closed (g := g1) (g' := { g with fix := g1.fix }) (fun b j h => h) hq (hrep hv)⟩
  | panicked c => exact he
  | outgrown => exact he

def lookM (f : FuncId) (args : List AV) : List (FuncId × List AV × AV) → Option AV
  | [] => none
  | (k, as, r) :: q => if Nat.beq f k then (if eqAll args as then some r else lookM f args q) else lookM f args q
theorem lookM_mem {f : FuncId} {args : List AV} {r : AV} : ∀ {l : List (FuncId × List AV × AV)}, lookM f args l = some r → (f, args, r) ∈ l
  | [], h => by cases h
  | (k, as, r') :: q, h => by
    simp only [lookM] at h
    split at h
    · rename_i e
      split at h
      · rename_i e2
        cases h
        rw [Nat.eq_of_beq_eq_true e, eqAll_eq e2]
        exact List.mem_cons_self ..
      · exact List.mem_cons_of_mem _ (lookM_mem h)
    · exact List.mem_cons_of_mem _ (lookM_mem h)

/-- Arguments without numbers. -/
def shutArgs (args : List AV) : List AV := if closedAll args then args else weakAll args
theorem shutArgs_rep {g : Gh} {w : World} {args : List AV} {vs : List Value} (h : RepAll g w args vs) : RepAll g w (shutArgs args) vs := by
  unfold shutArgs
  split
  · exact h
  · exact h.weak

def callC0 (E : Env) (call : FuncId → List AV → St → Option (AV × St)) (f : FuncId) (args : List AV) : Option AV :=
  match lookM f args E.M with
  | some r => some r
  | none => if closedAll args then
      match call f args St.empty with
      | some (r, _) => shutA r
      | none => none
    else none
theorem callC0_sound {E : Env} (hE : EnvOk E) {call : FuncId → List AV → St → Option (AV × St)} (hc : CallOk E.P E.G call) {f : FuncId} {args : List AV} {r : AV} (h : callC0 E call f args = some r) : ClosedOk E.P E.G f args r := by
  unfold callC0 at h
  split at h
  · rename_i r' hm
    cases h
    exact hE.memo _ (lookM_mem hm)
  · split at h
    · rename_i ha
      split at h
      · rename_i r' s1 hr
        exact closed_call hc hE.glob hr ha h
      · cases h
    · cases h

/-- A call that leaves the memory as it was. -/
def callC (E : Env) (call : FuncId → List AV → St → Option (AV × St)) (f : FuncId) (args : List AV) : Option AV := callC0 E call f (shutArgs args)
theorem callC_sound {E : Env} (hE : EnvOk E) {call : FuncId → List AV → St → Option (AV × St)} (hc : CallOk E.P E.G call) {f : FuncId} {args : List AV} {r : AV} (h : callC E call f args = some r) : ClosedOk E.P E.G f (shutArgs args) r :=
  callC0_sound hE hc h

def lookN (f : FuncId) (args : List AV) (s : St) : List (FuncId × List AV × St × AV × St) → Option (AV × St)
  | [] => none
  | (k, as, t, r, s') :: q => if Nat.beq f k then (if eqAll args as then (if eqS s t then some (r, s') else lookN f args s q) else lookN f args s q) else lookN f args s q
theorem lookN_mem {f : FuncId} {args : List AV} {s s' : St} {r : AV} : ∀ {l : List (FuncId × List AV × St × AV × St)}, lookN f args s l = some (r, s') → (f, args, s, r, s') ∈ l
  | [], h => by cases h
  | (k, as, t, r', t') :: q, h => by
    simp only [lookN] at h
    split at h
    · rename_i e
      split at h
      · rename_i e2
        split at h
        · rename_i e3
          cases h
          rw [Nat.eq_of_beq_eq_true e, eqAll_eq e2, eqS_eq e3]
          exact List.mem_cons_self ..
        · exact List.mem_cons_of_mem _ (lookN_mem h)
      · exact List.mem_cons_of_mem _ (lookN_mem h)
    · exact List.mem_cons_of_mem _ (lookN_mem h)

/-- A call. -/
def callF (E : Env) (call : FuncId → List AV → St → Option (AV × St)) (f : FuncId) (args : List AV) (s : St) : Option (AV × St) :=
  match lookN f args s E.N with
  | some (r, s') => some (r, s')
  | none => if E.C f then (match callC E call f args with
    | some r => some (r, s)
    | none => call f args s) else call f args s
theorem callF_sound {E : Env} (hE : EnvOk E) {call : FuncId → List AV → St → Option (AV × St)} (hc : CallOk E.P E.G call) {f : FuncId} {args : List AV} {s s' : St} {r : AV} (h : callF E call f args s = some (r, s')) {g : Gh} {w : World} {vs : List Value}
    (rel : Rel g s w) (glob : GlobOk E.G g w) (hargs : RepAll g w args vs) : CallsIn Fence.wide 0 E.P f vs.toArray w (Ret g w r s') := by
  unfold callF at h
  split at h
  · rename_i r' s1 hn
    cases h
    exact hE.memoN _ (lookN_mem hn) g w vs rel glob hargs
  · split at h
    · split at h
      · rename_i q hq
        cases h
        exact callC_sound hE hc hq g w s vs rel glob (shutArgs_rep hargs)
      · exact hc _ _ _ _ _ h g w vs rel glob hargs
    · exact hc _ _ _ _ _ h g w vs rel glob hargs

/-! ### An operation's value -/
/-- What an operation comes to in a frame: whatever goes on from the value goes on from the operation. -/
def ValIn (P : Program) (o : Oper) (a : Act) (g : Gh) (w : World) (r : AV) (s' : St) : Prop :=
  ∀ (ro : Option Nat) (K : Act → World → Prop) (Q : Exit → Act → World → Prop), (∀ v g' w', Ext g w g' w' → Rel g' s' w' → Rep g' w' r v → K (a.put o.dst v) w') → o.wpIn (FW ro) 0 P a w K Q

theorem semAt_of_next {P : Program} {ρ : Operand → Value} {o : Oper} {w w' : World} {x : Next} (h : (execOp ρ o).run P w = .ok x w') (hx : ∀ d, x ≠ .defer d) (ro : Option Nat) : o.semAt ro ρ = execOp ρ o := by
  refine Oper.semAt_eq ro ρ o (fun c hc => ?_)
  simp only [execOp, hc, Sem.run_bind] at h
  cases hr : (resolve ρ c o.type).run P w with
  | ok d w1 => rw [hr] at h; simp at h; exact hx d h.1.symm
  | halt z w1 => rw [hr] at h; cases h

theorem valIn_next {P : Program} {o : Oper} {a : Act} {g : Gh} {w : World} {r : AV} {s' : St} {x : Next} {v : Value} {g' : Gh} {w' : World} (h : (execOp a.eval o).run P w = .ok x w') (hx : NextIs x v) (ext : Ext g w g' w') (rel : Rel g' s' w') (hr : Rep g' w' r v) :
    ValIn P o a g w r s' := fun ro K Q hK => by
  have hK := hK v g' w' ext rel hr
  have hs : o.semAt ro a.eval = execOp a.eval o := semAt_of_next h (fun d hd => by rcases hx with rfl | ⟨rfl, _⟩ <;> cases hd) ro
  refine ⟨fun _ _ => trivial, ?_⟩
  show o.uponIn _ _ _ _ _ _ ((o.semAt ro a.eval).run P w)
  rw [hs, h]
  rcases hx with rfl | ⟨rfl, rfl⟩
  · exact hK
  · exact hK

theorem valIn_call {P : Program} {o : Oper} {a : Act} {g : Gh} {w : World} {r : AV} {s' : St} {f : FuncId} {vs : List Value} (h : (execOp a.eval o).run P w = .ok (.enter f vs.toArray) w) (hc : CallsIn Fence.wide 0 P f vs.toArray w (Ret g w r s')) :
    ValIn P o a g w r s' := fun ro K Q hK => by
  have hs : o.semAt ro a.eval = execOp a.eval o := semAt_of_next h (fun d hd => by cases hd) ro
  refine ⟨fun _ _ => trivial, ?_⟩
  show o.uponIn _ _ _ _ _ _ ((o.semAt ro a.eval).run P w)
  rw [hs, h]
  refine ⟨(fun h => by cases h), (callsIn_FW hc).mono ?_⟩
  intro e w1 he
  cases e with
  | returned v =>
    obtain ⟨g1, ext, rel1, hv⟩ := he
    exact hK v g1 w1 ext rel1 hv
  | panicked c => exact he.elim
  | outgrown => exact he.elim

theorem valIn_round {P : Program} {o : Oper} {a : Act} {g : Gh} {w : World} {r : AV} {s' : St} {l f : Nat} {tmps : Array Value} {assign body : Code} (h : (execOp a.eval o).run P w = .ok (.round l f tmps assign body) w)
    (hc : RoundIn Fence.wide 0 P l f tmps assign body w (Ret g w r s')) : ValIn P o a g w r s' := fun ro K Q hK => by
  have hs : o.semAt ro a.eval = execOp a.eval o := semAt_of_next h (fun d hd => by cases hd) ro
  refine ⟨fun _ _ => trivial, ?_⟩
  show o.uponIn _ _ _ _ _ _ ((o.semAt ro a.eval).run P w)
  rw [hs, h]
  refine ⟨(fun h => by cases h), (roundIn_FW hc).mono ?_⟩
  intro e w1 he
  cases e with
  | returned v =>
    obtain ⟨g1, ext, rel1, hv⟩ := he
    exact hK v g1 w1 ext rel1 hv
  | panicked c => exact he.elim
  | outgrown => exact he.elim

structure Rec where
  call : FuncId → List AV → St → Option (AV × St)
  round : Nat → List AV → St → Option (AV × St)

/-- A call that leaves the memory as it was, as an operation. -/
def cOp (E : Env) (R : Rec) (ev : Operand → Option AV) (o : Oper) : Option AV :=
  match o.op with
  | .call c => match resolveA E.P ev c with
    | some (.func (.func k) _ _, args) => callC E R.call k args
    | _ => none
  | _ => none

/-- Whatever call. -/
def iOp (E : Env) (R : Rec) (ev : Operand → Option AV) (s : St) (o : Oper) : Option (AV × St) :=
  match o.op with
  | .call c => match resolveA E.P ev c with
    | some (.func (.func k) _ _, args) => callF E R.call k args s
    | some (.yield l, args) => R.round l args s
    | _ => none
  | _ => none

structure RecOk (E : Env) (R : Rec) : Prop where
  call : CallOk E.P E.G R.call
  round : RoundOk E.P E.G R.round

theorem tOp_valIn {E : Env} {o : Oper} {a : Act} {g : Gh} {s : St} {w : World} {r : AV} {ev : Operand → Option AV} (h : tOp E.P ev o = some r) (rel : Rel g s w) (hev : EvOk g w ev a.eval) : ValIn E.P o a g w r s := by
  obtain ⟨v, h1, h2⟩ := tOp_sound h hev
  exact valIn_next (h1 w) (.inl rfl) (Ext.refl g w) rel h2
theorem rOp_valIn {E : Env} {o : Oper} {a : Act} {g : Gh} {s : St} {w : World} {r : AV} {ev : Operand → Option AV} (h : rOp E.P ev s o = some r) (rel : Rel g s w) (hev : EvOk g w ev a.eval) : ValIn E.P o a g w r s := by
  obtain ⟨v, h1, h2⟩ := rOp_sound h rel hev
  exact valIn_next h1 (.inl rfl) (Ext.refl g w) rel h2
theorem eOp_valIn {E : Env} {o : Oper} {a : Act} {g : Gh} {s s' : St} {w : World} {i : Nat} {r : AV} {ev : Operand → Option AV} (h : eOp E.P ev i s o = some (r, s')) (rel : Rel g s w) (hev : EvOk g w ev a.eval) : ValIn E.P o a g w r s' := by
  obtain ⟨x, v, w', g', h1, h2, h3, h4, h5⟩ := eOp_sound h rel hev
  exact valIn_next h1 h2 h3 h4 h5
theorem cOp_valIn {E : Env} (hE : EnvOk E) {R : Rec} (hR : RecOk E R) {o : Oper} {a : Act} {g : Gh} {s : St} {w : World} {r : AV} {ev : Operand → Option AV} (h : cOp E R ev o = some r) (rel : Rel g s w) (glob : GlobOk E.G g w) (hev : EvOk g w ev a.eval) : ValIn E.P o a g w r s := by
  unfold cOp at h
  split at h
  · rename_i c ho
    split at h
    · rename_i k x y args hres
      rcases resolve_sound hE.names ho hres hev with ⟨k', vs, e, hargs, hrun⟩ | ⟨l, vs, e, _⟩
      · cases e
        exact valIn_call hrun (callC_sound hE hR.call h g w s vs rel glob (shutArgs_rep hargs))
      · cases e
    · cases h
  · cases h
theorem iOp_valIn {E : Env} (hE : EnvOk E) {R : Rec} (hR : RecOk E R) {o : Oper} {a : Act} {g : Gh} {s s' : St} {w : World} {r : AV} {ev : Operand → Option AV} (h : iOp E R ev s o = some (r, s')) (rel : Rel g s w) (glob : GlobOk E.G g w) (hev : EvOk g w ev a.eval) : ValIn E.P o a g w r s' := by
  unfold iOp at h
  split at h
  · rename_i c ho
    split at h
    · rename_i k x y args hres
      rcases resolve_sound hE.names ho hres hev with ⟨k', vs, e, hargs, hrun⟩ | ⟨l, vs, e, _⟩
      · cases e
        exact valIn_call hrun (callF_sound hE hR.call h rel glob hargs)
      · cases e
    · rename_i l args hres
      rcases resolve_sound hE.names ho hres hev with ⟨k', vs, e, hargs, hrun⟩ | ⟨l', vs, e, hu, hargs, hrun⟩
      · cases e
      · cases e
        obtain ⟨f, tmps, assign, body, h1, h2⟩ := hR.round l args s r s' h g w vs rel glob hargs hu
        exact valIn_round (by rw [hrun]; exact h1) h2
    · cases h
  · cases h

/-- The classes of operations. -/
inductive Cl where
  | T | Lc | Lm | C | E
def cls (o : Oper) : Cl :=
  match o.op with
  | .load _ _ => .Lc
  | .lookup _ _ _ _ => .Lm
  | .alloc _ => .E
  | .box _ _ => .E
  | .buildSlice _ _ _ => .E
  | .store _ _ _ => .E
  | .makeMap _ _ => .E
  | .makeSlice _ _ _ => .E
  | .mapUpdate _ _ _ _ => .E
  | .insert _ _ _ _ => .E
  | .call c => match c.callee with
    | .builtin b => match b with
      | .len => .T
      | _ => .E
    | _ => .C
  | _ => .T

/-- It leaves the memory as it was. -/
def keepS (r : Option AV) (s : St) : Option (AV × St) :=
  match r with
  | some r => some (r, s)
  | none => none

/-- The value of an operation, by its class (cm: calls leave the memory as it was). -/
def valD (cm : Oper → Bool) (E : Env) (R : Rec) (ev : Operand → Option AV) (i : Nat) (s : St) (o : Oper) : Option (AV × St) :=
  match cls o with
  | .T => keepS (tOp E.P ev o) s
  | .Lc => keepS (rOp E.P ev s o) s
  | .Lm => keepS (rOp E.P ev s o) s
  | .C => if cm o then keepS (cOp E R ev o) s else iOp E R ev s o
  | .E => eOp E.P ev i s o

theorem keepS_some {r : Option AV} {s s' : St} {x : AV} (h : keepS r s = some (x, s')) : r = some x ∧ s' = s := by
  unfold keepS at h
  split at h
  · cases h; exact ⟨rfl, rfl⟩
  · cases h

theorem valD_valIn {cm : Oper → Bool} {E : Env} (hE : EnvOk E) {R : Rec} (hR : RecOk E R) {o : Oper} {a : Act} {g : Gh} {s s' : St} {w : World} {i : Nat} {r : AV} {ev : Operand → Option AV} (h : valD cm E R ev i s o = some (r, s')) (rel : Rel g s w) (glob : GlobOk E.G g w) (hev : EvOk g w ev a.eval) :
    ValIn E.P o a g w r s' := by
  unfold valD at h
  split at h
  · obtain ⟨h1, rfl⟩ := keepS_some h; exact tOp_valIn h1 rel hev
  · obtain ⟨h1, rfl⟩ := keepS_some h; exact rOp_valIn h1 rel hev
  · obtain ⟨h1, rfl⟩ := keepS_some h; exact rOp_valIn h1 rel hev
  · split at h
    · obtain ⟨h1, rfl⟩ := keepS_some h; exact cOp_valIn hE hR h1 rel glob hev
    · exact iOp_valIn hE hR h rel glob hev
  · exact eOp_valIn h rel hev

/-! ### Is it wanted? -/
def wantedA (ops : List Oper) (A : AAct) (o : Oper) : Option Bool :=
  match o.guard with
  | none => some true
  | some (j, b) => match ops[j]? with
    | some oj => match oj.dst with
      | some d => if Nat.blt d A.n then
          match A.tm.get d with
          | .val v => match v with
            | .bool x => some (x == b)
            | _ => some false
          | _ => none
        else none
      | none => none
    | none => none

theorem wanted_sound {ops : Array Oper} {g : Gh} {w : World} {A : AAct} {a : Act} {o : Oper} {b : Bool} (h : wantedA ops.toList A o = some b) (hA : ActOk g w A a) : Region.wanted o (yielded ops a.tmps) = b := by
  unfold wantedA at h
  unfold Region.wanted
  split at h
  · rename_i hg
    rw [hg]
    simpa using h
  · rename_i j b' hg
    rw [hg]
    simp only
    split at h
    · rename_i oj hj
      have hj' : ops[j]? = some oj := by simpa using hj
      split at h
      · rename_i d hd
        split at h
        · rename_i hlt
          have hlt := blt_lt hlt
          have hs : d < a.tmps.size := by rw [hA.tm.1]; exact hlt
          have hrep := hA.tm.2 d a.tmps[d] (by simp [hs])
          split at h
          · rename_i v hv
            rw [hv] at hrep
            simp only [Rep] at hrep
            have hat : a.tmps[d]? = some v := by simp [hs, hrep]
            cases v with
            | bool x =>
              simp only [Option.some.injEq] at h
              subst h
              have hy : yielded ops a.tmps j = some x := by
                unfold yielded
                rw [hj']
                simp only [Option.bind_some, hd, hat]
              rw [hy]
              cases x <;> cases b' <;> rfl
            | _ =>
              simp only [Option.some.injEq] at h
              subst h
              have hy : yielded ops a.tmps j = none := by
                unfold yielded
                rw [hj']
                simp only [Option.bind_some, hd, hat]
              rw [hy]
              rfl
          · cases h
        · cases h
      · cases h
    · cases h

def OpK (g : Gh) (w : World) (A' : AAct) (s' : St) (K : Act → World → Prop) : Prop := ∀ g' w' a', Ext g w g' w' → Rel g' s' w' → ActOk g' w' A' a' → K a' w'

theorem resolve_defer {P : Program} {g : Gh} {w : World} {ev : Operand → Option AV} {ρ : Operand → Value} {c : Call} {k : FuncId} {x y args : List AV} (h : resolveA P ev c = some (.func (.func k) x y, args)) (hev : EvOk g w ev ρ) (hv : ∃ f, c.callee = .value f) (t : TypeId) :
    ∃ as cap vs, (resolve ρ c t).run P w = .ok { target := .fn (.func k) cap, args := as } w ∧ as ++ cap = vs.toArray ∧ RepAll g w args vs := by
  obtain ⟨f, hc⟩ := hv
  unfold resolveA at h
  split at h
  · rename_i as has
    have hargs := evList_rep hev has
    have harr : c.args.map ρ = (c.args.toList.map ρ).toArray := by apply Array.ext'; simp
    rw [hc] at h
    simp only at h
    split at h
    · rename_i k' first cap hf
      split at h
      · cases h
        have hr := hev _ _ hf
        simp only [Rep] at hr
        obtain ⟨fs, cs, h1, h2, h3⟩ := hr
        refine ⟨fs.toArray ++ (c.args.toList.map ρ).toArray, cs.toArray, fs ++ c.args.toList.map ρ ++ cs, ?_, by apply Array.ext'; simp, (h2.append hargs).append h3⟩
        simp only [resolve, hc, harr, h1, Deferred.ofValue, Sem.run_pure]
      · cases h
    · cases h
    · cases h
  · cases h

/-- A new value for an operation's temporary. -/
def putR (A : AAct) (d : Option Tmp) (p : Option (AV × St)) : Option (AAct × St) :=
  match p with
  | some (r, s) => match A.put d r with
    | some A' => some (A', s)
    | none => none
  | none => none

/-- One operation of a region: never a defer. -/
def stepD (cm : Oper → Bool) (E : Env) (R : Rec) (ops : List Oper) (i : Nat) (o : Oper) (A : AAct) (s : St) : Option (AAct × St) :=
  match wantedA ops A o with
  | some true => putR A o.dst (valD cm E R (evA E.G A) i s o)
  | some false => putR A o.dst (some (.val undef, s))
  | none => none

/-- What is asked of an operation of a region. -/
def OpIn (P : Program) (ro : Option Nat) (ops : Array Oper) (o : Oper) (a : Act) (w : World) (K : Act → World → Prop) (Q : Exit → Act → World → Prop) : Prop :=
  if Region.wanted o (yielded ops a.tmps) then o.wpIn (FW ro) 0 P a w K Q else (∀ f, o.about P w a.eval = some f → (FW ro).fn f) ∧ K (a.put o.dst undef) w

theorem stepD_sound {cm : Oper → Bool} {E : Env} (hE : EnvOk E) {R : Rec} (hR : RecOk E R) {ops : Array Oper} {o : Oper} {a : Act} {A A' : AAct} {g : Gh} {s s' : St} {w : World} {i : Nat} (h : stepD cm E R ops.toList i o A s = some (A', s')) (rel : Rel g s w) (glob : GlobOk E.G g w) (hA : ActOk g w A a)
    {ro : Option Nat} {K : Act → World → Prop} {Q : Exit → Act → World → Prop} (hK : OpK g w A' s' K) : OpIn E.P ro ops o a w K Q := by
  unfold stepD at h
  unfold OpIn
  split at h
  · rename_i hw
    rw [wanted_sound hw hA]
    simp only [if_true]
    unfold putR at h
    split at h
    · rename_i r s1 hv
      split at h
      · rename_i A1 hp
        cases h
        refine valD_valIn hE hR hv rel glob (evA_ok glob hA) ro K Q (fun v g' w' ext rel' hr => ?_)
        exact hK g' w' _ ext rel' ((hA.ext ext).put hp hr)
      · cases h
    · cases h
  · rename_i hw
    rw [wanted_sound hw hA]
    simp only [Bool.false_eq_true, if_false]
    simp only [putR] at h
    split at h
    · rename_i A1 hp
      cases h
      exact ⟨fun _ _ => trivial, hK g w _ (Ext.refl g w) rel (hA.put hp (by simp [Rep]))⟩
    · cases h
  · cases h

/-- One operation of a region without a draw. -/
def stepF (E : Env) (R : Rec) (rd : Bool) (ops : List Oper) (i : Nat) (o : Oper) (A : AAct) (s : St) : Option (AAct × St) :=
  match o.op with
  | .defer c => if rd then none else
      match wantedA ops A o with
      | some true => match c.callee with
        | .value _ => match resolveA E.P (evA E.G A) c with
          | some (.func (.func k) _ _, args) => putR { A with df := .call k args :: A.df } o.dst (some (.val undef, s))
          | _ => none
        | _ => none
      | _ => none
  | _ => stepD (fun _ => false) E R ops i o A s

theorem stepF_sound {E : Env} (hE : EnvOk E) {R : Rec} (hR : RecOk E R) {rd : Bool} {ops : Array Oper} {o : Oper} {a : Act} {A A' : AAct} {g : Gh} {s s' : St} {w : World} {i : Nat} (h : stepF E R rd ops.toList i o A s = some (A', s')) (rel : Rel g s w) (glob : GlobOk E.G g w) (hA : ActOk g w A a)
    {ro : Option Nat} (hro : rd = false → ro = none) {K : Act → World → Prop} {Q : Exit → Act → World → Prop} (hK : OpK g w A' s' K) : OpIn E.P ro ops o a w K Q := by
  unfold stepF at h
  split at h
  · rename_i c ho
    split at h
    · cases h
    · rename_i hrd
      have hro := hro (by simpa using hrd)
      subst hro
      split at h
      · rename_i hw
        unfold OpIn
        rw [wanted_sound hw hA]
        simp only [if_true]
        split at h
        · rename_i f hc
          split at h
          · rename_i k x y args hres
            obtain ⟨as, cap, vs, hrun, he, hargs⟩ := resolve_defer (w := w) hres (evA_ok glob hA) ⟨f, hc⟩ o.type
            simp only [putR] at h
            split at h
            · rename_i A1 hp
              cases h
              refine ⟨fun _ _ => trivial, ?_⟩
              show o.uponIn _ _ _ _ _ _ ((o.semAt none a.eval).run E.P w)
              rw [Oper.semAt_none]
              have : (execOp a.eval o).run E.P w = .ok (.defer { target := .fn (.func k) cap, args := as }) w := by
                simp [execOp, ho, hrun]
              rw [this]
              have hA2 : ActOk g w { A with df := .call k args :: A.df } { a with defers := { target := .fn (.func k) cap, args := as } :: a.defers } :=
                ⟨hA.tm, hA.most, by simp only [DfOk]; exact ⟨cap, as, vs, a.defers, rfl, he, hargs, hA.df⟩⟩
              exact hK g w _ (Ext.refl g w) rel (hA2.put hp (by simp [Rep]))
            · cases h
          · cases h
        · cases h
      · cases h
  · exact stepD_sound hE hR h rel glob hA hK

/-! ### A region without a draw -/
def evOps (E : Env) (R : Rec) (rd : Bool) (ops : List Oper) : Nat → List Oper → AAct → St → Option (AAct × St)
  | _, [], A, s => some (A, s)
  | i, o :: r, A, s => match stepF E R rd ops i o A s with
    | some (A', s') => evOps E R rd ops (i + 1) r A' s'
    | none => none

theorem evOps_sound {E : Env} (hE : EnvOk E) {R : Rec} (hR : RecOk E R) {rd : Bool} {ops : Array Oper} {ro : Option Nat} (hro : rd = false → ro = none) {Q : Exit → Act → World → Prop} :
    ∀ (m i k : Nat) (l : List Oper) (a : Act) (A A' : AAct) (g : Gh) (s s' : St) (w : World), l = ops.toList.drop k → l.length = m → evOps E R rd ops.toList i l A s = some (A', s') → Rel g s w → GlobOk E.G g w → ActOk g w A a →
      OpK g w A' s' (Q .normal) → wpOpsIn (FW ro) 0 E.P ops Q (List.range' k m) a w
  | 0, i, k, l, a, A, A', g, s, s', w, hl, hm, h, rel, glob, hA, hK => by
    have : l = [] := List.eq_nil_of_length_eq_zero hm
    subst this
    cases h
    exact hK g w a (Ext.refl g w) rel hA
  | m + 1, i, k, l, a, A, A', g, s, s', w, hl, hm, h, rel, glob, hA, hK => by
    cases l with
    | nil => cases hm
    | cons o r =>
      have ho : ops[k]? = some o := by
        have h0 : (ops.toList.drop k)[0]? = some o := by rw [← hl]; rfl
        rw [List.getElem?_drop] at h0
        simpa using h0
      have hr : r = ops.toList.drop (k + 1) := by
        have : (ops.toList.drop k).tail = r := by rw [← hl]; rfl
        rw [← this]; simp
      simp only [evOps] at h
      split at h
      · rename_i A1 s1 h1
        rw [List.range'_succ, wpOpsIn_cons]
        unfold wpOpIn
        rw [ho]
        refine stepF_sound hE hR h1 rel glob hA hro (fun g' w' a' ext rel' hA' => ?_)
        refine evOps_sound hE hR hro m (i + 1) (k + 1) r a' A1 A' g' s1 s' w' hr (by simpa using hm) h rel' (glob.ext ext) hA' (fun g2 w2 a2 e2 r2 h2 => hK g2 w2 a2 (ext.trans e2) r2 h2)
      · cases h

theorem region_sound {E : Env} (hE : EnvOk E) {R : Rec} (hR : RecOk E R) {rd : Bool} {id : Nat} {ops : Array Oper} {ro : Option Nat} (hro : rd = false → ro = none) {Q : Exit → Act → World → Prop} {i : Nat} {a : Act} {A A' : AAct} {g : Gh} {s s' : St} {w : World}
    (h : evOps E R rd ops.toList i ops.toList A s = some (A', s')) (rel : Rel g s w) (glob : GlobOk E.G g w) (hA : ActOk g w A a) (hK : OpK g w A' s' (Q .normal)) : (Code.region id ops false).wpIn (FW ro) 0 E.P Q a w := by
  refine wpIn_region ?_
  rw [List.range_eq_range']
  exact evOps_sound hE hR hro ops.size i 0 ops.toList a A A' g s s' w rfl (by simp) h rel glob hA hK

end Go.Am

set_option linter.unusedVariables false
set_option linter.unusedSimpArgs false
/-!
  THE ABSTRACT MACHINE, part Q: what an operation looks at; what it leaves alone.
-/
namespace Go.Am
open Go Go.RowKit

theorem evList_congr {ev ev' : Operand → Option AV} : ∀ {l : List Operand}, (∀ x ∈ l, ev x = ev' x) → evList ev l = evList ev' l
  | [], _ => rfl
  | x :: r, h => by
    simp only [evList]
    rw [h x (List.mem_cons_self ..), evList_congr (fun y hy => h y (List.mem_cons_of_mem _ hy))]
theorem evParts_congr {ev ev' : Operand → Option AV} : ∀ {l : List (Nat × Operand)}, (∀ x ∈ l.map (·.2), ev x = ev' x) → evParts ev l = evParts ev' l
  | [], _ => rfl
  | (i, x) :: r, h => by
    simp only [evParts]
    rw [h x (by simp), evParts_congr (fun y hy => h y (by simp only [List.map_cons]; exact List.mem_cons_of_mem _ hy))]
theorem evOpt_congr {ev ev' : Operand → Option AV} {x : Option Operand} (h : ∀ y ∈ x, ev y = ev' y) : evOpt ev x = evOpt ev' x := by
  cases x with
  | none => rfl
  | some y => simp only [evOpt]; rw [h y (by simp)]

theorem tOp_congr {P : Program} {ev ev' : Operand → Option AV} {o : Oper} (h : ∀ x ∈ o.op.operands, ev x = ev' x) : tOp P ev o = tOp P ev' o := by
  unfold tOp
  cases ho : o.op <;> rw [ho] at h <;> simp only [Op.operands] at h <;> try rfl
  case move x => exact h x (by simp)
  case assign x => exact h x (by simp)
  case pick c x y => simp only [h c (by simp), h x (by simp), h y (by simp)]
  case nilCheck x => simp only [h x (by simp)]
  case binOp op t x y yt => simp only [h x (by simp), h y (by simp)]
  case unOp op t x => simp only [h x (by simp)]
  case convert a b x => simp only [h x (by simp)]
  case makeInterface t x => simp only [h x (by simp)]
  case makeFunc fn f c =>
    dsimp only
    rw [evList_congr (fun x hx => h x (by simp at hx ⊢; exact .inl hx)), evList_congr (l := c.toList) (fun x hx => h x (by simp at hx ⊢; exact .inr hx))]
  case slice t x lo hi mx =>
    simp only [h x (by simp)]
    rw [evOpt_congr (x := lo) (fun y hy => h y (by simp at hy; subst hy; simp)), evOpt_congr (x := hi) (fun y hy => h y (by simp at hy; subst hy; simp)), evOpt_congr (x := mx) (fun y hy => h y (by simp at hy; subst hy; simp))]
  case fieldAddr t x i => simp only [h x (by simp)]
  case field t x i => simp only [h x (by simp)]
  case indexAddr t x i => simp only [h x (by simp), h i (by simp)]
  case index t x i => simp only [h x (by simp), h i (by simp)]
  case extract x i => simp only [h x (by simp)]
  case build t ps =>
    dsimp only
    rw [evParts_congr (fun x hx => h x (by simpa using hx))]
  case call c =>
    dsimp only
    split
    · rename_i hc
      split
      · rename_i x t hx ht
        have hx := arr_eq hx
        have e := h x (by simp [Call.operands, hc, hx])
        simp only [e]
      · rfl
    · rfl

theorem rOp_congr {P : Program} {ev ev' : Operand → Option AV} {s : St} {o : Oper} (h : ∀ x ∈ o.op.operands, ev x = ev' x) : rOp P ev s o = rOp P ev' s o := by
  unfold rOp
  cases ho : o.op <;> rw [ho] at h <;> simp only [Op.operands] at h <;> try rfl
  case load t x => simp only [h x (by simp)]
  case lookup t x k ok => simp only [h x (by simp), h k (by simp)]

theorem eOp_congr {P : Program} {ev ev' : Operand → Option AV} {i : Nat} {s : St} {o : Oper} (h : ∀ x ∈ o.op.operands, ev x = ev' x) : eOp P ev i s o = eOp P ev' i s o := by
  unfold eOp
  cases ho : o.op <;> rw [ho] at h <;> simp only [Op.operands] at h <;> try rfl
  case box t x => simp only [h x (by simp)]
  case buildSlice t len ps =>
    dsimp only
    rw [evParts_congr (fun x hx => h x (by simpa using hx))]
  case store t x y => simp only [h x (by simp), h y (by simp)]
  case makeMap t r =>
    dsimp only
    rw [evOpt_congr (fun y hy => h y (by simp at hy; subst hy; simp))]
  case makeSlice t l c => simp only [h l (by simp), h c (by simp)]
  case mapUpdate t m k x => simp only [h m (by simp), h k (by simp), h x (by simp)]
  case insert t m k x => simp only [h m (by simp), h k (by simp), h x (by simp)]
  case call c =>
    dsimp only
    split
    · rename_i hc
      split
      · rename_i x y hxy
        have hxy := arr_eq hxy
        have e1 := h x (by simp [Call.operands, hc, hxy])
        have e2 := h y (by simp [Call.operands, hc, hxy])
        simp only [e1, e2]
      · rfl
    · rfl

theorem resolveA_congr {P : Program} {ev ev' : Operand → Option AV} {c : Call} (h : ∀ x ∈ c.operands, ev x = ev' x) : resolveA P ev c = resolveA P ev' c := by
  unfold resolveA
  rw [evList_congr (l := c.args.toList) (fun x hx => h x (by
    unfold Call.operands
    simp at hx ⊢
    exact .inr hx))]
  split
  · split
    · rename_i f hc
      rw [h f (by simp [Call.operands, hc])]
    · rename_i x name hc
      rw [h x (by simp [Call.operands, hc])]
    · rfl
  · rfl

theorem cOp_congr {E : Env} {R : Rec} {ev ev' : Operand → Option AV} {o : Oper} (h : ∀ x ∈ o.op.operands, ev x = ev' x) : cOp E R ev o = cOp E R ev' o := by
  unfold cOp
  cases ho : o.op <;> rw [ho] at h <;> simp only [Op.operands] at h <;> try rfl
  case call c => simp only [resolveA_congr h]
theorem iOp_congr {E : Env} {R : Rec} {ev ev' : Operand → Option AV} {s : St} {o : Oper} (h : ∀ x ∈ o.op.operands, ev x = ev' x) : iOp E R ev s o = iOp E R ev' s o := by
  unfold iOp
  cases ho : o.op <;> rw [ho] at h <;> simp only [Op.operands] at h <;> try rfl
  case call c => simp only [resolveA_congr h]

theorem valD_congr {cm : Oper → Bool} {E : Env} {R : Rec} {ev ev' : Operand → Option AV} {i : Nat} {s : St} {o : Oper} (h : ∀ x ∈ o.op.operands, ev x = ev' x) : valD cm E R ev i s o = valD cm E R ev' i s o := by
  unfold valD
  rw [tOp_congr h, rOp_congr h, eOp_congr h, cOp_congr h, iOp_congr h]

/-! ### What an operation leaves alone -/
def KeepC (s s' : St) : Prop := ∀ k cs t, s.get k = some (.cells cs t) → s'.get k = some (.cells cs t)
def KeepM (s s' : St) : Prop := ∀ k kk es, s.get k = some (.map kk es) → s'.get k = some (.map kk es)

theorem add_keep {s : St} {i : Nat} {o : AObj} (h : s.get i = none) (k : Nat) (x : AObj) (hk : s.get k = some x) : (s.add i o).get k = some x := by
  have e : (s.add i o).get k = if k = i then some o else s.get k := lookL_insL i o s.objs k
  rw [e]
  split
  · rename_i e; subst e; rw [h] at hk; cases hk
  · exact hk
theorem put_keep {s : St} {i : Nat} {o o' : AObj} (h : s.get i = some o') (k : Nat) (x : AObj) (hk : s.get k = some x) (hne : x ≠ o') : (s.put i o).get k = some x := by
  have e : (s.put i o).get k = if k = i then some o else s.get k := lookL_putL h k
  rw [e]
  split
  · rename_i e; subst e; rw [h] at hk; cases hk; exact absurd rfl hne
  · exact hk

theorem newA_keep {s s' : St} {i : Nat} {t : TypeId} {cs : List AV} {r : AV} (h : newA s i t cs = some (r, s')) (k : Nat) (x : AObj) (hk : s.get k = some x) : s'.get k = some x := by
  unfold newA at h
  split at h
  · rename_i hn; cases h; exact add_keep (isNone_of hn) k x hk
  · cases h

theorem appendA_get {P : Program} {s s' : St} {i : Nat} {ts : List TypeId} {x y r : AV} (h : appendA P s i ts x y = some (r, s')) (k : Nat) : s'.get k = s.get k := by
  unfold appendA at h
  repeat' split at h
  all_goals first
    | (cases h; rfl)
    | cases h

/-- It adds objects at most. -/
def addsB (o : Op) : Bool :=
  match o with
  | .store _ _ _ => false
  | .mapUpdate _ _ _ _ => false
  | .insert _ _ _ _ => false
  | _ => true

theorem eOp_adds {P : Program} {ev : Operand → Option AV} {i : Nat} {s s' : St} {o : Oper} {r : AV} (hb : addsB o.op = true) (h : eOp P ev i s o = some (r, s')) (k : Nat) (x : AObj) (hk : s.get k = some x) : s'.get k = some x := by
  unfold eOp at h
  split at h
  · rename_i t ho
    unfold allocA at h
    split at h
    · exact newA_keep h k x hk
    · cases h
  · split at h
    · exact newA_keep h k x hk
    · cases h
  · split at h
    · split at h
      · cases h; exact hk
      · cases h
    · cases h
  · rename_i ho; rw [ho] at hb; cases hb
  · split at h
    · unfold makeMapA at h
      split at h
      · cases h
      · split at h
        · split at h
          · split at h
            · rename_i hn; cases h; exact add_keep (isNone_of hn) k x hk
            · cases h
          · cases h
        · cases h
    · cases h
  · split at h
    · unfold makeSliceA at h
      repeat' split at h
      all_goals first
        | (cases h; done)
        | (rename_i hnew; cases h; exact newA_keep hnew k x hk)
    · cases h
  · rename_i ho; rw [ho] at hb; cases hb
  · rename_i ho; rw [ho] at hb; cases hb
  · split at h
    · split at h
      · split at h
        · rw [appendA_get h k]; exact hk
        · cases h
      · cases h
    · cases h
  · cases h

/-- It leaves the rows of cells alone. -/
def keepCB (o : Op) : Bool :=
  match o with
  | .store _ _ _ => false
  | _ => true
/-- It leaves the maps alone. -/
def keepMB (o : Op) : Bool :=
  match o with
  | .mapUpdate _ _ _ _ => false
  | .insert _ _ _ _ => false
  | _ => true

theorem mapUpdateA_keepC {P : Program} {s s' : St} {t : TypeId} {m ix x : AV} (h : mapUpdateA P s t m ix x = some s') : KeepC s s' := by
  unfold mapUpdateA at h
  repeat' split at h
  all_goals first
    | (cases h; done)
    | (rename_i hget _; cases h; exact fun k cs t hk => put_keep hget k _ hk (by intro e; cases e))
theorem storeA_keepM {P : Program} {s s' : St} {t : TypeId} {a x : AV} (h : storeA P s t a x = some s') : KeepM s s' := by
  unfold storeA at h
  repeat' split at h
  all_goals first
    | (cases h; done)
    | (rename_i hget _ _ _ _ _ _; cases h; exact fun k cs t hk => put_keep hget k _ hk (by intro e; cases e))

theorem withS_some {q : Option St} {r : AV} {s' : St} (h : withS q = some (r, s')) : q = some s' := by
  cases q with
  | none => cases h
  | some s => cases h; rfl

theorem eOp_keepC {P : Program} {ev : Operand → Option AV} {i : Nat} {s s' : St} {o : Oper} {r : AV} (hb : keepCB o.op = true) (h : eOp P ev i s o = some (r, s')) : KeepC s s' := by
  by_cases ha : addsB o.op = true
  · exact fun k cs t hk => eOp_adds ha h k _ hk
  · unfold eOp at h
    cases ho : o.op <;> rw [ho] at h hb ha <;> simp only [addsB, keepCB, not_true_eq_false] at hb ha h
    case store => cases hb
    case mapUpdate t m k x =>
      split at h
      · exact mapUpdateA_keepC (withS_some h)
      · cases h
    case insert t m k x =>
      split at h
      · exact mapUpdateA_keepC (withS_some h)
      · cases h
theorem eOp_keepM {P : Program} {ev : Operand → Option AV} {i : Nat} {s s' : St} {o : Oper} {r : AV} (hb : keepMB o.op = true) (h : eOp P ev i s o = some (r, s')) : KeepM s s' := by
  by_cases ha : addsB o.op = true
  · exact fun k cs t hk => eOp_adds ha h k _ hk
  · unfold eOp at h
    cases ho : o.op <;> rw [ho] at h hb ha <;> simp only [addsB, keepMB, not_true_eq_false] at hb ha h
    case mapUpdate => cases hb
    case insert => cases hb
    case store t x y =>
      split at h
      · exact storeA_keepM (withS_some h)
      · cases h

theorem loadA_keep {P : Program} {s s' : St} {t : TypeId} {x r : AV} (hk : KeepC s s') (h : loadA P s t x = some r) : loadA P s' t x = some r := by
  unfold loadA at h ⊢
  split at h
  · split at h
    · rename_i hget
      simp only [hk _ _ _ hget]
      exact h
    · cases h
  · exact h
  · cases h
theorem lookupA_keep {P : Program} {s s' : St} {t : TypeId} {x ix r : AV} {ok : Bool} (hk : KeepM s s') (h : lookupA P s t x ix ok = some r) : lookupA P s' t x ix ok = some r := by
  unfold lookupA at h ⊢
  split at h
  · rename_i h1
    try rw [h1]
    try simp only
    split at h
    · rename_i h2
      try rw [h2]
      try simp only
      split at h
      · rename_i h3
        try rw [h3]
        try simp only
        split at h
        · split at h
          · rename_i hget
            simp only [hk _ _ _ hget]
            exact h
          · cases h
        · exact h
        · cases h
      · cases h
    · cases h
  · cases h

/-- An operation whose value stays as long as its operands' values, and the cells or maps that it reads, stay. -/
def firstB (cm : Oper → Bool) (o : Oper) : Bool :=
  match cls o with
  | .T => true
  | .Lc => true
  | .Lm => true
  | .C => cm o
  | .E => false
/-- May the operation oj come ahead of oi and leave oi's value alone? -/
def letsB (cm : Oper → Bool) (oi oj : Oper) : Bool :=
  match cls oi with
  | .T => true
  | .C => true
  | .Lc => (match cls oj with
    | .C => cm oj
    | _ => keepCB oj.op)
  | .Lm => (match cls oj with
    | .C => cm oj
    | _ => keepMB oj.op)
  | .E => false

theorem valD_first {cm : Oper → Bool} {E : Env} {R : Rec} {ev : Operand → Option AV} {i : Nat} {s s1 : St} {o : Oper} {r : AV} (hf : firstB cm o = true) (h : valD cm E R ev i s o = some (r, s1)) : s1 = s := by
  unfold valD at h
  unfold firstB at hf
  split at h
  · exact (keepS_some h).2
  · exact (keepS_some h).2
  · exact (keepS_some h).2
  · rename_i hc
    rw [hc] at hf
    simp only at hf
    rw [hf] at h
    exact (keepS_some h).2
  · rename_i hc
    rw [hc] at hf
    cases hf

theorem keepS_of {r : AV} {s : St} : keepS (some r) s = some (r, s) := rfl

/-- The operation oj has come ahead: oi's value is what it was. -/
theorem valD_stays {cm : Oper → Bool} {E : Env} {R : Rec} {evi evj : Operand → Option AV} {i j : Nat} {s sj : St} {oi oj : Oper} {r rj : AV} (hf : firstB cm oi = true) (hl : letsB cm oi oj = true) (h : valD cm E R evi i s oi = some (r, s)) (hj : valD cm E R evj j s oj = some (rj, sj)) :
    valD cm E R evi i sj oi = some (r, sj) := by
  unfold valD at h ⊢
  unfold firstB at hf
  unfold letsB at hl
  split at h
  · obtain ⟨h1, _⟩ := keepS_some h; simp only [h1]; rfl
  · rename_i hc
    obtain ⟨h1, _⟩ := keepS_some h
    rw [hc] at hl
    simp only at hl ⊢
    have hk : KeepC s sj := by
      unfold valD at hj
      split at hj
      · obtain ⟨_, rfl⟩ := keepS_some hj; exact fun _ _ _ h => h
      · obtain ⟨_, rfl⟩ := keepS_some hj; exact fun _ _ _ h => h
      · obtain ⟨_, rfl⟩ := keepS_some hj; exact fun _ _ _ h => h
      · rename_i hcj
        rw [hcj] at hl
        simp only at hl
        rw [hl] at hj
        obtain ⟨_, rfl⟩ := keepS_some hj; exact fun _ _ _ h => h
      · rename_i hcj
        rw [hcj] at hl
        exact eOp_keepC hl hj
    have : rOp E.P evi sj oi = some r := by
      unfold rOp at h1 ⊢
      unfold cls at hc
      cases ho : oi.op <;> rw [ho] at hc h1 <;> simp only at hc h1 <;> try (cases hc; done)
      case load t x =>
        simp only
        split at h1
        · exact loadA_keep hk h1
        · cases h1
      case call c => split at hc <;> try (cases hc; done)
                     split at hc <;> cases hc
    rw [this]; rfl
  · rename_i hc
    obtain ⟨h1, _⟩ := keepS_some h
    rw [hc] at hl
    simp only at hl ⊢
    have hk : KeepM s sj := by
      unfold valD at hj
      split at hj
      · obtain ⟨_, rfl⟩ := keepS_some hj; exact fun _ _ _ h => h
      · obtain ⟨_, rfl⟩ := keepS_some hj; exact fun _ _ _ h => h
      · obtain ⟨_, rfl⟩ := keepS_some hj; exact fun _ _ _ h => h
      · rename_i hcj
        rw [hcj] at hl
        simp only at hl
        rw [hl] at hj
        obtain ⟨_, rfl⟩ := keepS_some hj; exact fun _ _ _ h => h
      · rename_i hcj
        rw [hcj] at hl
        exact eOp_keepM hl hj
    have : rOp E.P evi sj oi = some r := by
      unfold rOp at h1 ⊢
      unfold cls at hc
      cases ho : oi.op <;> rw [ho] at hc h1 <;> simp only at hc h1 <;> try (cases hc; done)
      case lookup t x k ok =>
        simp only
        split at h1
        · exact lookupA_keep hk h1
        · cases h1
      case call c => split at hc <;> try (cases hc; done)
                     split at hc <;> cases hc
    rw [this]; rfl
  · rename_i hc
    rw [hc] at hf
    simp only at hf
    rw [hf] at h ⊢
    obtain ⟨h1, _⟩ := keepS_some h
    simp only [if_true, h1]; rfl
  · rename_i hc
    rw [hc] at hf
    cases hf

end Go.Am

set_option linter.unusedVariables false
set_option linter.unusedSimpArgs false
/-!
  THE ABSTRACT MACHINE, part R: a region whose order is drawn.
-/
namespace Go.Am
open Go Go.RowKit

theorem put_n {A A1 : AAct} {d : Option Tmp} {r : AV} (h : A.put d r = some A1) : A1.n = A.n := by
  unfold AAct.put at h
  split at h
  · split at h
    · cases h; rfl
    · cases h
  · cases h; rfl

theorem evA_put {G : Nat → Option AV} {A A1 : AAct} {d : Option Tmp} {r : AV} {x : Operand} (hN : A.n ≤ 65536) (hp : A.put d r = some A1) (hx : ∀ t, x = .tmp t → d ≠ some t) : evA G A1 x = evA G A x := by
  cases x with
  | tmp t =>
    unfold AAct.put at hp
    split at hp
    · rename_i d
      split at hp
      · rename_i hlt
        have hlt := blt_lt hlt
        cases hp
        simp only [evA]
        split
        · rename_i ht
          have ht := blt_lt ht
          have hne : ¬ t = d := fun e => hx t rfl (by rw [e])
          rw [Tr.get_set (by omega) (by omega), if_neg hne]
        · rfl
      · cases hp
    · cases hp; rfl
  | const v => rfl
  | global i => rfl
  | func f => rfl

theorem wantedA_put {ops : List Oper} {A A1 : AAct} {d : Option Tmp} {r : AV} {o : Oper} (hN : A.n ≤ 65536) (hp : A.put d r = some A1) (h : ∀ j b oj t, o.guard = some (j, b) → ops[j]? = some oj → oj.dst = some t → d ≠ some t) : wantedA ops A1 o = wantedA ops A o := by
  unfold wantedA
  split
  · rfl
  · rename_i j b hg
    split
    · rename_i oj hj
      split
      · rename_i t ht
        have hne := h j b oj t hg hj ht
        rw [put_n hp]
        have he := evA_put (G := fun _ => none) (x := .tmp t) hN hp (fun t' e => by cases e; exact hne)
        simp only [evA, put_n hp] at he
        by_cases hlt : Nat.blt t A.n = true
        · simp only [hlt, if_true, Option.some.injEq] at he ⊢
          rw [he]
        · simp only [hlt, if_false, Bool.false_eq_true]
      · rfl
    · rfl

theorem put_comm {A A1 A2 : AAct} {d e : Option Tmp} {r q : AV} (hN : A.n ≤ 65536) (hp : A.put d r = some A1) (hq : A1.put e q = some A2) (hne : ∀ t, d = some t → e ≠ some t) : ∃ B, A.put e q = some B ∧ B.put d r = some A2 := by
  have hn := put_n hp
  unfold AAct.put at hp
  split at hp
  · rename_i d
    split at hp
    · rename_i hd
      cases hp
      unfold AAct.put at hq
      split at hq
      · rename_i e
        split at hq
        · rename_i he
          cases hq
          refine ⟨{ A with tm := A.tm.set e q }, by simp only [AAct.put]; rw [if_pos he], ?_⟩
          simp only [AAct.put]
          rw [if_pos hd]
          have hd := blt_lt hd
          have he := blt_lt he
          simp only at he
          rw [Tr.set_comm (t := A.tm) (n := d) (k := e) (by omega) (by omega) (fun e1 => hne d rfl (by rw [e1]))]
        · cases hq
      · cases hq
        exact ⟨A, rfl, by simp only [AAct.put]; rw [if_pos hd]⟩
    · cases hp
  · cases hp
    exact ⟨A2, hq, rfl⟩

theorem looksAt_operand {ops : Array Oper} {o : Oper} {t : Tmp} (h : (.tmp t : Operand) ∈ o.op.operands) : t ∈ o.looksAt ops := by
  unfold Oper.looksAt
  refine List.mem_append_left _ (List.mem_filterMap.2 ⟨.tmp t, by simpa using h, rfl⟩)
theorem looksAt_guard {ops : Array Oper} {o oj : Oper} {j : Nat} {b : Bool} {t : Tmp} (hg : o.guard = some (j, b)) (hj : ops.toList[j]? = some oj) (ht : oj.dst = some t) : t ∈ o.looksAt ops := by
  unfold Oper.looksAt
  refine List.mem_append_right _ ?_
  have hj' : ops[j]? = some oj := by simpa using hj
  rw [hg]
  simp [hj', ht]

theorem putR_some {A A1 : AAct} {d : Option Tmp} {p : Option (AV × St)} {s' : St} (h : putR A d p = some (A1, s')) : ∃ r, p = some (r, s') ∧ A.put d r = some A1 := by
  unfold putR at h
  split at h
  · rename_i r s1
    split at h
    · rename_i A' hp; cases h; exact ⟨r, rfl, hp⟩
    · cases h
  · cases h
theorem putR_of {A A1 : AAct} {d : Option Tmp} {r : AV} {s' : St} (h : A.put d r = some A1) : putR A d (some (r, s')) = some (A1, s') := by simp only [putR, h]

/-- An operation that changes temporaries alone goes first: the other one does not see it. -/
theorem step_comm {cm : Oper → Bool} {E : Env} {R : Rec} {ops : Array Oper} {i j : Nat} {oi oj : Oper} {A A1 A1j : AAct} {s sj : St} (hN : A.n ≤ 65536) (hf : firstB cm oi = true) (hl : letsB cm oi oj = true) (hap : oi.apart ops oj = true)
    (hi : stepD cm E R ops.toList i oi A s = some (A1, s)) (hj : stepD cm E R ops.toList j oj A1 s = some (A1j, sj)) :
    ∃ Aj, stepD cm E R ops.toList j oj A s = some (Aj, sj) ∧ stepD cm E R ops.toList i oi Aj sj = some (A1j, sj) ∧ Aj.n = A.n := by
  obtain ⟨h1, h2, h3⟩ := Oper.apart_spec hap
  -- what was put for oi
  have hput : ∃ ri, A.put oi.dst ri = some A1 ∧ ((wantedA ops.toList A oi = some true ∧ valD cm E R (evA E.G A) i s oi = some (ri, s)) ∨ (wantedA ops.toList A oi = some false ∧ ri = .val undef)) := by
    unfold stepD at hi
    split at hi
    · rename_i hw
      obtain ⟨r, hr, hp⟩ := putR_some hi
      exact ⟨r, hp, .inl ⟨hw, hr⟩⟩
    · rename_i hw
      obtain ⟨r, hr, hp⟩ := putR_some hi
      cases hr
      exact ⟨_, hp, .inr ⟨hw, rfl⟩⟩
    · cases hi
  obtain ⟨ri, hpi, hwi⟩ := hput
  have hn1 := put_n hpi
  have evj : ∀ x ∈ oj.op.operands, evA E.G A1 x = evA E.G A x := fun x hx => evA_put hN hpi (fun t e => fun hd => h1 t hd (looksAt_operand (by rw [← e]; exact hx)))
  have wj : wantedA ops.toList A1 oj = wantedA ops.toList A oj := wantedA_put hN hpi (fun k b ok t hg hk ht hd => h1 t hd (looksAt_guard hg hk ht))
  -- oj
  have back : ∀ {rj : AV} {Aj : AAct}, A.put oj.dst rj = some Aj → (valD cm E R (evA E.G A) i s oi = some (ri, s) → valD cm E R (evA E.G A) i sj oi = some (ri, sj)) → Aj.put oi.dst ri = some A1j → stepD cm E R ops.toList i oi Aj sj = some (A1j, sj) := by
    intro rj Aj hpj hv hpp
    have evi : ∀ x ∈ oi.op.operands, evA E.G Aj x = evA E.G A x := fun x hx => evA_put hN hpj (fun t e => fun hd => h3 t hd (looksAt_operand (by rw [← e]; exact hx)))
    have wi : wantedA ops.toList Aj oi = wantedA ops.toList A oi := wantedA_put hN hpj (fun k b ok t hg hk ht hd => h3 t hd (looksAt_guard hg hk ht))
    unfold stepD
    rw [wi]
    rcases hwi with ⟨hw, hvi⟩ | ⟨hw, rfl⟩
    · rw [hw]
      simp only
      rw [valD_congr evi, hv hvi]
      exact putR_of hpp
    · rw [hw]
      simp only
      exact putR_of hpp
  unfold stepD at hj
  rw [wj] at hj
  split at hj
  · rename_i hw
    rw [valD_congr evj] at hj
    obtain ⟨rj, hr, hp⟩ := putR_some hj
    obtain ⟨Aj, hp1, hp2⟩ := put_comm hN hpi hp (fun t ht => h2 t ht)
    refine ⟨Aj, ?_, back hp1 (fun hvi => valD_stays hf hl hvi hr) hp2, put_n hp1⟩
    unfold stepD
    rw [hw]
    simp only
    rw [hr]
    exact putR_of hp1
  · rename_i hw
    obtain ⟨rj, hr, hp⟩ := putR_some hj
    cases hr
    obtain ⟨Aj, hp1, hp2⟩ := put_comm hN hpi hp (fun t ht => h2 t ht)
    refine ⟨Aj, ?_, back hp1 (fun hvi => hvi) hp2, put_n hp1⟩
    unfold stepD
    rw [hw]
    simp only
    exact putR_of hp1
  · cases hj

/-! ### Every order -/
/-- In whatever order the rest is run, it comes to 'out'. -/
def AnyOk (cm : Oper → Bool) (E : Env) (R : Rec) (B : Nat) (ops : Array Oper) (out : AAct × St) : Nat → Array Bool → AAct → St → Prop
  | 0, L, A, s => Region.ready .any ops L = [] ∧ out = (A, s)
  | n + 1, L, A, s => (Region.ready .any ops L = [] → out = (A, s)) ∧
    ∀ i ∈ Region.ready .any ops L, ∃ o A' s', ops[i]? = some o ∧ stepD cm E R ops.toList (B + i) o A s = some (A', s') ∧ AnyOk cm E R B ops out n (L.setIfInBounds i true) A' s'

theorem stepD_n {cm : Oper → Bool} {E : Env} {R : Rec} {ops : List Oper} {i : Nat} {o : Oper} {A A' : AAct} {s s' : St} (h : stepD cm E R ops i o A s = some (A', s')) : A'.n = A.n := by
  unfold stepD at h
  split at h
  · obtain ⟨r, _, hp⟩ := putR_some h; exact put_n hp
  · obtain ⟨r, _, hp⟩ := putR_some h; exact put_n hp
  · cases h

theorem anyOk_sound {cm : Oper → Bool} {E : Env} (hE : EnvOk E) {R : Rec} (hR : RecOk E R) {B : Nat} {ops : Array Oper} {A' : AAct} {s' : St} {ro : Option Nat} {Q : Exit → Act → World → Prop} :
    ∀ (n : Nat) (L : Array Bool) (A : AAct) (s : St) (a : Act) (g : Gh) (w : World), AnyOk cm E R B ops (A', s') n L A s → Rel g s w → GlobOk E.G g w → ActOk g w A a → OpK g w A' s' (Q .normal) →
      wpAnyIn (FW ro) 0 E.P .any ops Q n L a w
  | 0, L, A, s, a, g, w, h, rel, glob, hA, hK => by
    obtain ⟨h1, h2⟩ := h
    cases h2
    exact ⟨h1, hK g w a (Ext.refl g w) rel hA⟩
  | n + 1, L, A, s, a, g, w, h, rel, glob, hA, hK => by
    obtain ⟨h1, h2⟩ := h
    refine ⟨fun h0 => ?_, fun i hi => ?_⟩
    · have := h1 h0
      cases this
      exact hK g w a (Ext.refl g w) rel hA
    · obtain ⟨o, A1, s1, ho, hs, hn⟩ := h2 i hi
      unfold wpOpIn
      rw [ho]
      exact stepD_sound hE hR hs rel glob hA (fun g1 w1 a1 e1 r1 hA1 => anyOk_sound hE hR n _ A1 s1 a1 g1 w1 hn r1 (glob.ext e1) hA1 (fun g2 w2 a2 e2 r2 h2 => hK g2 w2 a2 (e1.trans e2) r2 h2))

/-- The operations of D cannot come before i. -/
structure Behind (ops : Array Oper) (i : Nat) (L : Array Bool) (D : Nat → Prop) : Prop where
  unl : ∀ j, D j → L.getD j true = false
  why : ∀ j o, D j → ops[j]? = some o → ∃ e ∈ o.after, Region.binds .any e = true ∧ (e.on = i ∨ D e.on)

theorem not_listed {L : Array Bool} {k : Nat} (h : L.getD k true = false) : L.getD k false = false := by
  rcases Nat.lt_or_ge k L.size with h' | h'
  · simp [Array.getD, h'] at h ⊢; exact h
  · simp [Array.getD, Nat.not_lt.2 h']

theorem Behind.not_ready {ops : Array Oper} {i : Nat} {L : Array Bool} {D : Nat → Prop} (h : Behind ops i L D) (hi : L.getD i true = false) {j : Nat} (hj : j ∈ Region.ready .any ops L) : ¬ D j := fun hd => by
  obtain ⟨_, o, ho, hall⟩ := mem_ready.1 hj
  obtain ⟨e, he, hb, hon⟩ := h.why j o hd ho
  have h1 := hall e he hb
  have h2 : L.getD e.on true = false := by
    rcases hon with e1 | e1
    · rw [e1]; exact hi
    · exact h.unl _ e1
  rw [not_listed h2] at h1
  cases h1

theorem anyOk_first {cm : Oper → Bool} {E : Env} {R : Rec} {B : Nat} {ops : Array Oper} {out : AAct × St} {i : Nat} {oi : Oper} {D : Nat → Prop} (hi : ops[i]? = some oi) (hf : firstB cm oi = true) (hDi : ¬ D i) :
    ∀ (n : Nat) (L : Array Bool) (A A1 : AAct) (s : St), A.n ≤ 65536 → i ∈ Region.ready .any ops L → Behind ops i L D →
      (∀ j oj, ops[j]? = some oj → j ≠ i → L.getD j true = false → ¬ D j → oi.apart ops oj = true ∧ letsB cm oi oj = true) →
      stepD cm E R ops.toList (B + i) oi A s = some (A1, s) → AnyOk cm E R B ops out n (L.setIfInBounds i true) A1 s → AnyOk cm E R B ops out (n + 1) L A s := by
  intro n
  induction n with
  | zero =>
    intro L A A1 s hN hr hB hfree hs H
    refine ⟨fun h => (by rw [h] at hr; cases hr), fun j hj => ?_⟩
    by_cases hji : j = i
    · subst hji; exact ⟨oi, A1, s, hi, hs, H⟩
    · have := ready_mono hj hji
      rw [H.1] at this
      cases this
  | succ n ih =>
    intro L A A1 s hN hr hB hfree hs H
    refine ⟨fun h => (by rw [h] at hr; cases hr), fun j hj => ?_⟩
    by_cases hji : j = i
    · subst hji; exact ⟨oi, A1, s, hi, hs, H⟩
    · obtain ⟨oj, A1j, sj, hoj, hsj, hn⟩ := H.2 j (ready_mono hj hji)
      obtain ⟨hjun, oj', hoj', hall⟩ := mem_ready.1 hj
      rw [hoj] at hoj'
      cases hoj'
      have hDj : ¬ D j := hB.not_ready (mem_ready.1 hr).1 hj
      obtain ⟨hap, hl⟩ := hfree j oj hoj hji hjun hDj
      obtain ⟨Aj, hj1, hj2, hjn⟩ := step_comm hN hf hl hap hs hsj
      refine ⟨oj, Aj, sj, hoj, hj1, ?_⟩
      refine ih (L.setIfInBounds j true) Aj A1j sj (by rw [hjn]; exact hN) (ready_mono hr (Ne.symm hji)) ⟨fun k hk => ?_, hB.why⟩ (fun k ok hk hki hun hno => ?_) hj2 ?_
      · have hne : j ≠ k := fun e => hDj (e ▸ hk)
        rw [getD_set_ne true hne]
        exact hB.unl k hk
      · refine hfree k ok hk hki ?_ hno
        by_cases hjk : j = k
        · subst hjk; exact hjun
        · rw [getD_set_ne true hjk] at hun; exact hun
      · rw [Array.setIfInBounds_comm _ _ hji]
        exact hn

end Go.Am

set_option linter.unusedVariables false
set_option linter.unusedSimpArgs false
/-!
  THE ABSTRACT MACHINE, part S: plans for a region whose order is drawn.
-/
namespace Go.Am
open Go Go.RowKit

/-- A plan: 'one': this operation may go first; 'alt': it is one of those that may come next (the others follow in the last field, down to 'stop'); 'dp': every order, set by set. -/
inductive Sch where
  | done
  | stop
  | one (i : Nat) (k : Sch)
  | alt (i : Nat) (k r : Sch)
  | dp (ks : List Nat)

abbrev Pend := List (Nat × Oper)

def hasP (j : Nat) : Pend → Bool
  | [] => false
  | (i, _) :: r => if Nat.beq i j then true else hasP j r
def findP (j : Nat) : Pend → Option Oper
  | [] => none
  | (i, o) :: r => if Nat.beq i j then some o else findP j r
def dropP (j : Nat) : Pend → Pend
  | [] => []
  | (i, o) :: r => if Nat.beq i j then dropP j r else (i, o) :: dropP j r
def mkPend : Nat → List Oper → Pend
  | _, [] => []
  | i, o :: r => (i, o) :: mkPend (i + 1) r

def readyEs (n : Nat) (pend : Pend) : List Edge → Bool
  | [] => true
  | e :: r => if Region.binds .any e then (if Nat.blt e.on n then (if hasP e.on pend then false else readyEs n pend r) else false) else readyEs n pend r
def readyB (n : Nat) (pend : Pend) (o : Oper) : Bool := readyEs n pend o.after.toList

/-- Does it wait for one of those? -/
def waitsFor (D : List Nat) : List Edge → Bool
  | [] => false
  | e :: r => if Region.binds .any e then (if D.contains e.on then true else waitsFor D r) else waitsFor D r

/-- May the operation i go first? D: i itself, and what comes behind it. -/
def freeP (cm : Oper → Bool) (ops : Array Oper) (i : Nat) (oi : Oper) : List Nat → Pend → Bool
  | _, [] => true
  | D, (j, oj) :: r => if Nat.beq j i then freeP cm ops i oi D r else
      if waitsFor D oj.after.toList then freeP cm ops i oi (j :: D) r else
      if letsB cm oi oj then (if oi.apart ops oj then freeP cm ops i oi D r else false) else false

def noneReady (n : Nat) (all : Pend) (seen : List Nat) : Pend → Bool
  | [] => true
  | (j, o) :: r => if readyB n all o then (if seen.contains j then noneReady n all seen r else false) else noneReady n all seen r

def pickFirst (cm : Oper → Bool) (ops : Array Oper) (n : Nat) (all : Pend) : Pend → Option Nat
  | [] => none
  | (i, o) :: r => if firstB cm o then (if readyB n all o then (if freeP cm ops i o [i] all then some i else pickFirst cm ops n all r) else pickFirst cm ops n all r) else pickFirst cm ops n all r
def readies (n : Nat) (all : Pend) : Pend → List Nat
  | [] => []
  | (i, o) :: r => if readyB n all o then i :: readies n all r else readies n all r
def eqKeys : List Nat → Pend → Bool
  | [], y => match y with
    | [] => true
    | _ => false
  | k :: r, y => match y with
    | (i, _) :: q => if Nat.beq k i then eqKeys r q else false
    | [] => false
def pendOf (ops : List Oper) : List Nat → Pend
  | [] => []
  | k :: r => match ops[k]? with
    | some o => (k, o) :: pendOf ops r
    | none => pendOf ops r

/-- Is the plan good? -/
def chk (cm : Oper → Bool) (ops : Array Oper) (n : Nat) : Sch → Pend → List Nat → Bool
  | .done, pend, seen => match seen with
    | [] => noneReady n pend [] pend
    | _ => false
  | .stop, pend, seen => match seen with
    | [] => false
    | _ => noneReady n pend seen pend
  | .one i k, pend, seen => match seen with
    | [] => match findP i pend with
      | some o => if readyB n pend o then (if firstB cm o then (if freeP cm ops i o [i] pend then chk cm ops n k (dropP i pend) [] else false) else false) else false
      | none => false
    | _ => false
  | .alt i k r, pend, seen => match findP i pend with
    | some o => if readyB n pend o then (if chk cm ops n k (dropP i pend) [] then chk cm ops n r pend (i :: seen) else false) else false
    | none => false
  | .dp ks, pend, seen => match seen with
    | [] => eqKeys ks pend
    | _ => false

def eqDf : List ADef → List ADef → Bool
  | [], y => match y with
    | [] => true
    | _ => false
  | .mark i :: r, y => match y with
    | .mark j :: q => if Nat.beq i j then eqDf r q else false
    | _ => false
  | .call f as :: r, y => match y with
    | .call f' bs :: q => if Nat.beq f f' then (if eqAll as bs then eqDf r q else false) else false
    | _ => false
theorem eqDf_eq : ∀ {a b : List ADef}, eqDf a b = true → a = b
  | [], b, h => by
    simp only [eqDf] at h
    split at h
    · rfl
    · cases h
  | .mark i :: r, b, h => by
    simp only [eqDf] at h
    split at h
    · split at h
      · rename_i e; rw [Nat.eq_of_beq_eq_true e, eqDf_eq h]
      · cases h
    · cases h
  | .call f as :: r, b, h => by
    simp only [eqDf] at h
    split at h
    · split at h
      · rename_i e
        split at h
        · rename_i e2; rw [Nat.eq_of_beq_eq_true e, eqAll_eq e2, eqDf_eq h]
        · cases h
      · cases h
    · cases h

def eqAct (A B : AAct) : Bool := if Nat.beq A.n B.n then (if eqDf A.df B.df then eqT A.tm B.tm else false) else false
theorem eqAct_eq {A B : AAct} (h : eqAct A B = true) : A = B := by
  unfold eqAct at h
  split at h
  · rename_i e
    split at h
    · rename_i e1
      have h1 := Nat.eq_of_beq_eq_true e
      have h2 := eqT_eq h
      have h3 := eqDf_eq e1
      cases A; cases B
      simp only at h1 h2 h3
      rw [h1, h2, h3]
    · cases h
  · cases h

def isStop : Sch → Bool
  | .stop => true
  | _ => false
theorem isStop_eq {p : Sch} (h : isStop p = true) : p = .stop := by cases p <;> first | rfl | cases h

/-! ### Every order, set by set -/
abbrev Front := List (Pend × AAct × St)
def samePend : Pend → Pend → Bool
  | [], y => match y with
    | [] => true
    | _ => false
  | (k, _) :: r, y => match y with
    | (i, _) :: q => if Nat.beq k i then samePend r q else false
    | [] => false
def addF (p : Pend) (A : AAct) (s : St) : Front → Option Front
  | [] => some [(p, A, s)]
  | (q, A', s') :: r => if samePend p q then (if eqS s s' then (if eqAct A A' then some ((q, A', s') :: r) else none) else none)
      else match addF p A s r with
        | some l => some ((q, A', s') :: l)
        | none => none
def stepE (cm : Oper → Bool) (E : Env) (R : Rec) (B : Nat) (ops : List Oper) (p : Pend) (A : AAct) (s : St) : List Nat → Front → Option Front
  | [], acc => some acc
  | i :: r, acc => match findP i p with
    | some o => match stepD cm E R ops (B + i) o A s with
      | some (A', s') => match addF (dropP i p) A' s' acc with
        | some acc' => stepE cm E R B ops p A s r acc'
        | none => none
      | none => none
    | none => none
def nextsOf (cm : Oper → Bool) (ops : Array Oper) (n : Nat) (p : Pend) : List Nat :=
  match pickFirst cm ops n p p with
  | some i => [i]
  | none => readies n p p
def expandF (cm : Oper → Bool) (E : Env) (R : Rec) (B : Nat) (ops : Array Oper) : Front → Front → Option Front
  | [], acc => some acc
  | (p, A, s) :: r, acc => match nextsOf cm ops ops.size p with
    | [] => none
    | i :: l => match stepE cm E R B ops.toList p A s (i :: l) acc with
      | some acc' => expandF cm E R B ops r acc'
      | none => none
def dpRun (cm : Oper → Bool) (E : Env) (R : Rec) (B : Nat) (ops : Array Oper) : Nat → Front → Option (AAct × St)
  | 0, f => match f with
    | [(p, A, s)] => match p with
      | [] => some (A, s)
      | _ => none
    | _ => none
  | k + 1, f => match expandF cm E R B ops f [] with
    | some f' => dpRun cm E R B ops k f'
    | none => none

/-- A plan carried out. -/
def runS (cm : Oper → Bool) (E : Env) (R : Rec) (B : Nat) (ops : List Oper) : Sch → AAct → St → Option (AAct × St)
  | .done, A, s => some (A, s)
  | .stop, A, s => none
  | .one i k, A, s => match ops[i]? with
    | some o => match stepD cm E R ops (B + i) o A s with
      | some (A', s') => runS cm E R B ops k A' s'
      | none => none
    | none => none
  | .alt i k r, A, s => match ops[i]? with
    | some o => match stepD cm E R ops (B + i) o A s with
      | some (A', s') => match runS cm E R B ops k A' s' with
        | some (A1, s1) => if isStop r then some (A1, s1) else
          match runS cm E R B ops r A s with
          | some (A2, s2) => if eqS s1 s2 then (if eqAct A1 A2 then some (A1, s1) else none) else none
          | none => none
        | none => none
      | none => none
    | none => none
  | .dp ks, A, s => dpRun cm E R B ops.toArray ks.length [(pendOf ops ks, A, s)]

structure PInv (ops : Array Oper) (L : Array Bool) (pend : Pend) : Prop where
  size : L.size = ops.size
  mem : ∀ i o, (i, o) ∈ pend ↔ ops[i]? = some o ∧ L[i]? = some false

theorem findP_mem {j : Nat} {o : Oper} : ∀ {l : Pend}, findP j l = some o → (j, o) ∈ l
  | [], h => by cases h
  | (i, x) :: r, h => by
    simp only [findP] at h
    split at h
    · rename_i e; cases h; rw [Nat.eq_of_beq_eq_true e]; exact List.mem_cons_self ..
    · exact List.mem_cons_of_mem _ (findP_mem h)
theorem hasP_iff {j : Nat} : ∀ {l : Pend}, hasP j l = true ↔ ∃ o, (j, o) ∈ l
  | [] => by simp [hasP]
  | (i, x) :: r => by
    simp only [hasP]
    split
    · rename_i e
      have := Nat.eq_of_beq_eq_true e
      subst this
      exact ⟨fun _ => ⟨x, List.mem_cons_self ..⟩, fun _ => rfl⟩
    · rename_i e
      rw [hasP_iff]
      refine ⟨fun ⟨o, h⟩ => ⟨o, List.mem_cons_of_mem _ h⟩, fun ⟨o, h⟩ => ?_⟩
      rcases List.mem_cons.1 h with h | h
      · cases h; exact absurd (Nat.beq_refl j) e
      · exact ⟨o, h⟩
theorem dropP_mem {j : Nat} {i : Nat} {o : Oper} : ∀ {l : Pend}, (i, o) ∈ dropP j l ↔ i ≠ j ∧ (i, o) ∈ l
  | [] => by simp [dropP]
  | (k, x) :: r => by
    simp only [dropP]
    split
    · rename_i e
      have := Nat.eq_of_beq_eq_true e
      subst this
      rw [dropP_mem]
      refine ⟨fun ⟨h1, h2⟩ => ⟨h1, List.mem_cons_of_mem _ h2⟩, fun ⟨h1, h2⟩ => ⟨h1, ?_⟩⟩
      rcases List.mem_cons.1 h2 with h2 | h2
      · cases h2; exact absurd rfl h1
      · exact h2
    · rename_i e
      rw [List.mem_cons, dropP_mem, List.mem_cons]
      refine ⟨fun h => ?_, fun ⟨h1, h2⟩ => ?_⟩
      · rcases h with h | ⟨h1, h2⟩
        · cases h; exact ⟨fun e2 => e (by rw [e2]; exact Nat.beq_refl j), .inl rfl⟩
        · exact ⟨h1, .inr h2⟩
      · rcases h2 with h2 | h2
        · exact .inl h2
        · exact .inr ⟨h1, h2⟩
theorem dropP_length {j : Nat} : ∀ {l : Pend}, (dropP j l).length ≤ l.length
  | [] => Nat.le_refl _
  | (k, x) :: r => by
    simp only [dropP]
    split
    · have := dropP_length (j := j) (l := r); simp only [List.length_cons]; omega
    · have := dropP_length (j := j) (l := r); simp only [List.length_cons]; omega
theorem dropP_lt {j : Nat} {o : Oper} : ∀ {l : Pend}, findP j l = some o → (dropP j l).length < l.length
  | [], h => by cases h
  | (k, x) :: r, h => by
    simp only [findP] at h
    simp only [dropP]
    split at h
    · rename_i e
      rw [if_pos e]
      have := dropP_length (j := j) (l := r); simp only [List.length_cons]; omega
    · rename_i e
      rw [if_neg e]
      have := dropP_lt h; simp only [List.length_cons]; omega

theorem readyEs_iff {n : Nat} {pend : Pend} : ∀ {l : List Edge}, readyEs n pend l = true ↔ ∀ e ∈ l, Region.binds .any e = true → e.on < n ∧ hasP e.on pend = false
  | [] => by simp [readyEs]
  | e :: r => by
    simp only [readyEs, List.forall_mem_cons]
    by_cases hb : Region.binds .any e = true
    · simp only [hb, if_true]
      by_cases hn : Nat.blt e.on n = true
      · simp only [hn, if_true]
        by_cases hh : hasP e.on pend = true
        · simp only [hh, if_true]
          constructor
          · intro h; cases h
          · intro h; exact absurd (h.1 trivial).2 (by simp)
        · have hh' : hasP e.on pend = false := by simpa using hh
          simp only [hh', Bool.false_eq_true, if_false]
          rw [readyEs_iff]
          exact ⟨fun h => ⟨fun _ => ⟨blt_lt hn, by simp⟩, h⟩, fun h => h.2⟩
      · simp only [hn, if_false, Bool.false_eq_true]
        constructor
        · intro h; cases h
        · intro h
          have := (h.1 trivial).1
          exact absurd (by rw [Nat.blt_eq]; exact this) hn
    · simp only [hb, if_false, Bool.false_eq_true]
      rw [readyEs_iff]
      exact ⟨fun h => ⟨fun h2 => absurd h2 (by simp), h⟩, fun h => h.2⟩

theorem mem_ready_iff {ops : Array Oper} {L : Array Bool} {pend : Pend} (hp : PInv ops L pend) {i : Nat} : i ∈ Region.ready .any ops L ↔ ∃ o, (i, o) ∈ pend ∧ readyB ops.size pend o = true := by
  rw [mem_ready]
  have hL : ∀ {k : Nat}, k < ops.size → (L.getD k true = false ↔ L[k]? = some false) := fun {k} hk => by
    have : k < L.size := by rw [hp.size]; exact hk
    simp [Array.getD, this]
  constructor
  · rintro ⟨h1, o, ho, hall⟩
    have hi : i < ops.size := (Array.getElem?_eq_some_iff.1 ho).1
    refine ⟨o, (hp.mem i o).2 ⟨ho, (hL hi).1 h1⟩, readyEs_iff.2 (fun e he hb => ?_)⟩
    have h2 := hall e (by simpa using he) hb
    have hlt : e.on < ops.size := by
      rcases Nat.lt_or_ge e.on L.size with h | h
      · rw [← hp.size]; exact h
      · simp [Array.getD, Nat.not_lt.2 h] at h2
    refine ⟨hlt, ?_⟩
    rw [← Bool.not_eq_true, hasP_iff]
    rintro ⟨oe, hm⟩
    have := ((hp.mem _ _).1 hm).2
    have hlt' : e.on < L.size := by rw [hp.size]; exact hlt
    simp [Array.getD, hlt'] at h2 this
    rw [h2] at this
    cases this
  · rintro ⟨o, hm, hr⟩
    obtain ⟨ho, h1⟩ := (hp.mem i o).1 hm
    have hi : i < ops.size := (Array.getElem?_eq_some_iff.1 ho).1
    refine ⟨(hL hi).2 h1, o, ho, fun e he hb => ?_⟩
    obtain ⟨hlt, hh⟩ := readyEs_iff.1 hr e (by simpa using he) hb
    have hlt' : e.on < L.size := by rw [hp.size]; exact hlt
    by_cases hv : L[e.on] = true
    · simp [Array.getD, hlt', hv]
    · have hv' : L[e.on] = false := by simpa using hv
      have : hasP e.on pend = true := hasP_iff.2 ⟨ops[e.on], (hp.mem _ _).2 ⟨by simp [hlt], by simp [hlt', hv']⟩⟩
      rw [hh] at this
      cases this

theorem PInv.drop {ops : Array Oper} {L : Array Bool} {pend : Pend} (hp : PInv ops L pend) (i : Nat) : PInv ops (L.setIfInBounds i true) (dropP i pend) := by
  refine ⟨by rw [Array.size_setIfInBounds]; exact hp.size, fun k o => ?_⟩
  rw [dropP_mem, hp.mem, Array.getElem?_setIfInBounds]
  by_cases e : i = k
  · subst e
    simp
  · have e' : k ≠ i := fun h => e h.symm
    simp [e, e']

theorem waitsFor_iff {D : List Nat} : ∀ {l : List Edge}, waitsFor D l = true → ∃ e ∈ l, Region.binds .any e = true ∧ e.on ∈ D
  | [], h => by cases h
  | e :: r, h => by
    simp only [waitsFor] at h
    split at h
    · rename_i hb
      split at h
      · rename_i he; exact ⟨e, List.mem_cons_self .., hb, by simpa using he⟩
      · obtain ⟨x, h1, h2⟩ := waitsFor_iff h; exact ⟨x, List.mem_cons_of_mem _ h1, h2⟩
    · obtain ⟨x, h1, h2⟩ := waitsFor_iff h; exact ⟨x, List.mem_cons_of_mem _ h1, h2⟩

/-- What 'freeP' finds: the operations behind i, and that every other one lets i go first. -/
theorem freeP_spec {cm : Oper → Bool} {ops : Array Oper} {i : Nat} {oi : Oper} : ∀ {l : Pend} {D : List Nat}, freeP cm ops i oi D l = true → (∀ j o, (j, o) ∈ l → ops[j]? = some o) →
    ∃ D' : Nat → Prop, (∀ j, D' j → j ∈ D ∨ ∃ o, (j, o) ∈ l) ∧ (∀ j, j ∈ D → D' j) ∧ (∀ j, j ≠ i → D' j → j ∉ D → ∃ o, ops[j]? = some o ∧ ∃ e ∈ o.after, Region.binds .any e = true ∧ D' e.on) ∧ (i ∉ D → ¬ D' i) ∧
      ∀ j oj, (j, oj) ∈ l → j ≠ i → ¬ D' j → oi.apart ops oj = true ∧ letsB cm oi oj = true
  | [], D, h, _ => ⟨fun j => j ∈ D, fun j hj => .inl hj, fun j hj => hj, fun j _ h1 h2 => absurd h1 h2, fun h => h, fun j oj hm => by cases hm⟩
  | (k, x) :: r, D, h, hops => by
    simp only [freeP] at h
    have hops' : ∀ j o, (j, o) ∈ r → ops[j]? = some o := fun j o hm => hops j o (List.mem_cons_of_mem _ hm)
    split at h
    · rename_i e
      have e := Nat.eq_of_beq_eq_true e
      obtain ⟨D', h1, h2, h3, h4, h5⟩ := freeP_spec h hops'
      refine ⟨D', fun j hj => ?_, h2, h3, h4, fun j oj hm hne hno => ?_⟩
      · rcases h1 j hj with h | ⟨o, h⟩
        · exact .inl h
        · exact .inr ⟨o, List.mem_cons_of_mem _ h⟩
      · rcases List.mem_cons.1 hm with hm | hm
        · cases hm; exact absurd e hne
        · exact h5 j oj hm hne hno
    · rename_i hki
      have hki : k ≠ i := fun e => hki (by rw [e]; exact Nat.beq_refl i)
      split at h
      · rename_i hw
        obtain ⟨e, he, hb, hon⟩ := waitsFor_iff hw
        obtain ⟨D', h1, h2, h3, h4, h5⟩ := freeP_spec h hops'
        refine ⟨D', fun j hj => ?_, fun j hj => h2 j (List.mem_cons_of_mem _ hj), fun j hne hj hnj => ?_, fun hi => h4 (by simp [hi, Ne.symm hki]), fun j oj hm hne hno => ?_⟩
        · rcases h1 j hj with h | ⟨o, h⟩
          · rcases List.mem_cons.1 h with h | h
            · subst h; exact .inr ⟨x, List.mem_cons_self ..⟩
            · exact .inl h
          · exact .inr ⟨o, List.mem_cons_of_mem _ h⟩
        · by_cases ejk : j = k
          · subst ejk
            exact ⟨x, hops j x (List.mem_cons_self ..), e, by simpa using he, hb, h2 _ (List.mem_cons_of_mem _ hon)⟩
          · exact h3 j hne hj (by simp [ejk, hnj])
        · rcases List.mem_cons.1 hm with hm | hm
          · cases hm; exact absurd (h2 k (List.mem_cons_self ..)) hno
          · exact h5 j oj hm hne hno
      · split at h
        · rename_i hl
          split at h
          · rename_i ha
            obtain ⟨D', h1, h2, h3, h4, h5⟩ := freeP_spec h hops'
            refine ⟨D', fun j hj => ?_, h2, h3, h4, fun j oj hm hne hno => ?_⟩
            · rcases h1 j hj with h | ⟨o, h⟩
              · exact .inl h
              · exact .inr ⟨o, List.mem_cons_of_mem _ h⟩
            · rcases List.mem_cons.1 hm with hm | hm
              · cases hm; exact ⟨ha, hl⟩
              · exact h5 j oj hm hne hno
          · cases h
        · cases h

theorem noneReady_spec {n : Nat} {all : Pend} {seen : List Nat} : ∀ {l : Pend}, noneReady n all seen l = true → ∀ j o, (j, o) ∈ l → readyB n all o = true → j ∈ seen
  | [], _, j, o, hm, _ => by cases hm
  | (k, x) :: r, h, j, o, hm, hr => by
    simp only [noneReady] at h
    rcases List.mem_cons.1 hm with hm' | hm'
    · cases hm'
      rw [if_pos hr] at h
      split at h
      · rename_i hc; simpa using hc
      · cases h
    · have hr' : noneReady n all seen r = true := by
        split at h
        · split at h
          · exact h
          · cases h
        · exact h
      exact noneReady_spec hr' j o hm' hr

theorem ops_get {ops : Array Oper} {i : Nat} {o : Oper} (h : ops.toList[i]? = some o) : ops[i]? = some o := by simpa using h

def WfP (ops : Array Oper) (p : Pend) : Prop := ∀ j o, (j, o) ∈ p → ops[j]? = some o
theorem PInv.wf {ops : Array Oper} {L : Array Bool} {p : Pend} (h : PInv ops L p) : WfP ops p := fun j o hm => ((h.mem j o).1 hm).1
theorem WfP.drop {ops : Array Oper} {p : Pend} (h : WfP ops p) (i : Nat) : WfP ops (dropP i p) := fun j o hm => h j o (dropP_mem.1 hm).2

theorem samePend_eq {ops : Array Oper} : ∀ {p q : Pend}, samePend p q = true → WfP ops p → WfP ops q → p = q
  | [], q, h, _, _ => by
    simp only [samePend] at h
    split at h
    · rfl
    · cases h
  | (k, o) :: r, q, h, hp, hq => by
    simp only [samePend] at h
    split at h
    · rename_i i o' q'
      split at h
      · rename_i e
        have e := Nat.eq_of_beq_eq_true e
        subst e
        have h1 := hp k o (List.mem_cons_self ..)
        have h2 := hq k o' (List.mem_cons_self ..)
        rw [h1] at h2
        cases h2
        rw [samePend_eq h (fun j x hm => hp j x (List.mem_cons_of_mem _ hm)) (fun j x hm => hq j x (List.mem_cons_of_mem _ hm))]
      · cases h
    · cases h

theorem eqKeys_eq {ops : Array Oper} : ∀ {ks : List Nat} {p : Pend}, eqKeys ks p = true → WfP ops p → pendOf ops.toList ks = p ∧ ks.length = p.length
  | [], p, h, _ => by
    simp only [eqKeys] at h
    split at h
    · exact ⟨rfl, rfl⟩
    · cases h
  | k :: r, p, h, hp => by
    simp only [eqKeys] at h
    split at h
    · rename_i i o q
      split at h
      · rename_i e
        have e := Nat.eq_of_beq_eq_true e
        subst e
        have h1 := hp k o (List.mem_cons_self ..)
        obtain ⟨h2, h3⟩ := eqKeys_eq h (fun j x hm => hp j x (List.mem_cons_of_mem _ hm))
        have h4 : ops.toList[k]? = some o := by simpa using h1
        exact ⟨by simp only [pendOf, h4, h2], by simp [h3]⟩
      · cases h
    · cases h

theorem pickFirst_spec {cm : Oper → Bool} {ops : Array Oper} {n : Nat} {all : Pend} {i : Nat} : ∀ {l : Pend}, pickFirst cm ops n all l = some i → ∃ o, (i, o) ∈ l ∧ firstB cm o = true ∧ readyB n all o = true ∧ freeP cm ops i o [i] all = true
  | [], h => by cases h
  | (k, x) :: r, h => by
    simp only [pickFirst] at h
    have ih : pickFirst cm ops n all r = some i → ∃ o, (i, o) ∈ (k, x) :: r ∧ firstB cm o = true ∧ readyB n all o = true ∧ freeP cm ops i o [i] all = true := fun h => by
      obtain ⟨o, h1, h2⟩ := pickFirst_spec h
      exact ⟨o, List.mem_cons_of_mem _ h1, h2⟩
    split at h
    · rename_i h1
      split at h
      · rename_i h2
        split at h
        · rename_i h3
          cases h
          exact ⟨x, List.mem_cons_self .., h1, h2, h3⟩
        · exact ih h
      · exact ih h
    · exact ih h

theorem readies_spec {n : Nat} {all : Pend} {i : Nat} : ∀ {l : Pend}, i ∈ readies n all l ↔ ∃ o, (i, o) ∈ l ∧ readyB n all o = true
  | [] => by simp [readies]
  | (k, x) :: r => by
    simp only [readies]
    split
    · rename_i h
      rw [List.mem_cons, readies_spec]
      constructor
      · rintro (rfl | ⟨o, h1, h2⟩)
        · exact ⟨x, List.mem_cons_self .., h⟩
        · exact ⟨o, List.mem_cons_of_mem _ h1, h2⟩
      · rintro ⟨o, h1, h2⟩
        rcases List.mem_cons.1 h1 with e | h1
        · cases e; exact .inl rfl
        · exact .inr ⟨o, h1, h2⟩
    · rename_i h
      rw [readies_spec]
      constructor
      · rintro ⟨o, h1, h2⟩
        exact ⟨o, List.mem_cons_of_mem _ h1, h2⟩
      · rintro ⟨o, h1, h2⟩
        rcases List.mem_cons.1 h1 with e | h1
        · cases e; exact absurd h2 h
        · exact ⟨o, h1, h2⟩

/-- The operation that may go first. -/
theorem anyOk_one {cm : Oper → Bool} {E : Env} {R : Rec} {B : Nat} {ops : Array Oper} {out : AAct × St} {pend : Pend} {L : Array Bool} {i n : Nat} {o : Oper} {A A' : AAct} {s s' : St} (hp : PInv ops L pend) (hN : A.n ≤ 65536)
    (hm : (i, o) ∈ pend) (hf : firstB cm o = true) (hrd : readyB ops.size pend o = true) (hfree : freeP cm ops i o [i] pend = true) (hs : stepD cm E R ops.toList (B + i) o A s = some (A', s')) (H : AnyOk cm E R B ops out n (L.setIfInBounds i true) A' s') :
    AnyOk cm E R B ops out (n + 1) L A s := by
  have hoi := ((hp.mem i o).1 hm).1
  have hss : s' = s := by
    unfold stepD at hs
    split at hs
    · obtain ⟨r, hv, _⟩ := putR_some hs; exact valD_first hf hv
    · obtain ⟨r, hv, _⟩ := putR_some hs; cases hv; rfl
    · cases hs
  subst hss
  have hfr := freeP_spec hfree (fun j o hm => ((hp.mem j o).1 hm).1)
  obtain ⟨D', d1, d2, d3, _, d5⟩ := hfr
  have hpd : ∀ {j : Nat} {oj : Oper}, (j, oj) ∈ pend → L.getD j true = false := fun {j oj} hm => by
    have hl := ((hp.mem j oj).1 hm).2
    have hj' : j < L.size := (Array.getElem?_eq_some_iff.1 hl).1
    simp [Array.getD, hj'] at hl ⊢; exact hl
  refine anyOk_first (D := fun j => D' j ∧ j ≠ i) hoi hf (fun h => h.2 rfl) n L A A' s' hN ((mem_ready_iff hp).2 ⟨o, hm, hrd⟩) ⟨fun j hj => ?_, fun j oj hj hoj => ?_⟩ (fun j oj hj hne hun hno => ?_) hs H
  · rcases d1 j hj.1 with h | ⟨oj, h⟩
    · simp at h; exact absurd h hj.2
    · exact hpd h
  · obtain ⟨o2, ho2, e, he, hb, hon⟩ := d3 j hj.2 hj.1 (by simp; exact hj.2)
    rw [hoj] at ho2
    cases ho2
    refine ⟨e, he, hb, ?_⟩
    by_cases ei : e.on = i
    · exact .inl ei
    · exact .inr ⟨hon, ei⟩
  · have hj' : j < L.size := by rw [hp.size]; exact (Array.getElem?_eq_some_iff.1 hj).1
    have hpend : (j, oj) ∈ pend := (hp.mem j oj).2 ⟨hj, by simp [Array.getD, hj'] at hun ⊢; exact hun⟩
    exact d5 j oj hpend hne (fun h => hno ⟨h, hne⟩)

def FrontOk (ops : Array Oper) (f : Front) : Prop := ∀ x ∈ f, WfP ops x.1 ∧ x.2.1.n ≤ 65536
theorem addF_spec {ops : Array Oper} {p : Pend} {A : AAct} {s : St} (hp : WfP ops p) (hN : A.n ≤ 65536) : ∀ {acc acc' : Front}, addF p A s acc = some acc' → FrontOk ops acc → FrontOk ops acc' ∧ (∀ x ∈ acc, x ∈ acc') ∧ (p, A, s) ∈ acc'
  | [], acc', h, hacc => by
    simp only [addF, Option.some.injEq] at h
    subst h
    exact ⟨fun x hx => by simp at hx; subst hx; exact ⟨hp, hN⟩, (fun x hx => by cases hx), by simp⟩
  | (q, A', s') :: r, acc', h, hacc => by
    simp only [addF] at h
    split at h
    · rename_i e1
      split at h
      · rename_i e2
        split at h
        · rename_i e3
          cases h
          have e1 := samePend_eq e1 hp (hacc _ (List.mem_cons_self ..)).1
          have e2 := eqS_eq e2
          have e3 := eqAct_eq e3
          subst e1 e2 e3
          exact ⟨hacc, fun x hx => hx, List.mem_cons_self ..⟩
        · cases h
      · cases h
    · split at h
      · rename_i l hl
        cases h
        obtain ⟨h1, h2, h3⟩ := addF_spec hp hN hl (fun x hx => hacc x (List.mem_cons_of_mem _ hx))
        refine ⟨fun x hx => ?_, fun x hx => ?_, List.mem_cons_of_mem _ h3⟩
        · rcases List.mem_cons.1 hx with rfl | hx
          · exact hacc _ (List.mem_cons_self ..)
          · exact h1 x hx
        · rcases List.mem_cons.1 hx with rfl | hx
          · exact List.mem_cons_self ..
          · exact List.mem_cons_of_mem _ (h2 x hx)
      · cases h

theorem stepE_spec {cm : Oper → Bool} {E : Env} {R : Rec} {B : Nat} {ops : Array Oper} {p : Pend} {A : AAct} {s : St} (hp : WfP ops p) (hN : A.n ≤ 65536) : ∀ {l : List Nat} {acc acc' : Front}, stepE cm E R B ops.toList p A s l acc = some acc' → FrontOk ops acc →
    FrontOk ops acc' ∧ (∀ x ∈ acc, x ∈ acc') ∧ ∀ i ∈ l, ∃ o A' s', (i, o) ∈ p ∧ stepD cm E R ops.toList (B + i) o A s = some (A', s') ∧ (dropP i p, A', s') ∈ acc'
  | [], acc, acc', h, hacc => by
    simp only [stepE, Option.some.injEq] at h
    subst h
    exact ⟨hacc, fun x hx => hx, fun i hi => by cases hi⟩
  | i :: r, acc, acc', h, hacc => by
    simp only [stepE] at h
    split at h
    · rename_i o ho
      split at h
      · rename_i A' s' hs
        split at h
        · rename_i acc1 h1
          obtain ⟨k1, k2, k3⟩ := addF_spec (hp.drop i) (by rw [stepD_n hs]; exact hN) h1 hacc
          obtain ⟨j1, j2, j3⟩ := stepE_spec hp hN h k1
          refine ⟨j1, fun x hx => j2 x (k2 x hx), fun k hk => ?_⟩
          rcases List.mem_cons.1 hk with rfl | hk
          · exact ⟨o, A', s', findP_mem ho, hs, j2 _ k3⟩
          · exact j3 k hk
        · cases h
      · cases h
    · cases h

theorem expandF_spec {cm : Oper → Bool} {E : Env} {R : Rec} {B : Nat} {ops : Array Oper} : ∀ {f acc f' : Front}, expandF cm E R B ops f acc = some f' → FrontOk ops f → FrontOk ops acc →
    FrontOk ops f' ∧ (∀ x ∈ acc, x ∈ f') ∧ ∀ x ∈ f, nextsOf cm ops ops.size x.1 ≠ [] ∧ ∀ i ∈ nextsOf cm ops ops.size x.1, ∃ o A' s', (i, o) ∈ x.1 ∧ stepD cm E R ops.toList (B + i) o x.2.1 x.2.2 = some (A', s') ∧ (dropP i x.1, A', s') ∈ f'
  | [], acc, f', h, hf, hacc => by
    simp only [expandF, Option.some.injEq] at h
    subst h
    exact ⟨hacc, fun x hx => hx, fun x hx => by cases hx⟩
  | (p, A, s) :: r, acc, f', h, hf, hacc => by
    simp only [expandF] at h
    split at h
    · cases h
    · rename_i i l hl
      split at h
      · rename_i acc1 h1
        obtain ⟨hp, hN⟩ := hf _ (List.mem_cons_self ..)
        obtain ⟨k1, k2, k3⟩ := stepE_spec hp hN h1 hacc
        obtain ⟨j1, j2, j3⟩ := expandF_spec h (fun x hx => hf x (List.mem_cons_of_mem _ hx)) k1
        refine ⟨j1, fun x hx => j2 x (k2 x hx), fun x hx => ?_⟩
        rcases List.mem_cons.1 hx with rfl | hx
        · refine ⟨by rw [hl]; simp, fun k hk => ?_⟩
          rw [hl] at hk
          obtain ⟨o, A', s', q1, q2, q3⟩ := k3 k hk
          exact ⟨o, A', s', q1, q2, j2 _ q3⟩
        · exact j3 x hx
      · cases h

theorem dp_sound {cm : Oper → Bool} {E : Env} {R : Rec} {B : Nat} {ops : Array Oper} {out : AAct × St} : ∀ (k : Nat) (f : Front), dpRun cm E R B ops k f = some out → FrontOk ops f → ∀ x ∈ f, ∀ L, PInv ops L x.1 → AnyOk cm E R B ops out k L x.2.1 x.2.2
  | 0, f, h, hf, x, hx, L, hp => by
    simp only [dpRun] at h
    split at h
    · split at h
      · cases h
        simp at hx
        subst hx
        refine ⟨List.eq_nil_iff_forall_not_mem.2 (fun i hi => ?_), rfl⟩
        obtain ⟨o, hm, _⟩ := (mem_ready_iff hp).1 hi
        cases hm
      · cases h
    · cases h
  | k + 1, f, h, hf, x, hx, L, hp => by
    simp only [dpRun] at h
    split at h
    · rename_i f' hf'
      obtain ⟨h1, _, h3⟩ := expandF_spec hf' hf (fun x hx => by cases hx)
      obtain ⟨hne, hall⟩ := h3 x hx
      have ih := dp_sound k f' h h1
      cases hpk : pickFirst cm ops ops.size x.1 x.1 with
      | some i =>
        have e : nextsOf cm ops ops.size x.1 = [i] := by unfold nextsOf; rw [hpk]
        rw [e] at hall
        obtain ⟨o, A', s', q1, q2, q3⟩ := hall i (by simp)
        obtain ⟨o', r1, r2, r3, r4⟩ := pickFirst_spec hpk
        have : o' = o := by
          have a1 := ((hp.mem i o').1 r1).1
          have a2 := ((hp.mem i o).1 q1).1
          rw [a1] at a2
          cases a2
          rfl
        subst this
        exact anyOk_one hp (hf x hx).2 q1 r2 r3 r4 q2 (ih _ q3 _ (hp.drop i))
      | none =>
        have e : nextsOf cm ops ops.size x.1 = readies ops.size x.1 x.1 := by unfold nextsOf; rw [hpk]
        rw [e] at hall hne
        refine ⟨fun hr => ?_, fun i hi => ?_⟩
        · exfalso
          obtain ⟨i, hi⟩ := List.exists_mem_of_ne_nil _ hne
          have : i ∈ Region.ready .any ops L := (mem_ready_iff hp).2 (readies_spec.1 hi)
          rw [hr] at this
          cases this
        · obtain ⟨o, A', s', q1, q2, q3⟩ := hall i (readies_spec.2 ((mem_ready_iff hp).1 hi))
          exact ⟨o, A', s', ((hp.mem i o).1 q1).1, q2, ih _ q3 _ (hp.drop i)⟩
    · cases h

theorem anyOk_succ {cm : Oper → Bool} {E : Env} {R : Rec} {B : Nat} {ops : Array Oper} {out : AAct × St} : ∀ (n : Nat) {L : Array Bool} {A : AAct} {s : St}, AnyOk cm E R B ops out n L A s → AnyOk cm E R B ops out (n + 1) L A s
  | 0, L, A, s, h => ⟨fun _ => h.2, fun i hi => by rw [h.1] at hi; cases hi⟩
  | n + 1, L, A, s, h => ⟨h.1, fun i hi => by
      obtain ⟨o, A', s', h1, h2, h3⟩ := h.2 i hi
      exact ⟨o, A', s', h1, h2, anyOk_succ n h3⟩⟩
theorem anyOk_mono {cm : Oper → Bool} {E : Env} {R : Rec} {B : Nat} {ops : Array Oper} {out : AAct × St} {k n : Nat} (hkn : k ≤ n) {L : Array Bool} {A : AAct} {s : St} (h : AnyOk cm E R B ops out k L A s) : AnyOk cm E R B ops out n L A s := by
  induction hkn with
  | refl => exact h
  | step _ ih => exact anyOk_succ _ ih

/-- A good plan, carried out, stands for every order. -/
theorem plan_sound {cm : Oper → Bool} {E : Env} {R : Rec} {B : Nat} {ops : Array Oper} {out : AAct × St} : ∀ (p : Sch) (pend : Pend) (seen : List Nat) (L : Array Bool) (n : Nat) (A : AAct) (s : St),
    chk cm ops ops.size p pend seen = true → PInv ops L pend → A.n ≤ 65536 → runS cm E R B ops.toList p A s = some out →
      (seen = [] → pend.length ≤ n → AnyOk cm E R B ops out n L A s) ∧
      (seen ≠ [] → pend.length ≤ n + 1 → ∀ i ∈ Region.ready .any ops L, i ∉ seen → ∃ o A' s', ops[i]? = some o ∧ stepD cm E R ops.toList (B + i) o A s = some (A', s') ∧ AnyOk cm E R B ops out n (L.setIfInBounds i true) A' s') := by
  intro p
  induction p with
  | done =>
    intro pend seen L n A s hc hp hN hr
    simp only [chk] at hc
    split at hc
    · cases hr
      refine ⟨fun _ _ => ?_, fun h => absurd rfl h⟩
      have hnone : Region.ready .any ops L = [] := List.eq_nil_iff_forall_not_mem.2 (fun i hi => by
        obtain ⟨o, hm, hrd⟩ := (mem_ready_iff hp).1 hi
        have := noneReady_spec hc i o hm hrd
        cases this)
      cases n with
      | zero => exact ⟨hnone, rfl⟩
      | succ n => exact ⟨fun _ => rfl, fun i hi => by rw [hnone] at hi; cases hi⟩
    · cases hc
  | stop =>
    intro pend seen L n A s hc hp hN hr
    cases hr
  | one i k ih =>
    intro pend seen L n A s hc hp hN hr
    simp only [chk] at hc
    split at hc
    · refine ⟨fun _ hlen => ?_, fun h => absurd rfl h⟩
      split at hc
      · rename_i o hfind
        split at hc
        · rename_i hrd
          split at hc
          · rename_i hf
            split at hc
            · rename_i hfree
              simp only [runS] at hr
              split at hr
              · rename_i o' ho'
                have hm := findP_mem hfind
                have hoi := ((hp.mem i o).1 hm).1
                have ho'' := ops_get ho'
                rw [hoi] at ho''
                cases ho''
                split at hr
                · rename_i A' s' hs
                  have hss : s' = s := by
                    have h0 := hs
                    unfold stepD at hs
                    split at hs
                    · obtain ⟨r, hv, _⟩ := putR_some hs; exact valD_first hf hv
                    · obtain ⟨r, hv, _⟩ := putR_some hs; cases hv; rfl
                    · cases hs
                  subst hss
                  have hlt := dropP_lt hfind
                  cases n with
                  | zero => omega
                  | succ n =>
                    have hfr := freeP_spec hfree (fun j o hm => ((hp.mem j o).1 hm).1)
                    obtain ⟨D', d1, d2, d3, _, d5⟩ := hfr
                    have hpd : ∀ {j : Nat} {oj : Oper}, (j, oj) ∈ pend → L.getD j true = false := fun {j oj} hm => by
                      have hl := ((hp.mem j oj).1 hm).2
                      have hj' : j < L.size := (Array.getElem?_eq_some_iff.1 hl).1
                      simp [Array.getD, hj'] at hl ⊢; exact hl
                    refine anyOk_first (D := fun j => D' j ∧ j ≠ i) hoi hf (fun h => h.2 rfl) n L A A' s' hN ((mem_ready_iff hp).2 ⟨o, hm, hrd⟩) ⟨fun j hj => ?_, fun j oj hj hoj => ?_⟩ (fun j oj hj hne hun hno => ?_) hs ?_
                    · rcases d1 j hj.1 with h | ⟨oj, h⟩
                      · simp at h; exact absurd h hj.2
                      · exact hpd h
                    · obtain ⟨o2, ho2, e, he, hb, hon⟩ := d3 j hj.2 hj.1 (by simp; exact hj.2)
                      rw [hoj] at ho2
                      cases ho2
                      refine ⟨e, he, hb, ?_⟩
                      by_cases ei : e.on = i
                      · exact .inl ei
                      · exact .inr ⟨hon, ei⟩
                    · have hj' : j < L.size := by rw [hp.size]; exact (Array.getElem?_eq_some_iff.1 hj).1
                      have hpend : (j, oj) ∈ pend := (hp.mem j oj).2 ⟨hj, by simp [Array.getD, hj'] at hun ⊢; exact hun⟩
                      exact d5 j oj hpend hne (fun h => hno ⟨h, hne⟩)
                    · exact (ih _ [] _ n A' s' hc (hp.drop i) (by rw [stepD_n hs]; exact hN) hr).1 rfl (by omega)
                · cases hr
              · cases hr
            · cases hc
          · cases hc
        · cases hc
      · cases hc
    · cases hc
  | alt i k r ihk ihr =>
    intro pend seen L n A s hc hp hN hr
    simp only [chk] at hc
    split at hc
    · rename_i o hfind
      split at hc
      · rename_i hrd
        split at hc
        · rename_i hck
          have hm := findP_mem hfind
          have hoi := ((hp.mem i o).1 hm).1
          have hlt := dropP_lt hfind
          have hready := (mem_ready_iff hp).2 ⟨o, hm, hrd⟩
          simp only [runS] at hr
          split at hr
          · rename_i o' ho'
            have ho'' := ops_get ho'
            rw [hoi] at ho''
            cases ho''
            split at hr
            · rename_i A' s' hs
              split at hr
              · rename_i A1 s1 hk1
                -- this one
                have this : (A1, s1) = out → ∀ m, pend.length ≤ m + 1 → ∃ o A' s', ops[i]? = some o ∧ stepD cm E R ops.toList (B + i) o A s = some (A', s') ∧ AnyOk cm E R B ops out m (L.setIfInBounds i true) A' s' := fun e m hm => by
                  subst e
                  exact ⟨o, A', s', hoi, hs, (ihk _ [] _ m A' s' hck (hp.drop i) (by rw [stepD_n hs]; exact hN) hk1).1 rfl (by omega)⟩
                -- the others
                have rest : (A1, s1) = out ∧ (∀ m, pend.length ≤ m + 1 → ∀ j ∈ Region.ready .any ops L, j ∉ i :: seen → ∃ o A' s', ops[j]? = some o ∧ stepD cm E R ops.toList (B + j) o A s = some (A', s') ∧ AnyOk cm E R B ops out m (L.setIfInBounds j true) A' s') := by
                  split at hr
                  · rename_i hst
                    have := isStop_eq hst
                    subst this
                    cases hr
                    refine ⟨rfl, fun m hm j hj hns => ?_⟩
                    simp only [chk] at hc
                    obtain ⟨oj, hmj, hrj⟩ := (mem_ready_iff hp).1 hj
                    exact absurd (noneReady_spec hc j oj hmj hrj) hns
                  · split at hr
                    · rename_i A2 s2 hr2
                      split at hr
                      · rename_i e1
                        split at hr
                        · rename_i e2
                          cases hr
                          refine ⟨rfl, fun m hm => ?_⟩
                          have := eqS_eq e1
                          have e2 := eqAct_eq e2
                          subst this e2
                          exact (ihr pend (i :: seen) L m A s hc hp hN hr2).2 (by simp) hm
                        · cases hr
                      · cases hr
                    · cases hr
                obtain ⟨hout, rest⟩ := rest
                refine ⟨fun hs0 hlen => ?_, fun hs0 hlen j hj hns => ?_⟩
                · subst hs0
                  cases n with
                  | zero => omega
                  | succ n =>
                    refine ⟨fun h => (by rw [h] at hready; cases hready), fun j hj => ?_⟩
                    by_cases e : j = i
                    · subst e; exact this hout n hlen
                    · exact rest n hlen j hj (by simp [e])
                · by_cases e : j = i
                  · subst e; exact this hout n hlen
                  · exact rest n hlen j hj (by simp [e, hns])
              · cases hr
            · cases hr
          · cases hr
        · cases hc
      · cases hc
    · cases hc
  | dp ks =>
    intro pend seen L n A s hc hp hN hr
    simp only [chk] at hc
    split at hc
    · refine ⟨fun _ hlen => ?_, fun h => absurd rfl h⟩
      obtain ⟨h1, h2⟩ := eqKeys_eq (ops := ops) hc hp.wf
      simp only [runS, Array.toArray_toList] at hr
      rw [h1, h2] at hr
      have key := dp_sound pend.length [(pend, A, s)] hr (fun x hx => by simp at hx; subst hx; exact ⟨hp.wf, hN⟩) (pend, A, s) (by simp) L hp
      exact anyOk_mono hlen key
    · cases hc

theorem mkPend_mem : ∀ (l : List Oper) (k i : Nat) (o : Oper), (i, o) ∈ mkPend k l ↔ k ≤ i ∧ l[i - k]? = some o
  | [], k, i, o => by simp [mkPend]
  | x :: r, k, i, o => by
    simp only [mkPend, List.mem_cons, Prod.mk.injEq]
    rw [mkPend_mem r (k + 1) i o]
    constructor
    · rintro (⟨rfl, rfl⟩ | ⟨h1, h2⟩)
      · exact ⟨Nat.le_refl _, by simp⟩
      · refine ⟨by omega, ?_⟩
        have : i - k = (i - (k + 1)) + 1 := by omega
        rw [this]
        simpa using h2
    · rintro ⟨h1, h2⟩
      by_cases e : i = k
      · subst e; left; simp at h2; exact ⟨rfl, h2.symm⟩
      · right
        refine ⟨by omega, ?_⟩
        have : i - k = (i - (k + 1)) + 1 := by omega
        rw [this] at h2
        simpa using h2
theorem mkPend_length : ∀ (l : List Oper) (k : Nat), (mkPend k l).length = l.length
  | [], _ => rfl
  | x :: r, k => by simp [mkPend, mkPend_length r (k + 1)]

theorem PInv.start (ops : Array Oper) : PInv ops (Array.replicate ops.size false) (mkPend 0 ops.toList) := by
  refine ⟨by simp, fun i o => ?_⟩
  rw [mkPend_mem]
  simp
  intro h
  simp [(Array.getElem?_eq_some_iff.1 h).1]

/-- A drawn region, by a plan. -/
theorem drawn_sound {cm : Oper → Bool} {E : Env} (hE : EnvOk E) {R : Rec} (hR : RecOk E R) {id B : Nat} {ops : Array Oper} {p : Sch} {ro : Option Nat} {Q : Exit → Act → World → Prop} {a : Act} {A A' : AAct} {g : Gh} {s s' : St} {w : World} (hm : E.P.follows .mixedOrders = true)
    (hc : chk cm ops ops.size p (mkPend 0 ops.toList) [] = true) (h : runS cm E R B ops.toList p A s = some (A', s')) (rel : Rel g s w) (glob : GlobOk E.G g w) (hA : ActOk g w A a) (hK : OpK g w A' s' (Q .normal)) : (Code.region id ops true).wpIn (FW ro) 0 E.P Q a w := by
  refine wpIn_region_any hm ?_
  have hany := (plan_sound p _ [] _ ops.size A s hc (PInv.start ops) hA.most h).1 rfl (by rw [mkPend_length]; simp)
  have same : Same w { w with drawn := w.drawn + 1 } := ⟨rfl, rfl, rfl, rfl⟩
  obtain ⟨ext, rel'⟩ := rel.same same
  exact anyOk_sound hE hR _ _ A s a g _ hany rel' (glob.ext ext) (hA.ext ext) (fun g2 w2 a2 e2 r2 h2 => hK g2 w2 a2 (ext.trans e2) r2 h2)

end Go.Am

set_option linter.unusedVariables false
set_option linter.unusedSimpArgs false
/-!
  THE ABSTRACT MACHINE, part T: loops; leaving a function; its results.
-/
namespace Go.Am
open Go Go.RowKit

/-! ### Loops, unrolled -/
def LoopWp (F : Fence) (n : Nat) (P : Program) (c : Code) (Q : Exit → Act → World → Prop) (a : Act) (w : World) : Prop :=
  ∀ (b : Frame) (k : List Item) (cs : List Frame), b.roundOf = F.round → F.fn b.fn → F.room (cs.length + 1 + n) →
    ∃ e a' w', Q e a' w' ∧ ArrivesIn (Machine.fenced P F) P (lone (b.atR a (.code c :: .inLoop c :: k)) cs w) b k cs e a' w'

theorem wpIn_loop_of {F : Fence} {n : Nat} {P : Program} {c : Code} {Q : Exit → Act → World → Prop} {a : Act} {w : World} (h : LoopWp F n P c Q a w) : (Code.loop c).wpIn F n P Q a w := by
  intro b k cs hro hb hr
  obtain ⟨e, a', w', hq, harr⟩ := h b k cs hro hb hr
  exact ⟨e, a', w', hq, .of_steps (.one (fenced_calm hb hr rfl) stepR_loop) harr⟩

theorem loopWp_of {F : Fence} {n : Nat} {P : Program} {c : Code} {Q : Exit → Act → World → Prop} {a : Act} {w : World} (h : c.wpIn F n P (Exit.then (LoopWp F n P c Q) Q) a w) : LoopWp F n P c Q a w := by
  intro b k cs hro hb hr
  obtain ⟨e, a₁, w₁, hq, harr⟩ := h b (.inLoop c :: k) cs hro hb hr
  cases e with
  | normal =>
    obtain ⟨e₂, a₂, w₂, hq₂, harr₂⟩ := hq b k cs hro hb hr
    exact ⟨e₂, a₂, w₂, hq₂, .of_steps (StepsIn.trans harr (.one (fenced_calm hb hr rfl) stepR_inLoop)) harr₂⟩
  | exit id => exact ⟨_, a₁, w₁, hq, .pass (x := .inLoop c) rfl (fun _ _ => .inl (by simp)) harr⟩
  | goto l => exact ⟨_, a₁, w₁, hq, .pass (x := .inLoop c) rfl (fun _ _ => .inl (by simp)) harr⟩
  | ret => exact ⟨_, a₁, w₁, hq, .pass (x := .inLoop c) rfl (fun _ _ => .inl (by simp)) harr⟩
  | panic ch => exact ⟨_, a₁, w₁, hq, .pass (x := .inLoop c) rfl (fun _ _ => .inl (by simp)) harr⟩
  | outgrown => exact ⟨_, a₁, w₁, hq, .pass (x := .inLoop c) rfl (fun _ _ => .inl (by simp)) harr⟩

/-! ### Results -/
def resL (P : Program) (s : St) (A : AAct) : List ResultVar → Option (List AV)
  | [] => some []
  | v :: r => match (match v with
      | .tmp t => if Nat.blt t A.n then some (A.tm.get t) else none
      | .cell p t => if Nat.blt p A.n then loadA P s t (A.tm.get p) else none) with
    | some a => match resL P s A r with
      | some q => some (a :: q)
      | none => none
    | none => none

def packA : List AV → AV
  | [v] => v
  | l => .tuple l

theorem tm_at {g : Gh} {w : World} {N : Nat} {tm : Tr} {vs : Array Value} (h : TmOk g w N tm vs) {t : Nat} (ht : Nat.blt t N = true) : Rep g w (tm.get t) (vs.getD t undef) := by
  have ht := blt_lt ht
  have hs : t < vs.size := by rw [h.1]; exact ht
  have := h.2 t vs[t] (by simp [hs])
  simpa [Array.getD, hs] using this

theorem load_var {P : Program} {g : Gh} {s : St} {w : World} {t : TypeId} {x r : AV} {v : Value} (h : loadA P s t x = some r) (rel : Rel g s w) (hr : Rep g w x v) : Rds P g w (do loadVar t (← asAddr v)) r := by
  obtain ⟨u, hu, hru⟩ := load_sound h rel hr
  refine ⟨u, ?_, hru⟩
  have : ∃ a, v = .pointer (some a) := by
    unfold loadA at h
    split at h
    · simp only [Rep] at hr; exact ⟨_, hr.2⟩
    · simp only [Rep] at hr; obtain ⟨_, _, _, e, _⟩ := hr; exact ⟨_, e⟩
    · cases h
  obtain ⟨a, rfl⟩ := this
  simpa [Instr.loadAt, Instr.sureAddr, asAddr] using hu

def resVar (tmps : Array Value) : ResultVar → Sem Value
  | .tmp t => pure (tmps.getD t undef)
  | .cell a t => do loadVar t (← asAddr (tmps.getD a undef))

theorem resL_sound {P : Program} {g : Gh} {s : St} {w : World} {A : AAct} {tmps : Array Value} (rel : Rel g s w) (htm : TmOk g w A.n A.tm tmps) : ∀ {l : List ResultVar} {q : List AV}, resL P s A l = some q →
    ∃ vs, (l.mapM (resVar tmps)).run P w = .ok vs w ∧ RepAll g w q vs
  | [], q, h => by
    simp only [resL, Option.some.injEq] at h
    subst h
    exact ⟨[], rfl, by simp [RepAll]⟩
  | v :: r, q, h => by
    simp only [resL] at h
    split at h
    · rename_i a ha
      split at h
      · rename_i q' hq
        cases h
        obtain ⟨vs, hrun, hvs⟩ := resL_sound rel htm hq
        have hv : Rds P g w (resVar tmps v) a := by
          cases v with
          | tmp t =>
            simp only [resVar] at ha ⊢
            split at ha
            · rename_i ht; cases ha; exact ⟨_, rfl, tm_at htm ht⟩
            · cases ha
          | cell p t =>
            simp only [resVar] at ha ⊢
            split at ha
            · rename_i ht; exact load_var ha rel (tm_at htm ht)
            · cases ha
        obtain ⟨u, hu, hru⟩ := hv
        refine ⟨u :: vs, ?_, by simp only [RepAll]; exact ⟨u, vs, rfl, hru, hvs⟩⟩
        rw [List.mapM_cons, Sem.run_bind, hu]
        simp only [Result.andThen_ok]
        rw [Sem.run_bind, hrun]
        rfl
      · cases h
    · cases h

theorem results_eq (fn : Func) (tmps : Array Value) : results fn tmps = (do
    let vs ← fn.results.mapM (resVar tmps)
    pure (if h : vs.size = 1 then vs[0] else .tuple vs)) := by
  unfold results
  congr 2

theorem results_sound {P : Program} {g : Gh} {s : St} {w : World} {A : AAct} {tmps : Array Value} {fn : Func} {q : List AV} (h : resL P s A fn.results.toList = some q) (rel : Rel g s w) (htm : TmOk g w A.n A.tm tmps) :
    ∃ v, (results fn tmps).run P w = .ok v w ∧ Rep g w (packA q) v := by
  obtain ⟨vs, hrun, hvs⟩ := resL_sound rel htm h
  have hl := hvs.length
  have key : (results fn tmps).run P w = .ok (if h : vs.toArray.size = 1 then vs.toArray[0] else .tuple vs.toArray) w := by
    rw [results_eq, Array.mapM_eq_mapM_toList, Sem.run_bind]
    have : (List.toArray <$> fn.results.toList.mapM (resVar tmps)).run P w = .ok vs.toArray w := by
      simp [hrun]
    rw [this]
    rfl
  refine ⟨_, key, ?_⟩
  match q, vs, hvs, hl with
  | [a], [v], hvs, _ =>
    simp only [RepAll] at hvs
    obtain ⟨_, _, e, h1, _⟩ := hvs
    cases e
    simpa [packA] using h1
  | [], [], hvs, _ => simp only [packA, Rep]; exact ⟨[], rfl, hvs⟩
  | a :: b :: r, v1 :: v2 :: vr, hvs, _ =>
    have : packA (a :: b :: r) = .tuple (a :: b :: r) := rfl
    rw [this]
    simp only [Rep]
    exact ⟨v1 :: v2 :: vr, by simp, hvs⟩

/-! ### Leaving -/
def leavesA (E : Env) : List ADef → St → Option St
  | [], s => some s
  | .mark i :: r, s => match s.get i with
    | some .mark => leavesA E r (s.put i .gone)
    | _ => none
  | .call f _ :: r, s => if E.D f then leavesA E r s else none

theorem leaves_sound {E : Env} (hE : EnvOk E) {fn : Func} {tmps : Array Value} {R : Ending → World → Prop} : ∀ {l : List ADef} {ds : List Deferred} {g : Gh} {s s' : St} {w : World}, leavesA E l s = some s' → Rel g s w → DfOk g w l ds →
    (∀ g' w', Ext g w g' w' → Rel g' s' w' → ∃ v, (results fn tmps).run E.P w' = .ok v w' ∧ R (.returned v) w') → LeavesInM Fence.wide 0 E.P fn tmps R ds .returning w
  | [], ds, g, s, s', w, h, rel, hd, hK => by
    simp only [leavesA, Option.some.injEq] at h
    subst h
    simp only [DfOk] at hd
    subst hd
    exact hK g w (Ext.refl g w) rel
  | .mark i :: r, ds, g, s, s', w, h, rel, hd, hK => by
    simp only [leavesA] at h
    split at h
    · rename_i hi
      simp only [DfOk] at hd
      obtain ⟨q, rfl, hu, hq⟩ := hd
      obtain ⟨_, _, hb⟩ := rel.objs i _ hi
      have hb : w.heap[g.blk i]? = some (.deferred (some [])) := hb
      obtain ⟨q1, q2⟩ := put_but (o' := .deferred none) hb
      obtain ⟨ext, rel'⟩ := rel.write (o' := .gone) hi q1 ⟨_, q2⟩
      refine ⟨by simp, .inl ⟨g.blk i, _, rfl, ?_, leaves_sound hE h rel' (hq.ext ext) (fun g2 w2 e2 r2 => hK g2 w2 (ext.trans e2) r2)⟩⟩
      simp [Instr.takeDeferred, getObj, setObj, Sem.run, hb]
    · cases h
  | .call f args :: r, ds, g, s, s', w, h, rel, hd, hK => by
    simp only [leavesA] at h
    split at h
    · rename_i hD
      simp only [DfOk] at hd
      obtain ⟨cap, as, vs, q, rfl, he, hargs, hq⟩ := hd
      obtain ⟨hb, hdef⟩ := hE.defer f hD
      refine ⟨by simp, .inr ⟨(fun h => by cases h), .func f, cap, f, as ++ cap, rfl, ?_, fun _ _ => trivial, ?_⟩⟩
      · exact hasBody_run hE.names hb (as ++ cap) w
      · refine (hdef (as ++ cap) w).mono ?_
        rintro e u w' ⟨⟨v, rfl⟩, rfl, same⟩
        obtain ⟨ext, rel'⟩ := rel.same same
        exact leaves_sound hE h rel' (hq.ext ext) (fun g2 w2 e2 r2 => hK g2 w2 (ext.trans e2) r2)
    · cases h

/-! ### Entering -/
def Tr.ofList : Nat → List AV → Tr → Tr
  | _, [], t => t
  | k, v :: r, t => Tr.ofList (k + 1) r (t.set k v)

theorem Tr.ofList_get : ∀ (l : List AV) (k : Nat) (t : Tr) (j : Nat), k + l.length ≤ 65536 → j < 65536 → (Tr.ofList k l t).get j = if k ≤ j then (match l[j - k]? with | some v => v | none => t.get j) else t.get j
  | [], k, t, j, h, hj => by simp [Tr.ofList]
  | v :: r, k, t, j, h, hj => by
    simp only [List.length_cons] at h
    simp only [Tr.ofList]
    rw [Tr.ofList_get r (k + 1) _ j (by omega) hj]
    by_cases e : j = k
    · subst e
      have : ¬ j + 1 ≤ j := by omega
      simp [this, Tr.get_set hj hj]
    · rw [Tr.get_set (by omega) hj, if_neg e]
      by_cases hk : k ≤ j
      · have h1 : k + 1 ≤ j := by omega
        obtain ⟨d, rfl⟩ : ∃ d, j = k + 1 + d := ⟨j - (k + 1), by omega⟩
        have e1 : k + 1 + d - (k + 1) = d := by omega
        have e2 : k + 1 + d - k = d + 1 := by omega
        simp [h1, hk, e1, e2]
      · have h1 : ¬ k + 1 ≤ j := by omega
        simp [h1, hk]

theorem Tr.get_leaf (j : Nat) : Tr.get .leaf j = .val undef := Tr.getP_leaf _

theorem enter_tm {g : Gh} {w : World} {args : List AV} {vs : List Value} {N : Nat} (h : RepAll g w args vs) (hl : args.length ≤ N) (hN : N ≤ 65536) : TmOk g w N (Tr.ofList 0 args .leaf) (vs.toArray ++ Array.replicate (N - vs.toArray.size) undef) := by
  have hlen := h.length
  refine ⟨by simp; omega, fun k u hk => ?_⟩
  have hlt : k < N := by
    have := (Array.getElem?_eq_some_iff.1 hk).1
    simp at this
    omega
  rw [Tr.ofList_get args 0 .leaf k (by omega) (by omega)]
  simp only [Nat.zero_le, if_true, Nat.sub_zero, Tr.get_leaf]
  rw [Array.getElem?_append] at hk
  simp only [List.size_toArray] at hk
  split at hk
  · rename_i hkl
    have hv : vs[k]? = some u := by simpa using hk
    cases ha : args[k]? with
    | none => rw [List.getElem?_eq_none_iff] at ha; omega
    | some a =>
      obtain ⟨v', h1, h2⟩ := h.get ha
      rw [hv] at h1
      cases h1
      exact h2
  · rename_i hkl
    have : args[k]? = none := by rw [List.getElem?_eq_none_iff]; omega
    rw [this]
    have hu : u = undef := by
      have h1 : k - vs.length < N - vs.length := by omega
      simp [Array.getElem?_replicate, h1] at hk
      exact hk.symm
    subst hu
    simp [Rep]

end Go.Am

set_option linter.unusedVariables false
set_option linter.unusedSimpArgs false
/-!
  THE ABSTRACT MACHINE, part U: code, calls, rounds; the whole machine by fuel.
-/
namespace Go.Am
open Go Go.RowKit

inductive AExit where
  | normal
  | exit (id : Nat)
  | goto (l : Nat)
  | ret
  deriving Inhabited
def AExit.to : AExit → Exit
  | .normal => .normal
  | .exit id => .exit id
  | .goto l => .goto l
  | .ret => .ret

abbrev CodeR := Option (AExit × AAct × St)

structure RecX where
  r : Rec
  code : Bool → Code → AAct → St → CodeR
  loop : Bool → Code → AAct → St → CodeR

def CodeOk (E : Env) (code : Bool → Code → AAct → St → CodeR) : Prop :=
  ∀ rd c A s e A' s', code rd c A s = some (e, A', s') → ∀ (ro : Option Nat), (rd = false → ro = none) → ∀ (g : Gh) (w : World) (a : Act) (Q : Exit → Act → World → Prop), Rel g s w → GlobOk E.G g w → ActOk g w A a → OpK g w A' s' (Q e.to) → c.wpIn (FW ro) 0 E.P Q a w
def LoopOk (E : Env) (loop : Bool → Code → AAct → St → CodeR) : Prop :=
  ∀ rd c A s e A' s', loop rd c A s = some (e, A', s') → ∀ (ro : Option Nat), (rd = false → ro = none) → ∀ (g : Gh) (w : World) (a : Act) (Q : Exit → Act → World → Prop), Rel g s w → GlobOk E.G g w → ActOk g w A a → OpK g w A' s' (Q e.to) → LoopWp (FW ro) 0 E.P c Q a w

structure RecXOk (E : Env) (X : RecX) : Prop where
  r : RecOk E X.r
  code : CodeOk E X.code
  loop : LoopOk E X.loop

/-! ### Plans, made -/
def keysOf : Pend → List Nat
  | [] => []
  | (i, _) :: r => i :: keysOf r
def mkSch (cm : Oper → Bool) (ops : Array Oper) (n : Nat) : Nat → Pend → Sch
  | 0, _ => .done
  | k + 1, pend => match pickFirst cm ops n pend pend with
    | some i => .one i (mkSch cm ops n k (dropP i pend))
    | none => match readies n pend pend with
      | [] => .done
      | [i] => .alt i (mkSch cm ops n k (dropP i pend)) .stop
      | _ => .dp (keysOf pend)
/-- A plan without a choice. -/
def lone1 : Sch → Bool
  | .done => true
  | .stop => true
  | .one _ k => lone1 k
  | .alt _ k r => if isStop r then lone1 k else false
  | .dp _ => false
/-- Calls that do not leave the memory as it was. -/
def shutOp (O : FuncId → Bool) (o : Oper) : Bool :=
  match o.op with
  | .call c => match c.callee with
    | .value (.func f) => if O f then false else true
    | .value _ => false
    | _ => true
  | _ => true
def openAll (o : Oper) : Bool := false
/-- The plan of a region: calls may do what they like, if that leaves no choice; else all but those of O leave the memory as it was. -/
def planOf (O : FuncId → Bool) (ops : Array Oper) : (Oper → Bool) × Sch :=
  let p := mkSch openAll ops ops.size ops.size (mkPend 0 ops.toList)
  if lone1 p then (openAll, p) else (shutOp O, mkSch (shutOp O) ops ops.size ops.size (mkPend 0 ops.toList))
/-- A plan that has been looked at. -/
def goodPlan (O : FuncId → Bool) (ops : Array Oper) : Option ((Oper → Bool) × Sch) :=
  match planOf O ops with
  | (cm, p) => if chk cm ops ops.size p (mkPend 0 ops.toList) [] then some (cm, p) else none

/-! ### Code -/
def regionF (E : Env) (X : RecX) (rd : Bool) (ops : Array Oper) (draw : Bool) (A : AAct) (s : St) : Option (AAct × St) :=
  let B := s.next
  let s0 : St := { s with next := B + ops.size }
  if draw then
    match goodPlan E.O ops with
    | some (cm, p) => runS cm E X.r B ops.toList p A s0
    | none => none
  else evOps E X.r rd ops.toList B ops.toList A s0

def isBusy : LoopState → Bool
  | .busy => true
  | _ => false

def rangeF (E : Env) (X : RecX) (rd : Bool) (f : Operand) (ps : Array Tmp) (assign body : Code) (A : AAct) (s : St) : CodeR :=
  if rd then none else
  match evA E.G A f with
  | some (.func (.func k) first cap) => if hasBody E.P k then
      let im := s.next
      let il := im + 1
      if isNone (s.get im) then
        if isNone ((s.add im .mark).get il) then
          match X.r.call k (first ++ [.yield il] ++ cap) { (s.add im .mark).add il (.loop .ready none A.n A.tm ps assign body) with next := il + 1 } with
          | some (_, s2) => match s2.get il with
            | some (.loop st pend n tm ps' as bd) => if isBusy st then none else
                let s3 := s2.put il .gone
                let A' : AAct := { A with df := .mark im :: A.df }
                match pend with
                | none => some (.normal, A', s3)
                | some c => X.code rd c A' s3
            | _ => none
          | none => none
        else none
      else none
    else none
  | _ => none

def codeF (E : Env) (X : RecX) (rd : Bool) (c : Code) (A : AAct) (s : St) : CodeR :=
  match c with
  | .skip => some (.normal, A, s)
  | .label _ => some (.normal, A, s)
  | .exit id => some (.exit id, A, s)
  | .goto l => some (.goto l, A, s)
  | .ret => some (.ret, A, s)
  | .region _ ops draw => match regionF E X rd ops draw A s with
    | some (A', s') => some (.normal, A', s')
    | none => none
  | .seq x y => match X.code rd x A s with
    | some (e, A1, s1) => match e with
      | .normal => X.code rd y A1 s1
      | e => some (e, A1, s1)
    | none => none
  | .cond c x y => match evA E.G A c with
    | some (.val (.bool b)) => if b then X.code rd x A s else X.code rd y A s
    | _ => none
  | .block id b => match X.code rd b A s with
    | some (e, A1, s1) => match e with
      | .exit j => if Nat.beq j id then some (.normal, A1, s1) else some (.exit j, A1, s1)
      | e => some (e, A1, s1)
    | none => none
  | .loop b => X.loop rd b A s
  | .rangeFunc f ps assign body => rangeF E X rd f ps assign body A s
  | _ => none

def loopF (E : Env) (X : RecX) (rd : Bool) (b : Code) (A : AAct) (s : St) : CodeR :=
  match X.code rd b A s with
  | some (e, A1, s1) => match e with
    | .normal => X.loop rd b A1 s1
    | e => some (e, A1, s1)
  | none => none

def leftOk : AExit → Bool
  | .normal => true
  | .ret => true
  | _ => false

def callX (E : Env) (X : RecX) (f : FuncId) (args : List AV) (s : St) : Option (AV × St) :=
  match E.P.funcs[f]? with
  | some fn => match fn.body with
    | some c => if Nat.ble args.length fn.ntmps then (if Nat.ble fn.ntmps 65536 then
        match X.code false c { n := fn.ntmps, tm := Tr.ofList 0 args .leaf, df := [] } s with
        | some (e, A1, s1) => if leftOk e then
            match leavesA E A1.df s1 with
            | some s2 => match resL E.P s2 A1 fn.results.toList with
              | some q => some (packA q, s2)
              | none => none
            | none => none
          else none
        | none => none
      else none) else none
    | none => none
  | none => none

def setAll (n : Nat) : List Tmp → List AV → Tr → Option Tr
  | [], [], t => some t
  | p :: r, v :: q, t => if Nat.blt p n then setAll n r q (t.set p v) else none
  | _, _, _ => none

def endOf : AExit → Option Code
  | .normal => none
  | .ret => some .ret
  | .exit id => some (.exit id)
  | .goto l => some (.goto l)
def goesOn : AExit → Bool
  | .normal => true
  | _ => false

def roundX (E : Env) (X : RecX) (i : Nat) (args : List AV) (s : St) : Option (AV × St) :=
  match s.get i with
  | some (.loop st pend n tm ps assign body) => if Nat.ble n 65536 then
      match setAll n ps.toList args tm with
      | some tm' => match X.code true assign { n := n, tm := tm', df := [] } s with
        | some (e1, A1, s1) => if goesOn e1 then
            match s1.get i with
            | some (.loop .ready p2 n2 tm2 ps2 as2 bd2) =>
              match X.code true body A1 (s1.put i (.loop .busy p2 n2 tm2 ps2 as2 bd2)) with
              | some (e, A2, s3) => match s3.get i with
                | some (.loop st3 p3 n3 tm3 ps3 as3 bd3) => some (.val (.bool (goesOn e)), s3.put i (.loop (if goesOn e then .ready else .done) (endOf e) n3 tm3 ps3 as3 bd3))
                | _ => none
              | none => none
            | _ => none
          else none
        | none => none
      | none => none
    else none
  | _ => none

def evN (E : Env) : Nat → RecX
  | 0 => { r := { call := fun _ _ _ => none, round := fun _ _ _ => none }, code := fun _ _ _ _ => none, loop := fun _ _ _ _ => none }
  | n + 1 => { r := { call := callX E (evN E n), round := roundX E (evN E n) }, code := codeF E (evN E n), loop := loopF E (evN E n) }

/-! ### Soundness -/
theorem next_actOk {g : Gh} {w : World} {A : AAct} {a : Act} (h : ActOk g w A a) : ActOk g w A a := h

theorem regionF_sound {E : Env} (hE : EnvOk E) {X : RecX} (hX : RecXOk E X) {rd : Bool} {id : Nat} {ops : Array Oper} {draw : Bool} {ro : Option Nat} (hro : rd = false → ro = none) {Q : Exit → Act → World → Prop} {a : Act} {A A' : AAct} {g : Gh} {s s' : St} {w : World}
    (h : regionF E X rd ops draw A s = some (A', s')) (rel : Rel g s w) (glob : GlobOk E.G g w) (hA : ActOk g w A a) (hK : OpK g w A' s' (Q .normal)) : (Code.region id ops draw).wpIn (FW ro) 0 E.P Q a w := by
  unfold regionF at h
  cases draw with
  | true =>
    simp only [if_true] at h
    split at h
    · rename_i cm p hp
      unfold goodPlan at hp
      split at hp
      rename_i cm' p' hpl
      split at hp
      · rename_i hc
        cases hp
        exact drawn_sound hE hX.r hE.mixed hc h (rel.next _) glob hA hK
      · cases hp
    · cases h
  | false =>
    simp only [Bool.false_eq_true, if_false] at h
    exact region_sound hE hX.r hro h (rel.next _) glob hA hK

theorem getLoop_run {P : Program} {w : World} {l : Nat} {r : Loop} (h : w.heap[l]? = some (.loop r)) : (Instr.getLoop l).run P w = .ok r w := by
  simp [Instr.getLoop, getObj, Sem.run, h]
theorem setObj_run {P : Program} {w : World} {l : Nat} {r : Loop} (o : Obj) (h : w.heap[l]? = some (.loop r)) : (setObj l o).run P w = .ok () { w with heap := w.heap.setIfInBounds l o } := by
  simp [setObj, Sem.run, h]

theorem rangeF_sound {E : Env} (hE : EnvOk E) {X : RecX} (hX : RecXOk E X) {rd : Bool} {f : Operand} {ps : Array Tmp} {assign body : Code} {ro : Option Nat} (hro : rd = false → ro = none) {Q : Exit → Act → World → Prop} {a : Act} {A A' : AAct} {g : Gh} {s s' : St} {w : World} {e : AExit}
    (h : rangeF E X rd f ps assign body A s = some (e, A', s')) (rel : Rel g s w) (glob : GlobOk E.G g w) (hA : ActOk g w A a) (hK : OpK g w A' s' (Q e.to)) : (Code.rangeFunc f ps assign body).wpIn (FW ro) 0 E.P Q a w := by
  unfold rangeF at h
  split at h
  · cases h
  · rename_i hrd
    have hrd' : rd = false := by simpa using hrd
    have hro' := hro hrd'
    subst hro'
    split at h
    · rename_i k first cap hf
      split at h
      · rename_i hb
        simp only at h
        split at h
        · rename_i hn1
          split at h
          · rename_i hn2
            split at h
            · rename_i r2 s2 hcall
              split at h
              · rename_i st pend n tm ps' as bd hget
                split at h
                · cases h
                · rename_i hbusy
                  -- the world
                  have hrf := evA_ok glob hA f _ hf
                  simp only [Rep] at hrf
                  obtain ⟨fs, cs, hfv, hfs, hcs⟩ := hrf
                  have p1 : Push (.deferred (some [])) w (w.alloc (.deferred (some []))) := Push.of (Same.refl w) rfl
                  obtain ⟨ext1, rel1, hu1, hb1⟩ := rel.newObj (o := .mark) (isNone_of hn1) p1 rfl
                  refine wpIn_rangeFunc (fun fn _ => ?_)
                  obtain ⟨lp, hlp⟩ : ∃ lp : Loop, lp = { state := .ready, pending := none, fn := fn, tmps := a.tmps, params := ps, assign := assign, body := body, defers := w.heap.size } := ⟨_, rfl⟩
                  have p2 : Push (.loop lp) (w.alloc (.deferred (some []))) ((w.alloc (.deferred (some []))).alloc (.loop lp)) := Push.of (Same.refl _) rfl
                  obtain ⟨ext2, rel2, hu2, hb2⟩ := rel1.newObj (o := .loop .ready none A.n A.tm ps assign body) (isNone_of hn2) p2 ⟨fn, w.heap.size, a.tmps, by rw [hlp], hA.tm.ext ext1⟩
                  have ext12 := ext1.trans ext2
                  have hsz : (w.alloc (.deferred (some []))).heap.size = w.heap.size + 1 := p1.size
                  rw [hsz] at hb2 hu2 ext2 rel2 ext12
                  obtain ⟨yv, hyv⟩ : ∃ yv : Value, yv = .func (.yield (w.heap.size + 1)) #[] #[] := ⟨_, rfl⟩
                  refine ⟨w.heap.size + 1, [{ target := .collected w.heap.size, args := #[] }], (w.alloc (.deferred (some []))).alloc (.loop lp), { target := .fn (.func k) cs.toArray, args := fs.toArray ++ #[yv] }, (w.alloc (.deferred (some []))).alloc (.loop lp), k,
                    (fs ++ [yv] ++ cs).toArray, (w.alloc (.deferred (some []))).alloc (.loop lp), ?_, ?_, fun _ _ => trivial, ?_, (fun h => by cases h), ?_⟩
                  · show (Instr.enterLoop fn a.tmps ps assign body none).run E.P w = _
                    rw [hlp]
                    simp [Instr.enterLoop]
                  · rw [hyv]
                    have hm : ∀ (ρ : Operand → Value) (x : Operand), (#[x] : Array Operand).map ρ = #[ρ x] := fun ρ x => by simp
                    simp only [resolve, rangeCall, hm, hfv, Deferred.ofValue]
                    rfl
                  · have hrun := hasBody_run hE.names hb ((fs ++ [yv] ++ cs).toArray) ((w.alloc (.deferred (some []))).alloc (.loop lp))
                    have e1 : (fs.toArray ++ #[yv]) ++ cs.toArray = (fs ++ [yv] ++ cs).toArray := by apply Array.ext'; simp
                    show (callFunc k ((fs.toArray ++ #[yv]) ++ cs.toArray)).run E.P _ = _
                    rw [e1]
                    exact hrun
                  · have hargs : RepAll ((g.addObj s.next w.heap.size).addObj (s.next + 1) (w.heap.size + 1)) ((w.alloc (.deferred (some []))).alloc (.loop lp)) (first ++ [.yield (s.next + 1)] ++ cap) (fs ++ [yv] ++ cs) := by
                      refine ((RepAll.ext ext12 hfs).append ?_).append (RepAll.ext ext12 hcs)
                      simp only [RepAll, Rep]
                      exact ⟨yv, [], rfl, ⟨hu2, by rw [hyv, hb2]⟩, rfl⟩
                    have hc := hX.r.call k _ _ r2 s2 hcall _ _ _ (rel2.next _) (glob.ext ext12) hargs
                    refine (callsIn_FW hc).mono ?_
                    intro e' w3 he
                    cases e' with
                    | panicked c => exact he.elim
                    | outgrown => exact he.elim
                    | returned v =>
                      obtain ⟨g3, ext3, rel3, _⟩ := he
                      obtain ⟨hu3, _, fn3, d3, vs3, hb3, htm3⟩ := rel3.objs _ _ hget
                      have hbl : g3.blk (s.next + 1) = w.heap.size + 1 := (ext3.blk _ hu2).trans hb2
                      have hbm : g3.blk s.next = w.heap.size := (ext3.blk _ (ext2.use _ hu1)).trans ((ext2.blk _ hu1).trans hb1)
                      have hum : g3.use s.next := ext3.use _ (ext2.use _ hu1)
                      rw [hbl] at hb3
                      obtain ⟨q1, q2⟩ := put_but (o' := .loop { state := .exhausted, pending := pend, fn := fn3, tmps := vs3, params := ps', assign := as, body := bd, defers := d3 }) hb3
                      rw [← hbl] at q1 q2
                      obtain ⟨ext4, rel4⟩ := rel3.write (o' := .gone) hget q1 ⟨_, q2⟩
                      rw [hbl] at ext4 rel4
                      have extA := ext12.trans (ext3.trans ext4)
                      have hend : (Instr.endLoop (w.heap.size + 1)).run E.P w3 = .ok pend { w3 with heap := w3.heap.setIfInBounds (w.heap.size + 1) (.loop { state := .exhausted, pending := pend, fn := fn3, tmps := vs3, params := ps', assign := as, body := bd, defers := d3 }) } := by
                        have hst : (st == LoopState.busy) = false := by cases st <;> first | rfl | exact absurd rfl hbusy
                        simp only [Instr.endLoop, Sem.run_bind, getLoop_run hb3, Result.andThen_ok, hst, Bool.false_eq_true, if_false, setObj_run _ hb3, Sem.run_pure]
                      refine ⟨pend, _, hend, ?_⟩
                      have hA' : ActOk g3 { w3 with heap := w3.heap.setIfInBounds (w.heap.size + 1) (.loop { state := .exhausted, pending := pend, fn := fn3, tmps := vs3, params := ps', assign := as, body := bd, defers := d3 }) } { A with df := .mark s.next :: A.df }
                          { a with defers := [{ target := .collected w.heap.size, args := #[] }] ++ a.defers } := by
                        refine ⟨hA.tm.ext extA, hA.most, ?_⟩
                        simp only [DfOk]
                        exact ⟨a.defers, by rw [hbm]; rfl, hum, hA.df.ext extA⟩
                      cases pend with
                      | none =>
                        simp only [Option.some.injEq, Prod.mk.injEq] at h
                        obtain ⟨rfl, rfl, rfl⟩ := h
                        exact hK _ _ _ extA rel4 hA'
                      | some c =>
                        simp only at h
                        exact hX.code rd c _ _ e A' s' h none hro _ _ _ Q rel4 (glob.ext extA) hA' (fun g5 w5 a5 e5 r5 h5 => hK g5 w5 a5 (extA.trans e5) r5 h5)
              · cases h
            · cases h
          · cases h
        · cases h
      · cases h
    · cases h

end Go.Am
