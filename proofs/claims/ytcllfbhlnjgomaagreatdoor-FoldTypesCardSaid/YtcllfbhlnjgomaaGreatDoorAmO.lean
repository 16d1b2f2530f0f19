import Derived.Test.YtcllfbhlnjgomaaGreatDoorAmN
import Derived.RangeFuncLeaves
set_option linter.unusedVariables false
set_option linter.unusedSimpArgs false
/-!
  THE ABSTRACT MACHINE, part O: activations; calls.
-/
namespace Go.Am
open Go Go.RowKit

def FW (ro : Option Nat) : Fence := { Fence.wide with round := ro }

theorem callsIn_FW {ro : Option Nat} {n : Nat} {P : Program} {f : FuncId} {args : Array Value} {w : World} {R : Ending → World → Prop} (h : CallsIn Fence.wide 0 P f args w R) : CallsIn (FW ro) n P f args w R :=
  ⟨trivial, fun cs _ => h.2 cs (room_wide _)⟩
theorem roundIn_FW {ro : Option Nat} {n : Nat} {P : Program} {l : Nat} {f : FuncId} {tmps : Array Value} {assign body : Code} {w : World} {R : Ending → World → Prop} (h : RoundIn Fence.wide 0 P l f tmps assign body w R) : RoundIn (FW ro) n P l f tmps assign body w R :=
  ⟨trivial, fun c cs _ => h.2 c cs (room_wide _)⟩

/-- The package-level variables that are laid. -/
def GlobOk (G : Nat → Option AV) (g : Gh) (w : World) : Prop := ∀ i a, G i = some a → Rep g w a (.pointer (some ⟨i, 0, none⟩))
theorem GlobOk.ext {G : Nat → Option AV} {g g' : Gh} {w w' : World} (h : GlobOk G g w) (e : Ext g w g' w') : GlobOk G g' w' := fun i a hi => (h i a hi).ext e

inductive ADef where
  | mark (i : Nat)
  | call (f : FuncId) (args : List AV)
  deriving Inhabited

structure AAct where
  n : Nat
  tm : Tr
  df : List ADef
  deriving Inhabited

def DfOk (g : Gh) (w : World) : List ADef → List Deferred → Prop
  | [], ds => ds = []
  | .mark i :: r, ds => ∃ q, ds = { target := .collected (g.blk i), args := #[] } :: q ∧ g.use i ∧ DfOk g w r q
  | .call f args :: r, ds => ∃ cap as vs q, ds = { target := .fn (.func f) cap, args := as } :: q ∧ as ++ cap = vs.toArray ∧ RepAll g w args vs ∧ DfOk g w r q

theorem DfOk.ext {g g' : Gh} {w w' : World} (e : Ext g w g' w') : ∀ {l : List ADef} {ds : List Deferred}, DfOk g w l ds → DfOk g' w' l ds
  | [], ds, h => h
  | .mark i :: r, ds, h => by
    simp only [DfOk] at h ⊢
    obtain ⟨q, h1, h2, h3⟩ := h
    exact ⟨q, by rw [e.blk i h2]; exact h1, e.use i h2, DfOk.ext e h3⟩
  | .call f args :: r, ds, h => by
    simp only [DfOk] at h ⊢
    obtain ⟨cap, as, vs, q, h1, h2, h3, h4⟩ := h
    exact ⟨cap, as, vs, q, h1, h2, RepAll.ext e h3, DfOk.ext e h4⟩

structure ActOk (g : Gh) (w : World) (A : AAct) (a : Act) : Prop where
  tm : TmOk g w A.n A.tm a.tmps
  most : A.n ≤ 65536
  df : DfOk g w A.df a.defers

theorem ActOk.ext {g g' : Gh} {w w' : World} {A : AAct} {a : Act} (h : ActOk g w A a) (e : Ext g w g' w') : ActOk g' w' A a := ⟨h.tm.ext e, h.most, h.df.ext e⟩

def evA (G : Nat → Option AV) (A : AAct) : Operand → Option AV
  | .tmp t => if Nat.blt t A.n then some (A.tm.get t) else none
  | .const v => some (ofVal v)
  | .global i => G i
  | .func f => some (.func (.func f) [] [])

theorem evA_ok {G : Nat → Option AV} {g : Gh} {w : World} {A : AAct} {a : Act} (hG : GlobOk G g w) (h : ActOk g w A a) : EvOk g w (evA G A) a.eval := fun x r hx => by
  cases x with
  | tmp t =>
    simp only [evA] at hx
    split at hx
    · rename_i hlt
      have hlt := blt_lt hlt
      cases hx
      have hs : t < a.tmps.size := by rw [h.tm.1]; exact hlt
      have := h.tm.2 t a.tmps[t] (by simp [hs])
      simpa [Act.eval, Array.getD, hs] using this
    · cases hx
  | const v => simp only [evA, Option.some.injEq] at hx; subst hx; exact ofVal_rep g w v
  | global i => exact hG i r hx
  | func f =>
    simp only [evA, Option.some.injEq] at hx
    subst hx
    simp only [Rep, Act.eval]
    exact ⟨[], [], rfl, rfl, rfl⟩

def AAct.put (A : AAct) (d : Option Tmp) (r : AV) : Option AAct :=
  match d with
  | some d => if Nat.blt d A.n then some { A with tm := A.tm.set d r } else none
  | none => some A

theorem ActOk.put {g : Gh} {w : World} {A A' : AAct} {a : Act} {d : Option Tmp} {r : AV} {v : Value} (h : ActOk g w A a) (hp : A.put d r = some A') (hr : Rep g w r v) : ActOk g w A' (a.put d v) := by
  unfold AAct.put at hp
  split at hp
  · split at hp
    · rename_i d hlt
      cases hp
      exact ⟨h.tm.set h.most (blt_lt hlt) hr, h.most, h.df⟩
    · cases hp
  · cases hp; exact h

/-- What a call leaves. -/
def Ret (g : Gh) (w : World) (r : AV) (s' : St) : Ending → World → Prop
  | .returned v, w' => ∃ g', Ext g w g' w' ∧ Rel g' s' w' ∧ Rep g' w' r v
  | _, _ => False

def CallOk (P : Program) (G : Nat → Option AV) (call : FuncId → List AV → St → Option (AV × St)) : Prop :=
  ∀ f args s r s', call f args s = some (r, s') → ∀ g w vs, Rel g s w → GlobOk G g w → RepAll g w args vs → CallsIn Fence.wide 0 P f vs.toArray w (Ret g w r s')

def RoundOk (P : Program) (G : Nat → Option AV) (round : Nat → List AV → St → Option (AV × St)) : Prop :=
  ∀ i args s r s', round i args s = some (r, s') → ∀ g w vs, Rel g s w → GlobOk G g w → RepAll g w args vs → g.use i →
    ∃ f tmps assign body, (Instr.yield (g.blk i) vs.toArray).run P w = .ok (.round (g.blk i) f tmps assign body) w ∧ RoundIn Fence.wide 0 P (g.blk i) f tmps assign body w (Ret g w r s')

/-! ### Which function is called -/
def NamesOk (P : Program) : Prop := ∀ (f : FuncId) (fn : Func), P.funcs[f]? = some fn → fn.body.isSome = true → (fn.name == "runtime.NumGoroutine") = false

theorem run_callFunc {P : Program} {f : FuncId} {fn : Func} (hN : NamesOk P) (hf : P.funcs[f]? = some fn) (hb : fn.body.isSome = true) (args : Array Value) (w : World) : (callFunc f args).run P w = .ok (.enter f args) w := by
  have h1 := hN f fn hf hb
  have h2 : fn.body.isNone = false := by cases h : fn.body <;> simp_all
  simp only [callFunc, Sem.run_bind, program, Sem.run, Result.andThen_ok, hf, h1, h2]
  simp

def hasBody (P : Program) (f : FuncId) : Bool :=
  match P.funcs[f]? with
  | some fn => match fn.body with
    | some _ => true
    | none => false
  | none => false
theorem hasBody_run {P : Program} {f : FuncId} (hN : NamesOk P) (h : hasBody P f = true) (args : Array Value) (w : World) : (callFunc f args).run P w = .ok (.enter f args) w := by
  unfold hasBody at h
  split at h
  · rename_i fn hf
    split at h
    · rename_i c hb
      exact run_callFunc hN hf (by rw [hb]; rfl) args w
    · cases h
  · cases h

def methodA (P : Program) (t : TypeId) (name : String) : Option FuncId :=
  match P.info? t with
  | some i => match i.methods.toList.find? (·.name == name) with
    | some m => match m.path.toList with
      | [] => match m.func with
        | some (f, pr) => match P.underlying t with
          | some (.pointer _) => if pr then some f else none
          | some _ => if pr then none else some f
          | none => none
        | none => none
      | _ => none
    | none => none
  | none => none

theorem run_method {P : Program} {t : TypeId} {name : String} {f : FuncId} (h : methodA P t name = some f) (v : Value) (n : Nat) (w : World) : (method (n + 1) t v name).run P w = .ok (f, v) w := by
  unfold methodA at h
  split at h
  · rename_i i hi
    split at h
    · rename_i m hm
      split at h
      · rename_i hp
        split at h
        · rename_i f' pr hfn
          have hm' : i.methods.find? (·.name == name) = some m := by rw [← Array.find?_toList]; exact hm
          split at h
          · rename_i e hu
            split at h
            · rename_i hpr
              cases h
              simp [method, typeInfo, hi, hm', hp, follow, hfn, receiverAt, run_underlying hu, hpr, Place.get]
            · cases h
          · rename_i d hne hu
            split at h
            · cases h
            · rename_i hpr
              cases h
              have hpr : pr = false := by simpa using hpr
              cases d <;> first
                | (exact absurd rfl (hne _))
                | simp [method, typeInfo, hi, hm', hp, follow, hfn, receiverAt, run_underlying hu, hpr, Place.get]
          · cases h
        · cases h
      · cases h
    · cases h
  · cases h

/-- The receiver by a promoted method: a pointer to an embedded struct. -/
def stepA (P : Program) (st : FieldStep) (v : AV) : Option (TypeId × AV) :=
  if st.deref then
    match P.underlying st.struct with
    | some (.struct fs) => match fs[st.index]? with
      | some f => match szOf P f.type with
        | some (_ + 1) => match v with
          | .ptr i off => some (f.type, .ptr i (off + f.offset))
          | .rptr cs off => some (f.type, .rptr cs (off + f.offset))
          | _ => none
        | _ => none
      | none => none
    | _ => none
  else none
def methodP (P : Program) (t : TypeId) (name : String) (v : AV) : Option (FuncId × AV) :=
  match P.info? t with
  | some i => match i.methods.toList.find? (·.name == name) with
    | some m => match m.path.toList with
      | [st] => match stepA P st v with
        | some (ft, u) => match m.func with
          | some (f, pr) => match P.underlying ft with
            | some (.pointer _) => none
            | some _ => if pr then some (f, u) else none
            | none => none
          | none => none
        | none => none
      | _ => none
    | none => none
  | none => none
def methodV (P : Program) (t : TypeId) (name : String) (v : AV) : Option (FuncId × AV) :=
  match methodA P t name with
  | some f => some (f, v)
  | none => methodP P t name v

theorem run_methodP {P : Program} {g : Gh} {w : World} {t : TypeId} {name : String} {v r : AV} {u : Value} {k : FuncId} (h : methodP P t name v = some (k, r)) (hr : Rep g w v u) (n : Nat) : ∃ u', (method (n + 1) t u name).run P w = .ok (k, u') w ∧ Rep g w r u' := by
  unfold methodP at h
  split at h
  · rename_i i hi
    split at h
    · rename_i m hm
      split at h
      · rename_i st hp
        split at h
        · rename_i ft q hst
          split at h
          · rename_i f' pr hfn
            have hm' : i.methods.find? (·.name == name) = some m := by rw [← Array.find?_toList]; exact hm
            have hne : m.path.isEmpty = false := by
              have : m.path = #[st] := by apply Array.ext'; rw [hp]
              rw [this]; rfl
            -- the road
            have road : ∃ b o d fs f, st.deref = true ∧ P.underlying st.struct = some (.struct fs) ∧ fs[st.index]? = some f ∧ ft = f.type ∧ szOf P f.type = some (d + 1) ∧ u = .pointer (some ⟨b, o, none⟩) ∧ Rep g w q (.pointer (some ⟨b, o + f.offset, none⟩)) := by
              unfold stepA at hst
              split at hst
              · rename_i hd
                split at hst
                · rename_i fs hu
                  split at hst
                  · rename_i f hf
                    split at hst
                    · rename_i d hsz
                      split at hst
                      · cases hst
                        simp only [Rep] at hr
                        exact ⟨_, _, d, fs, f, hd, hu, hf, rfl, hsz, hr.2, by simp only [Rep]; exact ⟨hr.1, trivial⟩⟩
                      · cases hst
                        simp only [Rep] at hr
                        obtain ⟨b, o, vs, h1, h2, h3⟩ := hr
                        exact ⟨_, _, d, fs, f, hd, hu, hf, rfl, hsz, h1, by simp only [Rep]; exact ⟨b, o, vs, by rw [Nat.add_assoc], h2, h3⟩⟩
                      · cases hst
                    · cases hst
                  · cases hst
                · cases hst
              · cases hst
            obtain ⟨b, o, d, fs, f, hd, hu, hf, rfl, hsz, rfl, hq⟩ := road
            have hpl := yld_fieldPlace (P := P) (b := b) (o := o) hsz w
            split at h
            · cases h
            · rename_i dsc hne2 hu2
              split at h
              · rename_i hpr
                cases h
                subst hpr
                refine ⟨_, ?_, hq⟩
                simp only [method, Sem.run_bind, typeInfo, program, Sem.run, Result.andThen_ok, hi, hm', hp, follow, run_underlying hu, hf, hd, if_true, Place.get, Sem.run_pure, asAddr, hpl, hfn, hne, receiverAt, run_underlying hu2]
                all_goals (cases dsc <;> first
                  | (exact absurd rfl (hne2 _))
                  | simp)
              · cases h
            · cases h
          · cases h
        · cases h
      · cases h
    · cases h
  · cases h

theorem run_methodV {P : Program} {g : Gh} {w : World} {t : TypeId} {name : String} {v r : AV} {u : Value} {k : FuncId} (h : methodV P t name v = some (k, r)) (hr : Rep g w v u) (n : Nat) : ∃ u', (method (n + 1) t u name).run P w = .ok (k, u') w ∧ Rep g w r u' := by
  unfold methodV at h
  split at h
  · rename_i f hf
    cases h
    exact ⟨u, run_method hf u n w, hr⟩
  · exact run_methodP h hr n

/-- What is called, with what. -/
def resolveA (P : Program) (ev : Operand → Option AV) (c : Call) : Option (AV × List AV) :=
  match evList ev c.args.toList with
  | some args => match c.callee with
    | .value f => match ev f with
      | some (.func (.func k) first cap) => if hasBody P k then some (.func (.func k) [] [], first ++ args ++ cap) else none
      | some (.yield l) => some (.yield l, args)
      | _ => none
    | .invoke x name => match ev x with
      | some (.iface t v) => match methodV P t name v with
        | some (k, v) => if hasBody P k then some (.func (.func k) [] [], v :: args) else none
        | none => none
      | _ => none
    | .builtin _ => none
  | none => none

theorem resolve_sound {P : Program} {g : Gh} {w : World} {ev : Operand → Option AV} {ρ : Operand → Value} {o : Oper} {c : Call} {fv : AV} {args : List AV} (hN : NamesOk P) (ho : o.op = .call c) (h : resolveA P ev c = some (fv, args)) (hev : EvOk g w ev ρ) :
    (∃ k vs, fv = .func (.func k) [] [] ∧ RepAll g w args vs ∧ (execOp ρ o).run P w = .ok (.enter k vs.toArray) w) ∨
    (∃ l vs, fv = .yield l ∧ g.use l ∧ RepAll g w args vs ∧ execOp ρ o = Instr.yield (g.blk l) vs.toArray) := by
  unfold resolveA at h
  split at h
  · rename_i as has
    have hargs := evList_rep hev has
    have harr : c.args.map ρ = (c.args.toList.map ρ).toArray := by apply Array.ext'; simp
    split at h
    · rename_i f hc
      split at h
      · rename_i k first cap hf
        split at h
        · rename_i hb
          cases h
          have hr := hev _ _ hf
          simp only [Rep] at hr
          obtain ⟨fs, cs, h1, h2, h3⟩ := hr
          refine .inl ⟨k, fs ++ c.args.toList.map ρ ++ cs, rfl, (h2.append hargs).append h3, ?_⟩
          have hrun := hasBody_run hN hb ((fs ++ c.args.toList.map ρ ++ cs).toArray) w
          have e1 : (fs.toArray ++ (c.args.toList.map ρ).toArray ++ cs.toArray) = (fs ++ c.args.toList.map ρ ++ cs).toArray := by apply Array.ext'; simp
          simp only [execOp, ho, resolve, hc, harr, h1, Deferred.ofValue, Sem.run_bind, Sem.run_pure, Result.andThen_ok, invoke]
          rw [e1]
          exact hrun
        · cases h
      · rename_i l hf
        cases h
        have hr := hev _ _ hf
        simp only [Rep] at hr
        obtain ⟨h1, h2⟩ := hr
        refine .inr ⟨l, c.args.toList.map ρ, rfl, h1, hargs, ?_⟩
        simp only [execOp, ho, resolve, hc, harr, h2, Deferred.ofValue]
        show (invoke (.fn (.yield (g.blk l)) #[]) (#[] ++ (c.args.toList.map ρ).toArray)) = _
        simp [invoke]
      · cases h
    · rename_i x name hc
      split at h
      · rename_i t v hx
        split at h
        · rename_i k vq hk
          split at h
          · rename_i hb
            cases h
            have hr := hev _ _ hx
            simp only [Rep] at hr
            obtain ⟨u, h1, h2⟩ := hr
            obtain ⟨u', hm, h2'⟩ := run_methodV hk h2 (P.types.size + Made.depth - 1)
            refine .inl ⟨k, u' :: c.args.toList.map ρ, rfl, by simp only [RepAll]; exact ⟨u', _, rfl, h2', hargs⟩, ?_⟩
            have hrun := hasBody_run hN hb ((u' :: c.args.toList.map ρ).toArray) w
            have hd : P.types.size + Made.depth - 1 + 1 = P.types.size + Made.depth := by
              have : 0 < Made.depth := by decide
              omega
            rw [hd] at hm
            have e1 : (#[u'] ++ (c.args.toList.map ρ).toArray) = (u' :: c.args.toList.map ρ).toArray := by apply Array.ext'; simp
            have e2 : ((#[Value.iface t u] ++ (c.args.toList.map ρ).toArray).extract 1 (#[Value.iface t u] ++ (c.args.toList.map ρ).toArray).size) = (c.args.toList.map ρ).toArray := by
              apply Array.ext'
              simp
              exact List.take_of_length_le (by simp)
            have e3 : (#[Value.iface t u] ++ (c.args.toList.map ρ).toArray)[0]? = some (.iface t u) := by simp
            simp only [execOp, ho, resolve, hc, harr, h1, Sem.run_bind, Sem.run_pure, Result.andThen_ok, invoke, e2, e3, callMethod, program, Sem.run, hm]
            rw [e1]
            exact hrun
          · cases h
        · cases h
      · cases h
    · cases h
  · cases h

end Go.Am
