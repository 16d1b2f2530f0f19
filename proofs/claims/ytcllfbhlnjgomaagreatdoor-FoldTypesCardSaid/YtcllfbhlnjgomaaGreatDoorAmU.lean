import Derived.Test.YtcllfbhlnjgomaaGreatDoorAmT
set_option linter.unusedVariables false
set_option linter.unusedSimpArgs false
/-!
  THE ABSTRACT MACHINE, part U: code, calls, rounds; the whole machine by fuel.
-/
namespace Go.Am
open Go Go.RowKit

inductive AExit where
  | normal
  | exit (id : Nat)
  | goto (l : Nat)
  | ret
  deriving Inhabited
def AExit.to : AExit → Exit
  | .normal => .normal
  | .exit id => .exit id
  | .goto l => .goto l
  | .ret => .ret

abbrev CodeR := Option (AExit × AAct × St)

structure RecX where
  r : Rec
  code : Bool → Code → AAct → St → CodeR
  loop : Bool → Code → AAct → St → CodeR

def CodeOk (E : Env) (code : Bool → Code → AAct → St → CodeR) : Prop :=
  ∀ rd c A s e A' s', code rd c A s = some (e, A', s') → ∀ (ro : Option Nat), (rd = false → ro = none) → ∀ (g : Gh) (w : World) (a : Act) (Q : Exit → Act → World → Prop), Rel g s w → GlobOk E.G g w → ActOk g w A a → OpK g w A' s' (Q e.to) → c.wpIn (FW ro) 0 E.P Q a w
def LoopOk (E : Env) (loop : Bool → Code → AAct → St → CodeR) : Prop :=
  ∀ rd c A s e A' s', loop rd c A s = some (e, A', s') → ∀ (ro : Option Nat), (rd = false → ro = none) → ∀ (g : Gh) (w : World) (a : Act) (Q : Exit → Act → World → Prop), Rel g s w → GlobOk E.G g w → ActOk g w A a → OpK g w A' s' (Q e.to) → LoopWp (FW ro) 0 E.P c Q a w

structure RecXOk (E : Env) (X : RecX) : Prop where
  r : RecOk E X.r
  code : CodeOk E X.code
  loop : LoopOk E X.loop
  codeS : ∀ rd c A s e A' s', X.code rd c A s = some (e, A', s') → Stat s s'
  loopS : ∀ rd c A s e A' s', X.loop rd c A s = some (e, A', s') → Stat s s'

/-! ### Plans, made -/
def keysOf : Pend → List Nat
  | [] => []
  | (i, _) :: r => i :: keysOf r
def mkSch (cm : Oper → Bool) (ops : Array Oper) (n : Nat) : Nat → Pend → Sch
  | 0, _ => .done
  | k + 1, pend => match pickFirst cm ops n pend pend with
    | some i => .one i (mkSch cm ops n k (dropP i pend))
    | none => match readies n pend pend with
      | [] => .done
      | [i] => .alt i (mkSch cm ops n k (dropP i pend)) .stop
      | _ => .dp (keysOf pend)
/-- A plan without a choice. -/
def lone1 : Sch → Bool
  | .done => true
  | .stop => true
  | .one _ k => lone1 k
  | .alt _ k r => if isStop r then lone1 k else false
  | .dp _ => false
/-- Calls that do not leave the memory as it was. -/
def shutOp (O : FuncId → Bool) (o : Oper) : Bool :=
  match o.op with
  | .call c => match c.callee with
    | .value (.func f) => if O f then false else true
    | .value _ => false
    | _ => true
  | _ => true
def openAll (o : Oper) : Bool := false
/-- The plan of a region: calls may do what they like, if that leaves no choice; else all but those of O leave the memory as it was. -/
def planOf (O : FuncId → Bool) (ops : Array Oper) : (Oper → Bool) × Sch :=
  let p := mkSch openAll ops ops.size ops.size (mkPend 0 ops.toList)
  if lone1 p then (openAll, p) else (shutOp O, mkSch (shutOp O) ops ops.size ops.size (mkPend 0 ops.toList))
/-- A plan that has been looked at. -/
def goodPlan (O : FuncId → Bool) (ops : Array Oper) : Option ((Oper → Bool) × Sch) :=
  match planOf O ops with
  | (cm, p) => if chk cm ops ops.size p (mkPend 0 ops.toList) [] then some (cm, p) else none

/-! ### Code -/
def regionF (E : Env) (X : RecX) (rd : Bool) (ops : Array Oper) (draw : Bool) (A : AAct) (s : St) : Option (AAct × St) :=
  let B := s.next
  let s0 : St := { s with next := B + ops.size }
  if draw then
    match goodPlan E.O ops with
    | some (cm, p) => runS cm E X.r B ops.toList p A s0
    | none => none
  else evOps E X.r rd ops.toList B ops.toList A s0

def isBusy : LoopState → Bool
  | .busy => true
  | _ => false

def rangeF (E : Env) (X : RecX) (rd : Bool) (f : Operand) (ps : Array Tmp) (assign body : Code) (A : AAct) (s : St) : CodeR :=
  if rd then none else
  match evA E.G A f with
  | some (.func (.func k) first cap) => if hasBody E.P k then
      let im := s.next
      let il := im + 1
      if isNone (s.get im) then
        if isNone ((s.add im .mark).get il) then
          match X.r.call k (first ++ [.yield il] ++ cap) { (s.add im .mark).add il (.loop .ready none A.n A.tm ps assign body) with next := il + 1 } with
          | some (_, s2) => match s2.get il with
            | some (.loop st pend n tm ps' as bd) => if isBusy st then none else
                let s3 := s2.put il .gone
                let A' : AAct := { A with df := .mark im :: A.df }
                match pend with
                | none => some (.normal, A', s3)
                | some c => X.code rd c A' s3
            | _ => none
          | none => none
        else none
      else none
    else none
  | _ => none

def codeF (E : Env) (X : RecX) (rd : Bool) (c : Code) (A : AAct) (s : St) : CodeR :=
  match c with
  | .skip => some (.normal, A, s)
  | .label _ => some (.normal, A, s)
  | .exit id => some (.exit id, A, s)
  | .goto l => some (.goto l, A, s)
  | .ret => some (.ret, A, s)
  | .region _ ops draw => match regionF E X rd ops draw A s with
    | some (A', s') => some (.normal, A', s')
    | none => none
  | .seq x y => match X.code rd x A s with
    | some (e, A1, s1) => match e with
      | .normal => X.code rd y A1 s1
      | e => some (e, A1, s1)
    | none => none
  | .cond c x y => match evA E.G A c with
    | some (.val (.bool b)) => if b then X.code rd x A s else X.code rd y A s
    | _ => none
  | .block id b => match X.code rd b A s with
    | some (e, A1, s1) => match e with
      | .exit j => if Nat.beq j id then some (.normal, A1, s1) else some (.exit j, A1, s1)
      | e => some (e, A1, s1)
    | none => none
  | .loop b => X.loop rd b A s
  | .rangeFunc f ps assign body => rangeF E X rd f ps assign body A s
  | _ => none

def loopF (E : Env) (X : RecX) (rd : Bool) (b : Code) (A : AAct) (s : St) : CodeR :=
  match X.code rd b A s with
  | some (e, A1, s1) => match e with
    | .normal => X.loop rd b A1 s1
    | e => some (e, A1, s1)
  | none => none

def leftOk : AExit → Bool
  | .normal => true
  | .ret => true
  | _ => false

def callX (E : Env) (X : RecX) (f : FuncId) (args : List AV) (s : St) : Option (AV × St) :=
  match E.P.funcs[f]? with
  | some fn => match fn.body with
    | some c => if Nat.ble args.length fn.ntmps then (if Nat.ble fn.ntmps 65536 then
        match X.code false c { n := fn.ntmps, tm := Tr.ofList 0 args .leaf, df := [] } s with
        | some (e, A1, s1) => if leftOk e then
            match leavesA E A1.df s1 with
            | some s2 => match resL E.P s2 A1 fn.results.toList with
              | some q => some (packA q, s2)
              | none => none
            | none => none
          else none
        | none => none
      else none) else none
    | none => none
  | none => none

def setAll (n : Nat) : List Tmp → List AV → Tr → Option Tr
  | [], [], t => some t
  | p :: r, v :: q, t => if Nat.blt p n then setAll n r q (t.set p v) else none
  | _, _, _ => none

def endOf : AExit → Option Code
  | .normal => none
  | .ret => some .ret
  | .exit id => some (.exit id)
  | .goto l => some (.goto l)
def goesOn : AExit → Bool
  | .normal => true
  | _ => false

def roundX (E : Env) (X : RecX) (i : Nat) (args : List AV) (s : St) : Option (AV × St) :=
  match s.get i with
  | some (.loop st pend n tm ps assign body) => if Nat.ble n 65536 then
      match setAll n ps.toList args tm with
      | some tm' => match X.code true assign { n := n, tm := tm', df := [] } s with
        | some (e1, A1, s1) => if goesOn e1 then
            match s1.get i with
            | some (.loop .ready p2 n2 tm2 ps2 as2 bd2) =>
              match X.code true body A1 (s1.put i (.loop .busy p2 n2 tm2 ps2 as2 bd2)) with
              | some (e, A2, s3) => match s3.get i with
                | some (.loop st3 p3 n3 tm3 ps3 as3 bd3) => some (.val (.bool (goesOn e)), s3.put i (.loop (if goesOn e then .ready else .done) (endOf e) n3 tm3 ps3 as3 bd3))
                | _ => none
              | none => none
            | _ => none
          else none
        | none => none
      | none => none
    else none
  | _ => none

def evN (E : Env) : Nat → RecX
  | 0 => { r := { call := fun _ _ _ => none, round := fun _ _ _ => none }, code := fun _ _ _ _ => none, loop := fun _ _ _ _ => none }
  | n + 1 => { r := { call := callX E (evN E n), round := roundX E (evN E n) }, code := codeF E (evN E n), loop := loopF E (evN E n) }

/-! ### The loops under way stay as they are -/
theorem leavesA_stat {E : Env} : ∀ {l : List ADef} {s s' : St}, leavesA E l s = some s' → Stat s s'
  | [], s, s', h => by cases h; exact Stat.refl _
  | .mark i :: r, s, s', h => by
    simp only [leavesA] at h
    split at h
    · rename_i hi
      exact (Stat.put hi rfl).trans (leavesA_stat h)
    · cases h
  | .call f _ :: r, s, s', h => by
    simp only [leavesA] at h
    split at h
    · exact leavesA_stat h
    · cases h
theorem regionF_stat {E : Env} {X : RecX} (hX : RecXOk E X) {rd : Bool} {ops : Array Oper} {draw : Bool} {A A' : AAct} {s s' : St} (h : regionF E X rd ops draw A s = some (A', s')) : Stat s s' := by
  unfold regionF at h
  have h0 := Stat.next s (s.next + ops.size)
  split at h
  · split at h
    · exact h0.trans (runS_stat hX.r _ h)
    · cases h
  · exact h0.trans (evOps_stat hX.r h)
theorem rangeF_stat {E : Env} {X : RecX} (hX : RecXOk E X) {rd : Bool} {f : Operand} {ps : Array Tmp} {as bd : Code} {A A' : AAct} {s s' : St} {e : AExit} (h : rangeF E X rd f ps as bd A s = some (e, A', s')) : Stat s s' := by
  unfold rangeF at h
  split at h
  · cases h
  · split at h
    · split at h
      · simp only at h
        split at h
        · split at h
          · rename_i hil
            have hil := isNone_of hil
            split at h
            · rename_i r s2 hc
              split at h
              · rename_i st pend n tm ps' as' bd' hget
                split at h
                · cases h
                · have key : Stat s (s2.put (s.next + 1) .gone) := fun k qs cs dd ⟨st1, p1, n1, tm1, e1⟩ => by
                    have e2 : (s2.put (s.next + 1) .gone).get k = if k = s.next + 1 then some .gone else s2.get k := lookL_putL hget k
                    rw [e2] at e1
                    split at e1
                    · cases e1
                    · rename_i hk
                      obtain ⟨st2, p2, n2, tm2, e3⟩ := hX.r.callS _ _ _ _ _ hc k qs cs dd ⟨st1, p1, n1, tm1, e1⟩
                      have e4 : (((s.add s.next .mark).add (s.next + 1) (.loop .ready none A.n A.tm ps as bd)).get k) = if k = s.next + 1 then some (.loop .ready none A.n A.tm ps as bd) else (s.add s.next .mark).get k := lookL_insL _ _ _ k
                      have e5 : (((s.add s.next .mark).add (s.next + 1) (.loop .ready none A.n A.tm ps as bd)).get k) = some (.loop st2 p2 n2 tm2 qs cs dd) := e3
                      rw [e4, if_neg hk] at e5
                      exact Stat.add (s := s) (i := s.next) (o := .mark) rfl k qs cs dd ⟨st2, p2, n2, tm2, e5⟩
                  split at h
                  · cases h; exact key
                  · exact key.trans (hX.codeS _ _ _ _ _ _ _ h)
              · cases h
            · cases h
          · cases h
        · cases h
      · cases h
    · cases h
theorem codeF_stat {E : Env} {X : RecX} (hX : RecXOk E X) {rd : Bool} {c : Code} {A A' : AAct} {s s' : St} {e : AExit} (h : codeF E X rd c A s = some (e, A', s')) : Stat s s' := by
  unfold codeF at h
  split at h
  · cases h; exact Stat.refl _
  · cases h; exact Stat.refl _
  · cases h; exact Stat.refl _
  · cases h; exact Stat.refl _
  · cases h; exact Stat.refl _
  · split at h
    · rename_i h1; cases h; exact regionF_stat hX h1
    · cases h
  · split at h
    · rename_i h1
      have k1 := hX.codeS _ _ _ _ _ _ _ h1
      split at h
      · exact k1.trans (hX.codeS _ _ _ _ _ _ _ h)
      · cases h; exact k1
    · cases h
  · split at h
    · split at h
      · exact hX.codeS _ _ _ _ _ _ _ h
      · exact hX.codeS _ _ _ _ _ _ _ h
    · cases h
  · split at h
    · rename_i h1
      have k1 := hX.codeS _ _ _ _ _ _ _ h1
      split at h
      · split at h
        · cases h; exact k1
        · cases h; exact k1
      · cases h; exact k1
    · cases h
  · exact hX.loopS _ _ _ _ _ _ _ h
  · exact rangeF_stat hX h
  · cases h
theorem loopF_stat {E : Env} {X : RecX} (hX : RecXOk E X) {rd : Bool} {c : Code} {A A' : AAct} {s s' : St} {e : AExit} (h : loopF E X rd c A s = some (e, A', s')) : Stat s s' := by
  unfold loopF at h
  split at h
  · rename_i h1
    have k1 := hX.codeS _ _ _ _ _ _ _ h1
    split at h
    · exact k1.trans (hX.loopS _ _ _ _ _ _ _ h)
    · cases h; exact k1
  · cases h
theorem callX_stat {E : Env} {X : RecX} (hX : RecXOk E X) {f : FuncId} {args : List AV} {s s' : St} {r : AV} (h : callX E X f args s = some (r, s')) : Stat s s' := by
  unfold callX at h
  split at h
  · split at h
    · split at h
      · split at h
        · split at h
          · rename_i h1
            have k1 := hX.codeS _ _ _ _ _ _ _ h1
            split at h
            · split at h
              · rename_i h2
                have k2 := leavesA_stat h2
                split at h
                · cases h; exact k1.trans k2
                · cases h
              · cases h
            · cases h
          · cases h
        · cases h
      · cases h
    · cases h
  · cases h
theorem roundX_stat {E : Env} {X : RecX} (hX : RecXOk E X) {i : Nat} {args : List AV} {s s' : St} {r : AV} (h : roundX E X i args s = some (r, s')) : Stat s s' := by
  unfold roundX at h
  split at h
  · split at h
    · split at h
      · split at h
        · rename_i h1
          have k1 := hX.codeS _ _ _ _ _ _ _ h1
          split at h
          · split at h
            · rename_i hg1
              split at h
              · rename_i h3
                have k3 := hX.codeS _ _ _ _ _ _ _ h3
                split at h
                · rename_i hg3
                  cases h
                  exact k1.trans ((Stat.put_loop hg1).trans (k3.trans (Stat.put_loop hg3)))
                · cases h
              · cases h
            · cases h
          · cases h
        · cases h
      · cases h
    · cases h
  · cases h

/-! ### Soundness -/
theorem next_actOk {g : Gh} {w : World} {A : AAct} {a : Act} (h : ActOk g w A a) : ActOk g w A a := h

theorem regionF_sound {E : Env} (hE : EnvOk E) {X : RecX} (hX : RecXOk E X) {rd : Bool} {id : Nat} {ops : Array Oper} {draw : Bool} {ro : Option Nat} (hro : rd = false → ro = none) {Q : Exit → Act → World → Prop} {a : Act} {A A' : AAct} {g : Gh} {s s' : St} {w : World}
    (h : regionF E X rd ops draw A s = some (A', s')) (rel : Rel g s w) (glob : GlobOk E.G g w) (hA : ActOk g w A a) (hK : OpK g w A' s' (Q .normal)) : (Code.region id ops draw).wpIn (FW ro) 0 E.P Q a w := by
  unfold regionF at h
  cases draw with
  | true =>
    simp only [if_true] at h
    split at h
    · rename_i cm p hp
      unfold goodPlan at hp
      split at hp
      rename_i cm' p' hpl
      split at hp
      · rename_i hc
        cases hp
        exact drawn_sound hE hX.r hE.mixed hc h (rel.next _) glob hA hK
      · cases hp
    · cases h
  | false =>
    simp only [Bool.false_eq_true, if_false] at h
    exact region_sound hE hX.r hro h (rel.next _) glob hA hK

theorem getLoop_run {P : Program} {w : World} {l : Nat} {r : Loop} (h : w.heap[l]? = some (.loop r)) : (Instr.getLoop l).run P w = .ok r w := by
  simp [Instr.getLoop, getObj, Sem.run, h]
theorem setObj_run {P : Program} {w : World} {l : Nat} {r : Loop} (o : Obj) (h : w.heap[l]? = some (.loop r)) : (setObj l o).run P w = .ok () { w with heap := w.heap.setIfInBounds l o } := by
  simp [setObj, Sem.run, h]

theorem rangeF_sound {E : Env} (hE : EnvOk E) {X : RecX} (hX : RecXOk E X) {rd : Bool} {f : Operand} {ps : Array Tmp} {assign body : Code} {ro : Option Nat} (hro : rd = false → ro = none) {Q : Exit → Act → World → Prop} {a : Act} {A A' : AAct} {g : Gh} {s s' : St} {w : World} {e : AExit}
    (h : rangeF E X rd f ps assign body A s = some (e, A', s')) (rel : Rel g s w) (glob : GlobOk E.G g w) (hA : ActOk g w A a) (hK : OpK g w A' s' (Q e.to)) : (Code.rangeFunc f ps assign body).wpIn (FW ro) 0 E.P Q a w := by
  unfold rangeF at h
  split at h
  · cases h
  · rename_i hrd
    have hrd' : rd = false := by simpa using hrd
    have hro' := hro hrd'
    subst hro'
    split at h
    · rename_i k first cap hf
      split at h
      · rename_i hb
        simp only at h
        split at h
        · rename_i hn1
          split at h
          · rename_i hn2
            split at h
            · rename_i r2 s2 hcall
              split at h
              · rename_i st pend n tm ps' as bd hget
                split at h
                · cases h
                · rename_i hbusy
                  -- the world
                  have hrf := evA_ok glob hA f _ hf
                  simp only [Rep] at hrf
                  obtain ⟨fs, cs, hfv, hfs, hcs⟩ := hrf
                  have p1 : Push (.deferred (some [])) w (w.alloc (.deferred (some []))) := Push.of (Same.refl w) rfl
                  obtain ⟨ext1, rel1, hu1, hb1⟩ := rel.newObj (o := .mark) (isNone_of hn1) p1 rfl
                  refine wpIn_rangeFunc (fun fn _ => ?_)
                  obtain ⟨lp, hlp⟩ : ∃ lp : Loop, lp = { state := .ready, pending := none, fn := fn, tmps := a.tmps, params := ps, assign := assign, body := body, defers := w.heap.size } := ⟨_, rfl⟩
                  have p2 : Push (.loop lp) (w.alloc (.deferred (some []))) ((w.alloc (.deferred (some []))).alloc (.loop lp)) := Push.of (Same.refl _) rfl
                  obtain ⟨ext2, rel2, hu2, hb2⟩ := rel1.newObj (o := .loop .ready none A.n A.tm ps assign body) (isNone_of hn2) p2 ⟨fn, w.heap.size, a.tmps, by rw [hlp], hA.tm.ext ext1⟩
                  have ext12 := ext1.trans ext2
                  have hsz : (w.alloc (.deferred (some []))).heap.size = w.heap.size + 1 := p1.size
                  rw [hsz] at hb2 hu2 ext2 rel2 ext12
                  obtain ⟨yv, hyv⟩ : ∃ yv : Value, yv = .func (.yield (w.heap.size + 1)) #[] #[] := ⟨_, rfl⟩
                  refine ⟨w.heap.size + 1, [{ target := .collected w.heap.size, args := #[] }], (w.alloc (.deferred (some []))).alloc (.loop lp), { target := .fn (.func k) cs.toArray, args := fs.toArray ++ #[yv] }, (w.alloc (.deferred (some []))).alloc (.loop lp), k,
                    (fs ++ [yv] ++ cs).toArray, (w.alloc (.deferred (some []))).alloc (.loop lp), ?_, ?_, fun _ _ => trivial, ?_, (fun h => by cases h), ?_⟩
                  · show (Instr.enterLoop fn a.tmps ps assign body none).run E.P w = _
                    rw [hlp]
                    simp [Instr.enterLoop]
                  · rw [hyv]
                    have hm : ∀ (ρ : Operand → Value) (x : Operand), (#[x] : Array Operand).map ρ = #[ρ x] := fun ρ x => by simp
                    simp only [resolve, rangeCall, hm, hfv, Deferred.ofValue]
                    rfl
                  · have hrun := hasBody_run hE.names hb ((fs ++ [yv] ++ cs).toArray) ((w.alloc (.deferred (some []))).alloc (.loop lp))
                    have e1 : (fs.toArray ++ #[yv]) ++ cs.toArray = (fs ++ [yv] ++ cs).toArray := by apply Array.ext'; simp
                    show (callFunc k ((fs.toArray ++ #[yv]) ++ cs.toArray)).run E.P _ = _
                    rw [e1]
                    exact hrun
                  · have hargs : RepAll ((g.addObj s.next w.heap.size).addObj (s.next + 1) (w.heap.size + 1)) ((w.alloc (.deferred (some []))).alloc (.loop lp)) (first ++ [.yield (s.next + 1)] ++ cap) (fs ++ [yv] ++ cs) := by
                      refine ((RepAll.ext ext12 hfs).append ?_).append (RepAll.ext ext12 hcs)
                      simp only [RepAll, Rep]
                      exact ⟨yv, [], rfl, ⟨hu2, by rw [hyv, hb2]⟩, rfl⟩
                    have hc := hX.r.call k _ _ r2 s2 hcall _ _ _ (rel2.next _) (glob.ext ext12) hargs
                    refine (callsIn_FW hc).mono ?_
                    intro e' w3 he
                    cases e' with
                    | panicked c => exact he.elim
                    | outgrown => exact he.elim
                    | returned v =>
                      obtain ⟨g3, ext3, rel3, _⟩ := he
                      obtain ⟨hu3, _, fn3, d3, vs3, hb3, htm3⟩ := rel3.objs _ _ hget
                      have hbl : g3.blk (s.next + 1) = w.heap.size + 1 := (ext3.blk _ hu2).trans hb2
                      have hbm : g3.blk s.next = w.heap.size := (ext3.blk _ (ext2.use _ hu1)).trans ((ext2.blk _ hu1).trans hb1)
                      have hum : g3.use s.next := ext3.use _ (ext2.use _ hu1)
                      rw [hbl] at hb3
                      obtain ⟨q1, q2⟩ := put_but (o' := .loop { state := .exhausted, pending := pend, fn := fn3, tmps := vs3, params := ps', assign := as, body := bd, defers := d3 }) hb3
                      rw [← hbl] at q1 q2
                      obtain ⟨ext4, rel4⟩ := rel3.write (o' := .gone) hget q1 ⟨_, q2⟩
                      rw [hbl] at ext4 rel4
                      have extA := ext12.trans (ext3.trans ext4)
                      have hend : (Instr.endLoop (w.heap.size + 1)).run E.P w3 = .ok pend { w3 with heap := w3.heap.setIfInBounds (w.heap.size + 1) (.loop { state := .exhausted, pending := pend, fn := fn3, tmps := vs3, params := ps', assign := as, body := bd, defers := d3 }) } := by
                        have hst : (st == LoopState.busy) = false := by cases st <;> first | rfl | exact absurd rfl hbusy
                        simp only [Instr.endLoop, Sem.run_bind, getLoop_run hb3, Result.andThen_ok, hst, Bool.false_eq_true, if_false, setObj_run _ hb3, Sem.run_pure]
                      refine ⟨pend, _, hend, ?_⟩
                      have hA' : ActOk g3 { w3 with heap := w3.heap.setIfInBounds (w.heap.size + 1) (.loop { state := .exhausted, pending := pend, fn := fn3, tmps := vs3, params := ps', assign := as, body := bd, defers := d3 }) } { A with df := .mark s.next :: A.df }
                          { a with defers := [{ target := .collected w.heap.size, args := #[] }] ++ a.defers } := by
                        refine ⟨hA.tm.ext extA, hA.most, ?_⟩
                        simp only [DfOk]
                        exact ⟨a.defers, by rw [hbm]; rfl, hum, hA.df.ext extA⟩
                      cases pend with
                      | none =>
                        simp only [Option.some.injEq, Prod.mk.injEq] at h
                        obtain ⟨rfl, rfl, rfl⟩ := h
                        exact hK _ _ _ extA rel4 hA'
                      | some c =>
                        simp only at h
                        exact hX.code rd c _ _ e A' s' h none hro _ _ _ Q rel4 (glob.ext extA) hA' (fun g5 w5 a5 e5 r5 h5 => hK g5 w5 a5 (extA.trans e5) r5 h5)
              · cases h
            · cases h
          · cases h
        · cases h
      · cases h
    · cases h

end Go.Am
