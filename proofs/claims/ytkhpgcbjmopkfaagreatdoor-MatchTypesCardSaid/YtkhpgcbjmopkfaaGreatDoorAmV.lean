import Derived.Test.YtkhpgcbjmopkfaaGreatDoorAmU
set_option linter.unusedVariables false
set_option linter.unusedSimpArgs false
/-!
  THE ABSTRACT MACHINE, part V: the whole machine is sound.
-/
namespace Go.Am
open Go Go.RowKit

theorem then_normal {K : Act → World → Prop} {Q : Exit → Act → World → Prop} {g : Gh} {w : World} {A : AAct} {s : St} (h : OpK g w A s K) : OpK g w A s (Exit.then K Q AExit.normal.to) := h
theorem then_other {K : Act → World → Prop} {Q : Exit → Act → World → Prop} {g : Gh} {w : World} {A : AAct} {s : St} {e : AExit} (he : e ≠ .normal) (h : OpK g w A s (Q e.to)) : OpK g w A s (Exit.then K Q e.to) := by
  cases e with
  | normal => exact absurd rfl he
  | exit id => exact h
  | goto l => exact h
  | ret => exact h

theorem codeF_sound {E : Env} (hE : EnvOk E) {X : RecX} (hX : RecXOk E X) : CodeOk E (codeF E X) := by
  intro rd c A s e A' s' h ro hro g w a Q rel glob hA hK
  unfold codeF at h
  split at h
  · cases h; exact wpIn_skip (hK g w a (Ext.refl g w) rel hA)
  · cases h; exact wpIn_label (hK g w a (Ext.refl g w) rel hA)
  · cases h; exact wpIn_exit (hK g w a (Ext.refl g w) rel hA)
  · cases h; exact wpIn_goto (hK g w a (Ext.refl g w) rel hA)
  · cases h; exact wpIn_ret (hK g w a (Ext.refl g w) rel hA)
  · rename_i id ops draw
    split at h
    · rename_i A1 s1 h1
      cases h
      exact regionF_sound hE hX hro h1 rel glob hA hK
    · cases h
  · rename_i x y
    split at h
    · rename_i e1 A1 s1 h1
      refine wpIn_seq ?_
      refine hX.code rd x A s e1 A1 s1 h1 ro hro g w a _ rel glob hA ?_
      split at h
      · refine then_normal (fun g1 w1 a1 ext1 rel1 hA1 => ?_)
        exact hX.code rd y A1 s1 e A' s' h ro hro g1 w1 a1 Q rel1 (glob.ext ext1) hA1 (fun g2 w2 a2 ext2 rel2 hA2 => hK g2 w2 a2 (ext1.trans ext2) rel2 hA2)
      · rename_i hne
        cases h
        exact then_other (fun e => hne e) hK
    · cases h
  · rename_i c x y
    split at h
    · rename_i b hc
      have hb := evA_ok glob hA c _ hc
      simp only [Rep] at hb
      refine wpIn_cond hb ?_
      cases b with
      | true =>
        simp only [if_true] at h ⊢
        exact hX.code rd x A s e A' s' h ro hro g w a Q rel glob hA hK
      | false =>
        simp only [Bool.false_eq_true, if_false] at h ⊢
        exact hX.code rd y A s e A' s' h ro hro g w a Q rel glob hA hK
    · cases h
  · rename_i id b
    split at h
    · rename_i e1 A1 s1 h1
      refine wpIn_block ?_
      refine hX.code rd b A s e1 A1 s1 h1 ro hro g w a _ rel glob hA ?_
      split at h
      · rename_i j
        split at h
        · rename_i hj
          have hj := Nat.eq_of_beq_eq_true hj
          subst hj
          cases h
          intro g1 w1 a1 ext1 rel1 hA1
          simp only [AExit.to, Exit.inBlock, if_true]
          exact hK g1 w1 a1 ext1 rel1 hA1
        · rename_i hj
          cases h
          have hne : ¬ j = id := fun e => hj (by rw [e]; exact Nat.beq_refl id)
          intro g1 w1 a1 ext1 rel1 hA1
          simp only [AExit.to, Exit.inBlock, hne, if_false]
          exact hK g1 w1 a1 ext1 rel1 hA1
      · rename_i hne
        cases h
        cases e with
        | exit j => exact absurd rfl (hne j)
        | normal => exact hK
        | goto l => exact hK
        | ret => exact hK
    · cases h
  · rename_i b
    exact wpIn_loop_of (hX.loop rd b A s e A' s' h ro hro g w a Q rel glob hA hK)
  · rename_i f ps assign body
    exact rangeF_sound hE hX hro h rel glob hA hK
  · cases h

theorem loopF_sound {E : Env} (hE : EnvOk E) {X : RecX} (hX : RecXOk E X) : LoopOk E (loopF E X) := by
  intro rd c A s e A' s' h ro hro g w a Q rel glob hA hK
  unfold loopF at h
  split at h
  · rename_i e1 A1 s1 h1
    refine loopWp_of ?_
    refine hX.code rd c A s e1 A1 s1 h1 ro hro g w a _ rel glob hA ?_
    split at h
    · refine then_normal (fun g1 w1 a1 ext1 rel1 hA1 => ?_)
      exact hX.loop rd c A1 s1 e A' s' h ro hro g1 w1 a1 Q rel1 (glob.ext ext1) hA1 (fun g2 w2 a2 ext2 rel2 hA2 => hK g2 w2 a2 (ext1.trans ext2) rel2 hA2)
    · rename_i hne
      cases h
      exact then_other (fun e => hne e) hK
  · cases h

theorem callX_sound {E : Env} (hE : EnvOk E) {X : RecX} (hX : RecXOk E X) : CallOk E.P E.G (callX E X) := by
  intro f args s r s' h g w vs rel glob hargs
  unfold callX at h
  split at h
  · rename_i fn hfn
    split at h
    · rename_i c hc
      split at h
      · rename_i hl
        split at h
        · rename_i hN
          have hl := Nat.le_of_ble_eq_true hl
          have hN := Nat.le_of_ble_eq_true hN
          split at h
          · rename_i e A1 s1 h1
            split at h
            · rename_i hle
              split at h
              · rename_i s2 hs2
                split at h
                · rename_i q hq
                  cases h
                  refine callsIn_of_wp_marks hfn hc trivial ?_
                  refine hX.code false c _ s e A1 s1 h1 none (fun _ => rfl) g w _ _ rel glob ⟨enter_tm hargs hl hN, hN, rfl⟩ ?_
                  intro g1 w1 a1 ext1 rel1 hA1
                  have key : LeavesInM Fence.wide 0 E.P fn a1.tmps (Ret g w (packA q) s') a1.defers .returning w1 := by
                    refine leaves_sound hE hs2 rel1 hA1.df (fun g2 w2 ext2 rel2 => ?_)
                    obtain ⟨v, hv, hr⟩ := results_sound hq rel2 (hA1.tm.ext ext2)
                    exact ⟨v, hv, g2, ext1.trans ext2, rel2, hr⟩
                  cases e with
                  | normal => exact key
                  | ret => exact key
                  | exit id => cases hle
                  | goto l => cases hle
                · cases h
              · cases h
            · cases h
          · cases h
        · cases h
      · cases h
    · cases h
  · cases h

theorem setAll_sound {g : Gh} {w : World} {n : Nat} (hn : n ≤ 65536) : ∀ {ps : List Tmp} {args : List AV} {t t' : Tr} {vs : List Value} {tmps : Array Value}, setAll n ps args t = some t' → RepAll g w args vs → TmOk g w n t tmps →
    ps.length = vs.length ∧ TmOk g w n t' ((ps.zip vs).foldl (fun tmps (p : Tmp × Value) => tmps.setIfInBounds p.1 p.2) tmps)
  | [], [], t, t', vs, tmps, h, hargs, htm => by
    simp only [setAll, Option.some.injEq] at h
    subst h
    simp only [RepAll] at hargs
    subst hargs
    exact ⟨rfl, htm⟩
  | p :: r, v :: q, t, t', vs, tmps, h, hargs, htm => by
    simp only [setAll] at h
    simp only [RepAll] at hargs
    obtain ⟨u, us, rfl, hu, hus⟩ := hargs
    split at h
    · rename_i hp
      obtain ⟨h1, h2⟩ := setAll_sound hn h hus (htm.set hn (blt_lt hp) hu)
      refine ⟨by simp [h1], ?_⟩
      simpa using h2
    · cases h
  | [], _ :: _, t, t', vs, tmps, h, _, _ => by simp [setAll] at h
  | _ :: _, [], t, t', vs, tmps, h, _, _ => by simp [setAll] at h

theorem roundX_sound {E : Env} (hE : EnvOk E) {X : RecX} (hX : RecXOk E X) : RoundOk E.P E.G (roundX E X) := by
  intro i args s r s' h g w vs rel glob hargs hu
  unfold roundX at h
  split at h
  · rename_i st pend n tm ps assign body hget
    split at h
    · rename_i hn
      have hn := Nat.le_of_ble_eq_true hn
      obtain ⟨_, _, fn0, d0, tmps0, hb0, htm0⟩ := rel.objs i _ hget
      split at h
      · rename_i tm' hset
        obtain ⟨hlen, htm'⟩ := setAll_sound hn hset hargs htm0
        refine ⟨fn0, (ps.toList.zip vs).foldl (fun tmps (p : Tmp × Value) => tmps.setIfInBounds p.1 p.2) tmps0, assign, body, ?_, ?_⟩
        · have hsz : ¬ (vs.toArray.size ≠ ps.size) := by simp at hlen ⊢; omega
          have hz : (ps.zip vs.toArray).foldl (fun tmps (x : Tmp × Value) => tmps.setIfInBounds x.1 x.2) tmps0 = (ps.toList.zip vs).foldl (fun tmps (p : Tmp × Value) => tmps.setIfInBounds p.1 p.2) tmps0 := by
            rw [← Array.foldl_toList]
            simp [Array.toList_zip]
          simp only [Instr.yield, Sem.run_bind, getLoop_run hb0, Result.andThen_ok]
          rw [if_neg hsz]
          simp only [Sem.run_bind, Sem.run_pure, Result.andThen_ok]
          rw [← hz]
        · refine roundIn_of_wpIn trivial ?_
          split at h
          · rename_i e1 A1 s1 h1
            split at h
            · rename_i hgo
              have he1 : e1 = .normal := by cases e1 <;> first | rfl | cases hgo
              subst he1
              split at h
              · rename_i p2 n2 tm2 ps2 as2 bd2 hget1
                split at h
                · rename_i e A2 s3 h3
                  split at h
                  · rename_i st3 p3 n3 tm3 ps3 as3 bd3 hget3
                    cases h
                    refine hX.code true assign _ s .normal A1 s1 h1 (some (g.blk i)) (fun h => by cases h) g w _ _ rel glob ⟨htm', hn, rfl⟩ (then_normal ?_)
                    intro g1 w1 a1 ext1 rel1 hA1
                    obtain ⟨hu1, _, fn1, d1, tmps1, hb1, htm1⟩ := rel1.objs i _ hget1
                    have hbl1 : g1.blk i = g.blk i := ext1.blk i hu
                    obtain ⟨q1, q2⟩ := put_but (o' := .loop { state := .busy, pending := p2, fn := fn1, tmps := tmps1, params := ps2, assign := as2, body := bd2, defers := d1 }) hb1
                    obtain ⟨ext2, rel2⟩ := rel1.write (o' := .loop .busy p2 n2 tm2 ps2 as2 bd2) hget1 q1 ⟨fn1, d1, tmps1, q2, htm1⟩
                    refine ⟨{ w1 with heap := w1.heap.setIfInBounds (g1.blk i) (.loop { state := .busy, pending := p2, fn := fn1, tmps := tmps1, params := ps2, assign := as2, body := bd2, defers := d1 }) }, ?_, ?_⟩
                    · rw [← hbl1]
                      simp only [Instr.beginRound, Sem.run_bind, getLoop_run hb1, Result.andThen_ok, setObj_run _ hb1, Sem.run_pure]
                    · have ext12 := ext1.trans ext2
                      refine hX.code true body A1 _ e A2 s3 h3 (some (g.blk i)) (fun h => by cases h) _ _ a1 _ rel2 (glob.ext ext12) (hA1.ext ext2) ?_
                      intro g3 w3 a3 ext3 rel3 hA3
                      obtain ⟨hu3, _, fn3, d3, tmps3, hb3, htm3⟩ := rel3.objs i _ hget3
                      have hbl3 : g3.blk i = g.blk i := (ext3.blk i hu1).trans hbl1
                      obtain ⟨q3, q4⟩ := put_but (o' := .loop { state := if goesOn e then .ready else .done, pending := endOf e, fn := fn3, tmps := tmps3, params := ps3, assign := as3, body := bd3, defers := d3 }) hb3
                      obtain ⟨ext4, rel4⟩ := rel3.write (o' := .loop (if goesOn e then .ready else .done) (endOf e) n3 tm3 ps3 as3 bd3) hget3 q3 ⟨fn3, d3, tmps3, q4, htm3⟩
                      have hend : (Instr.endRound (g.blk i) (endOf e)).run E.P w3 = .ok (.bool (goesOn e)) { w3 with heap := w3.heap.setIfInBounds (g3.blk i) (.loop { state := if goesOn e then .ready else .done, pending := endOf e, fn := fn3, tmps := tmps3, params := ps3, assign := as3, body := bd3, defers := d3 }) } := by
                        rw [← hbl3]
                        simp only [Instr.endRound, Sem.run_bind, getLoop_run hb3, Result.andThen_ok, setObj_run _ hb3, Sem.run_pure]
                        cases e <;> rfl
                      have hret : Ret g w (.val (.bool (goesOn e))) (s3.put i (.loop (if goesOn e then .ready else .done) (endOf e) n3 tm3 ps3 as3 bd3)) (.returned (.bool (goesOn e))) { w3 with heap := w3.heap.setIfInBounds (g3.blk i) (.loop { state := if goesOn e then .ready else .done, pending := endOf e, fn := fn3, tmps := tmps3, params := ps3, assign := as3, body := bd3, defers := d3 }) } :=
                        ⟨g3, ext12.trans (ext3.trans ext4), rel4, by simp [Rep]⟩
                      cases e with
                      | normal => exact ⟨_, _, hend, hret⟩
                      | ret => exact ⟨_, _, hend, hret⟩
                      | exit id => exact ⟨_, _, hend, hret⟩
                      | goto l => exact ⟨_, _, hend, hret⟩
                  · cases h
                · cases h
              · cases h
            · cases h
          · cases h
      · cases h
    · cases h
  · cases h

theorem evN_ok {E : Env} (hE : EnvOk E) : ∀ n, RecXOk E (evN E n)
  | 0 => ⟨⟨(fun _ _ _ _ _ h => by cases h), (fun _ _ _ _ _ h => by cases h)⟩, (fun _ _ _ _ _ _ _ h => by cases h), (fun _ _ _ _ _ _ _ h => by cases h)⟩
  | n + 1 => ⟨⟨callX_sound hE (evN_ok hE n), roundX_sound hE (evN_ok hE n)⟩, codeF_sound hE (evN_ok hE n), loopF_sound hE (evN_ok hE n)⟩

/-- A call with arguments that bear no number, evaluated. -/
theorem closed_of_eval {E : Env} (hE : EnvOk E) {n : Nat} {f : FuncId} {args : List AV} {r : AV} (h : callC0 E (evN E n).r.call f args = some r) : ClosedOk E.P E.G f args r :=
  callC0_sound hE (evN_ok hE n).r.call h

/-- A call at a memory that is known in full, evaluated. -/
theorem open_of_eval {E : Env} (hE : EnvOk E) {n : Nat} {f : FuncId} {args : List AV} {s s' : St} {r : AV} (h : (evN E n).r.call f args s = some (r, s')) : OpenOk E.P E.G f args s r s' :=
  fun g w vs rel glob hargs => (evN_ok hE n).r.call _ _ _ _ _ h g w vs rel glob hargs

end Go.Am
