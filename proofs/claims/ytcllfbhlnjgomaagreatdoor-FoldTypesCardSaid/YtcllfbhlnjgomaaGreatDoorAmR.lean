import Derived.Test.YtcllfbhlnjgomaaGreatDoorAmQ
set_option linter.unusedVariables false
set_option linter.unusedSimpArgs false
/-!
  THE ABSTRACT MACHINE, part R: a region whose order is drawn.
-/
namespace Go.Am
open Go Go.RowKit

theorem put_n {A A1 : AAct} {d : Option Tmp} {r : AV} (h : A.put d r = some A1) : A1.n = A.n := by
  unfold AAct.put at h
  split at h
  · split at h
    · cases h; rfl
    · cases h
  · cases h; rfl

theorem evA_put {G : Nat → Option AV} {A A1 : AAct} {d : Option Tmp} {r : AV} {x : Operand} (hN : A.n ≤ 65536) (hp : A.put d r = some A1) (hx : ∀ t, x = .tmp t → d ≠ some t) : evA G A1 x = evA G A x := by
  cases x with
  | tmp t =>
    unfold AAct.put at hp
    split at hp
    · rename_i d
      split at hp
      · rename_i hlt
        have hlt := blt_lt hlt
        cases hp
        simp only [evA]
        split
        · rename_i ht
          have ht := blt_lt ht
          have hne : ¬ t = d := fun e => hx t rfl (by rw [e])
          rw [Tr.get_set (by omega) (by omega), if_neg hne]
        · rfl
      · cases hp
    · cases hp; rfl
  | const v => rfl
  | global i => rfl
  | func f => rfl

theorem wantedA_put {ops : List Oper} {A A1 : AAct} {d : Option Tmp} {r : AV} {o : Oper} (hN : A.n ≤ 65536) (hp : A.put d r = some A1) (h : ∀ j b oj t, o.guard = some (j, b) → ops[j]? = some oj → oj.dst = some t → d ≠ some t) : wantedA ops A1 o = wantedA ops A o := by
  unfold wantedA
  split
  · rfl
  · rename_i j b hg
    split
    · rename_i oj hj
      split
      · rename_i t ht
        have hne := h j b oj t hg hj ht
        rw [put_n hp]
        have he := evA_put (G := fun _ => none) (x := .tmp t) hN hp (fun t' e => by cases e; exact hne)
        simp only [evA, put_n hp] at he
        by_cases hlt : Nat.blt t A.n = true
        · simp only [hlt, if_true, Option.some.injEq] at he ⊢
          rw [he]
        · simp only [hlt, if_false, Bool.false_eq_true]
      · rfl
    · rfl

theorem put_comm {A A1 A2 : AAct} {d e : Option Tmp} {r q : AV} (hN : A.n ≤ 65536) (hp : A.put d r = some A1) (hq : A1.put e q = some A2) (hne : ∀ t, d = some t → e ≠ some t) : ∃ B, A.put e q = some B ∧ B.put d r = some A2 := by
  have hn := put_n hp
  unfold AAct.put at hp
  split at hp
  · rename_i d
    split at hp
    · rename_i hd
      cases hp
      unfold AAct.put at hq
      split at hq
      · rename_i e
        split at hq
        · rename_i he
          cases hq
          refine ⟨{ A with tm := A.tm.set e q }, by simp only [AAct.put]; rw [if_pos he], ?_⟩
          simp only [AAct.put]
          rw [if_pos hd]
          have hd := blt_lt hd
          have he := blt_lt he
          simp only at he
          rw [Tr.set_comm (t := A.tm) (n := d) (k := e) (by omega) (by omega) (fun e1 => hne d rfl (by rw [e1]))]
        · cases hq
      · cases hq
        exact ⟨A, rfl, by simp only [AAct.put]; rw [if_pos hd]⟩
    · cases hp
  · cases hp
    exact ⟨A2, hq, rfl⟩

theorem looksAt_operand {ops : Array Oper} {o : Oper} {t : Tmp} (h : (.tmp t : Operand) ∈ o.op.operands) : t ∈ o.looksAt ops := by
  unfold Oper.looksAt
  refine List.mem_append_left _ (List.mem_filterMap.2 ⟨.tmp t, by simpa using h, rfl⟩)
theorem looksAt_guard {ops : Array Oper} {o oj : Oper} {j : Nat} {b : Bool} {t : Tmp} (hg : o.guard = some (j, b)) (hj : ops.toList[j]? = some oj) (ht : oj.dst = some t) : t ∈ o.looksAt ops := by
  unfold Oper.looksAt
  refine List.mem_append_right _ ?_
  have hj' : ops[j]? = some oj := by simpa using hj
  rw [hg]
  simp [hj', ht]

theorem putR_some {A A1 : AAct} {d : Option Tmp} {p : Option (AV × St)} {s' : St} (h : putR A d p = some (A1, s')) : ∃ r, p = some (r, s') ∧ A.put d r = some A1 := by
  unfold putR at h
  split at h
  · rename_i r s1
    split at h
    · rename_i A' hp; cases h; exact ⟨r, rfl, hp⟩
    · cases h
  · cases h
theorem putR_of {A A1 : AAct} {d : Option Tmp} {r : AV} {s' : St} (h : A.put d r = some A1) : putR A d (some (r, s')) = some (A1, s') := by simp only [putR, h]

/-- An operation that changes temporaries alone goes first: the other one does not see it. -/
theorem step_comm {cm : Oper → Bool} {E : Env} {R : Rec} {ops : Array Oper} {i j : Nat} {oi oj : Oper} {A A1 A1j : AAct} {s sj : St} (hN : A.n ≤ 65536) (hf : firstB cm oi = true) (hl : letsB cm oi oj = true) (hap : oi.apart ops oj = true)
    (hi : stepD cm E R ops.toList i oi A s = some (A1, s)) (hj : stepD cm E R ops.toList j oj A1 s = some (A1j, sj)) :
    ∃ Aj, stepD cm E R ops.toList j oj A s = some (Aj, sj) ∧ stepD cm E R ops.toList i oi Aj sj = some (A1j, sj) ∧ Aj.n = A.n := by
  obtain ⟨h1, h2, h3⟩ := Oper.apart_spec hap
  -- what was put for oi
  have hput : ∃ ri, A.put oi.dst ri = some A1 ∧ ((wantedA ops.toList A oi = some true ∧ valD cm E R (evA E.G A) i s oi = some (ri, s)) ∨ (wantedA ops.toList A oi = some false ∧ ri = .val undef)) := by
    unfold stepD at hi
    split at hi
    · rename_i hw
      obtain ⟨r, hr, hp⟩ := putR_some hi
      exact ⟨r, hp, .inl ⟨hw, hr⟩⟩
    · rename_i hw
      obtain ⟨r, hr, hp⟩ := putR_some hi
      cases hr
      exact ⟨_, hp, .inr ⟨hw, rfl⟩⟩
    · cases hi
  obtain ⟨ri, hpi, hwi⟩ := hput
  have hn1 := put_n hpi
  have evj : ∀ x ∈ oj.op.operands, evA E.G A1 x = evA E.G A x := fun x hx => evA_put hN hpi (fun t e => fun hd => h1 t hd (looksAt_operand (by rw [← e]; exact hx)))
  have wj : wantedA ops.toList A1 oj = wantedA ops.toList A oj := wantedA_put hN hpi (fun k b ok t hg hk ht hd => h1 t hd (looksAt_guard hg hk ht))
  -- oj
  have back : ∀ {rj : AV} {Aj : AAct}, A.put oj.dst rj = some Aj → (valD cm E R (evA E.G A) i s oi = some (ri, s) → valD cm E R (evA E.G A) i sj oi = some (ri, sj)) → Aj.put oi.dst ri = some A1j → stepD cm E R ops.toList i oi Aj sj = some (A1j, sj) := by
    intro rj Aj hpj hv hpp
    have evi : ∀ x ∈ oi.op.operands, evA E.G Aj x = evA E.G A x := fun x hx => evA_put hN hpj (fun t e => fun hd => h3 t hd (looksAt_operand (by rw [← e]; exact hx)))
    have wi : wantedA ops.toList Aj oi = wantedA ops.toList A oi := wantedA_put hN hpj (fun k b ok t hg hk ht hd => h3 t hd (looksAt_guard hg hk ht))
    unfold stepD
    rw [wi]
    rcases hwi with ⟨hw, hvi⟩ | ⟨hw, rfl⟩
    · rw [hw]
      simp only
      rw [valD_congr evi, hv hvi]
      exact putR_of hpp
    · rw [hw]
      simp only
      exact putR_of hpp
  unfold stepD at hj
  rw [wj] at hj
  split at hj
  · rename_i hw
    rw [valD_congr evj] at hj
    obtain ⟨rj, hr, hp⟩ := putR_some hj
    obtain ⟨Aj, hp1, hp2⟩ := put_comm hN hpi hp (fun t ht => h2 t ht)
    refine ⟨Aj, ?_, back hp1 (fun hvi => valD_stays hf hl hvi hr) hp2, put_n hp1⟩
    unfold stepD
    rw [hw]
    simp only
    rw [hr]
    exact putR_of hp1
  · rename_i hw
    obtain ⟨rj, hr, hp⟩ := putR_some hj
    cases hr
    obtain ⟨Aj, hp1, hp2⟩ := put_comm hN hpi hp (fun t ht => h2 t ht)
    refine ⟨Aj, ?_, back hp1 (fun hvi => hvi) hp2, put_n hp1⟩
    unfold stepD
    rw [hw]
    simp only
    exact putR_of hp1
  · cases hj

/-! ### Every order -/
/-- In whatever order the rest is run, it comes to 'out'. -/
def AnyOk (cm : Oper → Bool) (E : Env) (R : Rec) (B : Nat) (ops : Array Oper) (out : AAct × St) : Nat → Array Bool → AAct → St → Prop
  | 0, L, A, s => Region.ready .any ops L = [] ∧ out = (A, s)
  | n + 1, L, A, s => (Region.ready .any ops L = [] → out = (A, s)) ∧
    ∀ i ∈ Region.ready .any ops L, ∃ o A' s', ops[i]? = some o ∧ stepD cm E R ops.toList (B + i) o A s = some (A', s') ∧ AnyOk cm E R B ops out n (L.setIfInBounds i true) A' s'

theorem stepD_n {cm : Oper → Bool} {E : Env} {R : Rec} {ops : List Oper} {i : Nat} {o : Oper} {A A' : AAct} {s s' : St} (h : stepD cm E R ops i o A s = some (A', s')) : A'.n = A.n := by
  unfold stepD at h
  split at h
  · obtain ⟨r, _, hp⟩ := putR_some h; exact put_n hp
  · obtain ⟨r, _, hp⟩ := putR_some h; exact put_n hp
  · cases h

theorem anyOk_sound {cm : Oper → Bool} {E : Env} (hE : EnvOk E) {R : Rec} (hR : RecOk E R) {B : Nat} {ops : Array Oper} {A' : AAct} {s' : St} {ro : Option Nat} {Q : Exit → Act → World → Prop} :
    ∀ (n : Nat) (L : Array Bool) (A : AAct) (s : St) (a : Act) (g : Gh) (w : World), AnyOk cm E R B ops (A', s') n L A s → Rel g s w → GlobOk E.G g w → ActOk g w A a → OpK g w A' s' (Q .normal) →
      wpAnyIn (FW ro) 0 E.P .any ops Q n L a w
  | 0, L, A, s, a, g, w, h, rel, glob, hA, hK => by
    obtain ⟨h1, h2⟩ := h
    cases h2
    exact ⟨h1, hK g w a (Ext.refl g w) rel hA⟩
  | n + 1, L, A, s, a, g, w, h, rel, glob, hA, hK => by
    obtain ⟨h1, h2⟩ := h
    refine ⟨fun h0 => ?_, fun i hi => ?_⟩
    · have := h1 h0
      cases this
      exact hK g w a (Ext.refl g w) rel hA
    · obtain ⟨o, A1, s1, ho, hs, hn⟩ := h2 i hi
      unfold wpOpIn
      rw [ho]
      exact stepD_sound hE hR hs rel glob hA (fun g1 w1 a1 e1 r1 hA1 => anyOk_sound hE hR n _ A1 s1 a1 g1 w1 hn r1 (glob.ext e1) hA1 (fun g2 w2 a2 e2 r2 h2 => hK g2 w2 a2 (e1.trans e2) r2 h2))

/-- The operations of D cannot come before i. -/
structure Behind (ops : Array Oper) (i : Nat) (L : Array Bool) (D : Nat → Prop) : Prop where
  unl : ∀ j, D j → L.getD j true = false
  why : ∀ j o, D j → ops[j]? = some o → ∃ e ∈ o.after, Region.binds .any e = true ∧ (e.on = i ∨ D e.on)

theorem not_listed {L : Array Bool} {k : Nat} (h : L.getD k true = false) : L.getD k false = false := by
  rcases Nat.lt_or_ge k L.size with h' | h'
  · simp [Array.getD, h'] at h ⊢; exact h
  · simp [Array.getD, Nat.not_lt.2 h']

theorem Behind.not_ready {ops : Array Oper} {i : Nat} {L : Array Bool} {D : Nat → Prop} (h : Behind ops i L D) (hi : L.getD i true = false) {j : Nat} (hj : j ∈ Region.ready .any ops L) : ¬ D j := fun hd => by
  obtain ⟨_, o, ho, hall⟩ := mem_ready.1 hj
  obtain ⟨e, he, hb, hon⟩ := h.why j o hd ho
  have h1 := hall e he hb
  have h2 : L.getD e.on true = false := by
    rcases hon with e1 | e1
    · rw [e1]; exact hi
    · exact h.unl _ e1
  rw [not_listed h2] at h1
  cases h1

theorem anyOk_first {cm : Oper → Bool} {E : Env} {R : Rec} {B : Nat} {ops : Array Oper} {out : AAct × St} {i : Nat} {oi : Oper} {D : Nat → Prop} (hi : ops[i]? = some oi) (hf : firstB cm oi = true) (hDi : ¬ D i) :
    ∀ (n : Nat) (L : Array Bool) (A A1 : AAct) (s : St), A.n ≤ 65536 → i ∈ Region.ready .any ops L → Behind ops i L D →
      (∀ j oj, ops[j]? = some oj → j ≠ i → L.getD j true = false → ¬ D j → oi.apart ops oj = true ∧ letsB cm oi oj = true) →
      stepD cm E R ops.toList (B + i) oi A s = some (A1, s) → AnyOk cm E R B ops out n (L.setIfInBounds i true) A1 s → AnyOk cm E R B ops out (n + 1) L A s := by
  intro n
  induction n with
  | zero =>
    intro L A A1 s hN hr hB hfree hs H
    refine ⟨fun h => (by rw [h] at hr; cases hr), fun j hj => ?_⟩
    by_cases hji : j = i
    · subst hji; exact ⟨oi, A1, s, hi, hs, H⟩
    · have := ready_mono hj hji
      rw [H.1] at this
      cases this
  | succ n ih =>
    intro L A A1 s hN hr hB hfree hs H
    refine ⟨fun h => (by rw [h] at hr; cases hr), fun j hj => ?_⟩
    by_cases hji : j = i
    · subst hji; exact ⟨oi, A1, s, hi, hs, H⟩
    · obtain ⟨oj, A1j, sj, hoj, hsj, hn⟩ := H.2 j (ready_mono hj hji)
      obtain ⟨hjun, oj', hoj', hall⟩ := mem_ready.1 hj
      rw [hoj] at hoj'
      cases hoj'
      have hDj : ¬ D j := hB.not_ready (mem_ready.1 hr).1 hj
      obtain ⟨hap, hl⟩ := hfree j oj hoj hji hjun hDj
      obtain ⟨Aj, hj1, hj2, hjn⟩ := step_comm hN hf hl hap hs hsj
      refine ⟨oj, Aj, sj, hoj, hj1, ?_⟩
      refine ih (L.setIfInBounds j true) Aj A1j sj (by rw [hjn]; exact hN) (ready_mono hr (Ne.symm hji)) ⟨fun k hk => ?_, hB.why⟩ (fun k ok hk hki hun hno => ?_) hj2 ?_
      · have hne : j ≠ k := fun e => hDj (e ▸ hk)
        rw [getD_set_ne true hne]
        exact hB.unl k hk
      · refine hfree k ok hk hki ?_ hno
        by_cases hjk : j = k
        · subst hjk; exact hjun
        · rw [getD_set_ne true hjk] at hun; exact hun
      · rw [Array.setIfInBounds_comm _ _ hji]
        exact hn

end Go.Am
