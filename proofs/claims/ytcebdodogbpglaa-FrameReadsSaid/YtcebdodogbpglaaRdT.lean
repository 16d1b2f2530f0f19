import Derived.Test.YtcebdodogbpglaaRdS
set_option linter.unusedVariables false
set_option maxRecDepth 100000
/-! WHAT A READER HOLDS WHILE IT IS FED. -/
namespace Go.Proofs.Ytcebdodogbpglaa.Rdr
open Go.ChangeShapes Go.WideShapes Go.ChangeAt Go.RowKit Mem Put

theorem infoMsg : (Try.prog.info? 25).map (fun i => (i.zero, i.size, i.bytes)) = some (some (.agg #[.slice none 0 0, .slice none 0 0]), 2, 48) := by kernel_rfl

def szs (l : List Pair) : Nat := (l.map fun m => 24 + padU m.1.length + padU m.2.length).sum
theorem szs_append (x y : List Pair) : szs (x ++ y) = szs x + szs y := by unfold szs; rw [List.map_append, List.sum_append_nat]
theorem szs_len (x : List Pair) : 24 * x.length ≤ szs x := by
  induction x with
  | nil => simp
  | cons m r ih => simp only [szs, List.map_cons, List.sum_cons, List.length_cons] at ih ⊢; omega

theorem scan_size (lm lb : Nat) : ∀ (n : Nat) (x : List UInt8), x.length ≤ n → ∀ en, szs (scanF lm lb en x).q + (scanF lm lb en x).t.length ≤ x.length := by
  intro n
  induction n with
  | zero =>
    intro x hx en
    have : x = [] := List.eq_nil_of_length_eq_zero (by omega)
    subst this
    rw [scan_nil]; simp [szs]
  | succ n ih =>
    intro x hx en
    by_cases h0 : x = []
    · subst h0; rw [scan_nil]; simp [szs]
    · cases en with
      | true => rw [scan_tail h0]; simp [szs]
      | false =>
        by_cases hE : lookE x lm lb = 0
        · by_cases hN : lookN x lm lb = 0 ∨ x.length < lookN x lm lb
          · rw [scan_wait h0 hE hN]; simp [szs]
          · obtain ⟨_, _, h16, hsz⟩ := look_whole (y := []) hE hN
            have hpos := sizeV_pos x
            have hlen : (x.drop (lookN x lm lb)).length ≤ n := by simp; omega
            have hb := size_bounds x
            by_cases h3 : x[3]? = some 48
            · rw [scan_end h0 hE hN h3]
              have := ih _ hlen true
              simp at this ⊢; omega
            · rw [scan_one h0 hE hN h3]
              have h1 := ih _ hlen false
              have h2 : szs [(seg x 24 (n4 x 4), seg x (fromV x) (n4 x 8))] = sizeV x := by
                have a1 : (seg x 24 (n4 x 4)).length = n4 x 4 := by simp [seg]; omega
                have a2 : (seg x (fromV x) (n4 x 8)).length = n4 x 8 := by simp [seg]; omega
                simp only [szs, List.map_cons, List.map_nil, List.sum_cons, List.sum_nil, a1, a2]
                unfold sizeV fromV; omega
              simp only [pre, szs_append, h2, List.length_drop] at h1 ⊢
              omega
        · rw [scan_bad h0 hE]; simp [szs]

def AllAt (K : Nat) (L : Nat → Nat) (w : World) (T : List Msg) : Prop := ∀ m ∈ T, MsgAt L w m ∧ K + 10 ≤ m.cm ∧ K + 10 ≤ m.cb
theorem AllAt.step {K : Nat} {L L' : Nat → Nat} {w w' : World} {C : Nat → Prop} {T : List Msg} (h : AllAt K L w T) (st : Step C L w L' w') (hC : ∀ d, C d → d < K + 10) : AllAt K L' w' T := fun m hm => by
  obtain ⟨h1, h2, h3⟩ := h m hm
  exact ⟨h1.step st (fun hc => by have := hC _ hc; omega) (fun hc => by have := hC _ hc; omega), h2, h3⟩
def RR (bs : List UInt8) (a : Nat) : Scan := scanF 65536 4194304 false (bs.take a)
theorem RR_size (bs : List UInt8) (a : Nat) : szs (RR bs a).q + (RR bs a).t.length ≤ a := by
  have := scan_size 65536 4194304 _ (bs.take a) (Nat.le_refl _) false
  simp at this
  unfold RR; omega

/-- The state of 'gone': a bytes were fed; T were told, Q wait. -/
structure Going (L0 : Nat → Nat) (w0 : World) (K rb : Nat) (bs : List UInt8) (sh : Bool) (a : Nat) (T Q : List Msg) (told : Nat) (held : Int) (L : Nat → Nat) (w : World) (vl : Value) : Prop where
  step : Step (fun d => K ≤ d) L0 w0 L w
  rdr : RdrAt L K w rb 65536 4194304 told Q (RR bs a).t held (RR bs a).w (RR bs a).e sh
  q : pairs T ++ pairs Q = (RR bs a).q
  ts : AllAt K L w T
  qs : AllAt K L w Q
  list : Own L (K + 3) w 25 2 vl T.length ((T.map fun m => [m.vm, m.vb]).flatten)
  held : held = (a : Int) - szs (pairs T)
  told : told ≤ T.length

section
variable {L0 L : Nat → Nat} {w0 w : World} {K rb : Nat} {bs : List UInt8} {sh : Bool} {a : Nat} {T Q : List Msg} {told : Nat} {held : Int} {vl : Value}
theorem Going.bounds (h : Going L0 w0 K rb bs sh a T Q told held L w vl) : szs (pairs T) + szs (pairs Q) + (RR bs a).t.length ≤ a ∧ 24 * (T.length + Q.length) ≤ a ∧ 0 ≤ held ∧ held ≤ a := by
  have h1 := RR_size bs a
  rw [← h.q, szs_append] at h1
  have h2 := szs_len (pairs T)
  have h3 := szs_len (pairs Q)
  have e1 : (pairs T).length = T.length := by simp [pairs]
  have e2 : (pairs Q).length = Q.length := by simp [pairs]
  have := h.held
  omega

theorem Going.feed (h : Going L0 w0 K rb bs false a T Q told held L w vl) {n : Nat} (hn : a + n ≤ bs.length) {w' : World}
    (hp : ((RR bs a).w ≠ 0 → ∃ L', Step (Rc K) L w L' w' ∧ RdrAt L' K w' rb 65536 4194304 told Q (RR bs a).t (held + n) (RR bs a).w (RR bs a).e false) ∧
      ((RR bs a).w = 0 → ScanPost L K w rb 65536 4194304 told Q ((RR bs a).t ++ seg bs a n) (held + n) (RR bs a).e false (K + 10) w')) :
    ∃ L' N, Going L0 w0 K rb bs false (a + n) T (Q ++ N) told (held + n) L' w' vl := by
  have hta : bs.take (a + n) = bs.take a ++ seg bs a n := by unfold seg; rw [List.take_add]
  obtain ⟨s1, s2⟩ := scan_append 65536 4194304 _ (bs.take a) (Nat.le_refl _) false (seg bs a n)
  rw [← hta] at s1 s2
  have hR : ∀ d, Rc K d → K ≤ d ∧ d < K + 3 := fun d hd => by unfold Rc at hd; omega
  by_cases hw : (RR bs a).w = 0
  · obtain ⟨L', N, st, hr, hN, hc⟩ := hp.2 hw
    have e : RR bs (a + n) = pre (RR bs a).q (scanF 65536 4194304 (RR bs a).e ((RR bs a).t ++ seg bs a n)) := s2 hw
    refine ⟨L', N, h.step.trans (st.mono fun d hd => (hR d hd).1), ?_, ?_, h.ts.step st (fun d hd => by have := hR d hd; omega), ?_, h.list.step st (fun hd => by have := hR _ hd; omega), by have := h.held; omega, h.told⟩
    · rw [e]; exact hr
    · rw [e]; simp only [pre, ← hN, ← h.q]; simp [pairs]
    · intro m hm
      rcases List.mem_append.1 hm with hm | hm
      · exact (h.qs.step st (fun d hd => by have := hR d hd; omega)) m hm
      · obtain ⟨j, hj, rfl⟩ := List.mem_iff_getElem.1 hm
        obtain ⟨a1, a2, a3⟩ := hc j hj
        exact ⟨a1, by omega, by omega⟩
  · obtain ⟨L', st, hr⟩ := hp.1 hw
    have e : RR bs (a + n) = RR bs a := (s1 hw).1
    refine ⟨L', [], h.step.trans (st.mono fun d hd => (hR d hd).1), ?_, ?_, h.ts.step st (fun d hd => by have := hR d hd; omega), ?_, h.list.step st (fun hd => by have := hR _ hd; omega), by have := h.held; omega, h.told⟩
    · rw [e, List.append_nil]; exact hr
    · rw [e, List.append_nil]; exact h.q
    · rw [List.append_nil]; exact h.qs.step st (fun d hd => by have := hR d hd; omega)

/-- One is told; it is not in the list yet. -/
theorem Going.next {m : Msg} (h : Going L0 w0 K rb bs sh a T (m :: Q) told held L w vl) {L' : Nat → Nat} {w' : World} {told' : Nat} (st : Step (Rc K) L w L' w') (hr : RdrAt L' K w' rb 65536 4194304 told' Q (RR bs a).t (held - m.size) (RR bs a).w (RR bs a).e sh) (ht : told' + Q.length ≤ told + (Q.length + 1)) :
    MsgAt L' w' m ∧ Own L' (K + 3) w' 25 2 vl T.length ((T.map fun m => [m.vm, m.vb]).flatten) ∧
      ∀ (wA w2 : World) (v2 : Value), Below w'.heap.size w' wA → w2.ownsRow 0 25 2 v2 (T.length + 1) ((T.map fun m => [m.vm, m.vb]).flatten ++ [m.vm, m.vb]) → wA.grownBy w2 vl.ownBlock → (v2.ownBlock = vl.ownBlock ∨ v2.ownBlock = some wA.heap.size) →
        ∃ L2, Going L0 w0 K rb bs sh a (T ++ [m]) Q told' (held - m.size) L2 w2 v2 := by
  have hR : ∀ d, Rc K d → K ≤ d ∧ d < K + 3 := fun d hd => by unfold Rc at hd; omega
  have hm := (h.qs.step st (fun d hd => by have := hR d hd; omega)) m (by simp)
  have ho := h.list.step st (fun hd => by have := hR _ hd; omega)
  refine ⟨hm.1, ho, fun wA w2 v2 hb hown hg hblk => ?_⟩
  obtain ⟨L2, S2, o2, s2⟩ := Own.grown (C := fun d => K ≤ d) (h.step.trans (st.mono fun d hd => (hR d hd).1)) (by show K ≤ K + 3; omega) ho hb hown hg hblk
  have ts := ((h.ts.step st (fun d hd => by have := hR d hd; omega)).step s2 (by rintro _ rfl; omega))
  have qs := ((h.qs.step st (fun d hd => by have := hR d hd; omega)).step s2 (by rintro _ rfl; omega))
  refine ⟨L2, S2, hr.step s2 (by rintro _ rfl hd; have := hR _ hd; omega), ?_, ?_, fun x hx => qs x (by simp [hx]), by simpa using o2, ?_, by simp; have := h.told; omega⟩
  · rw [← h.q]; simp [pairs]
  · intro x hx
    rcases List.mem_append.1 hx with hx | hx
    · exact ts x hx
    · simp at hx; subst hx; exact qs x (by simp)
  · have := h.held
    have e : pairs (T ++ [m]) = pairs T ++ [(m.ms, m.bd)] := by simp [pairs]
    rw [e, szs_append]
    have e2 : szs [(m.ms, m.bd)] = m.size := by simp [szs, Msg.size]
    rw [e2]; omega

theorem Going.size {m : Msg} (h : Going L0 w0 K rb bs sh a T (m :: Q) told held L w vl) : m.size ≤ a := by
  have h1 := h.bounds
  have e : pairs (m :: Q) = [(m.ms, m.bd)] ++ pairs Q := by simp [pairs]
  have e2 : szs [(m.ms, m.bd)] = m.size := by simp [szs, Msg.size]
  rw [e, szs_append, e2] at h1
  omega

theorem Going.below (h : Going L0 w0 K rb bs sh a T Q told held L w vl) {w' : World} (hb : Below w.heap.size w w') : ∃ L', Going L0 w0 K rb bs sh a T Q told held L' w' vl := by
  have st := Step.of_below (L := L) hb (fun _ => False) 0
  exact ⟨_, h.step.trans (st.mono fun _ x => x.elim), h.rdr.step st (fun _ x => x.elim), h.q, h.ts.step st (fun _ x => x.elim), h.qs.step st (fun _ x => x.elim), h.list.step st (fun x => x), h.held, h.told⟩

/-- The list of the told ones, as a list of messages. -/
theorem Going.msgs (h : Going L0 w0 K rb bs sh a T Q told held L w vl) : MsgsRd L w (fun d => K ≤ d) vl (pairs T) := by
  have hl : (pairs T).length = T.length := by simp [pairs]
  refine ⟨T.map fun m => (m.vm, m.vb), K + 3, by show K ≤ K + 3; omega, by simp [pairs], ?_, fun i hi hi2 => ?_⟩
  · rw [hl]
    have := h.list.rd
    simpa [List.map_map, Function.comp_def] using this
  · have hi3 : i < T.length := by simpa [pairs] using hi
    obtain ⟨m1, m2, m3⟩ := h.ts T[i] (List.getElem_mem hi3)
    simp only [pairs, List.getElem_map]
    exact ⟨⟨_, by show K ≤ _; omega, m1.1.rd⟩, ⟨_, by show K ≤ _; omega, m1.2.rd⟩⟩
end

end Go.Proofs.Ytcebdodogbpglaa.Rdr
