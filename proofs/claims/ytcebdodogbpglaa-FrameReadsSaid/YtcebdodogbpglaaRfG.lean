import Derived.Test.YtcebdodogbpglaaRfF
import Derived.Test.YtcebdodogbpglaaApart
import Derived.Test.YtcebdodogbpglaaRdT
set_option linter.unusedVariables false
set_option maxRecDepth 100000
/-! FRAMEREADS: BOTH READERS SIDE BY SIDE. -/
namespace Go.Proofs.Ytcebdodogbpglaa.Rdr
open Go.ChangeShapes Go.WideShapes Go.ChangeAt Go.RowKit Mem Put

theorem Part.want {L : Nat → Nat} {d : Nat} {w : World} {pf : Option Addr} {cf : Nat} {F bs : List UInt8} {v : Value} (h : Part pf F v bs) (ho : Own L d w 5 1 (.slice pf F.length cf) F.length (F.map byt)) : Want L d w (Value.slice pf F.length cf).ownBlock F.length v bs := by
  obtain ⟨q, k, hv, h1, h2, hc⟩ := h
  obtain ⟨p', cap', hv', hn, hmx, hz, hcc⟩ := ownsRow_shape ho.1
  cases hv'
  refine ⟨q, k, hv, h1, h2, fun j u hj => ?_⟩
  rw [List.getElem?_map] at hj
  cases hb : bs[j]? with
  | none => rw [hb] at hj; cases hj
  | some x =>
    rw [hb] at hj
    obtain ⟨b, off, e1, e2, e3⟩ := hc j x hb
    have hlt : off + j < F.length := (List.getElem?_eq_some_iff.1 e3).1
    obtain ⟨b', g1, g2, g3⟩ := hcc (off + j) u (by rw [List.getElem?_map, e3]; exact hj)
    rw [e2] at g1
    cases g1
    exact ⟨b, off, e1, ho.2 b g2, g3, fun _ => hlt⟩

theorem standS_not2 (a : Int) (b c : Bool) : standS a b c ≠ 2 := by
  unfold standS
  split
  · decide
  · split
    · decide
    · split <;> decide

def colsQ (Q : List Msg) : List Nat := (Q.map fun m => [m.cm, m.cb]).flatten
/-- Both readers, the book. -/
structure Play (w0 : World) (kb rb xb lm lb K : Nat) (L : Nat → Nat) (w : World) (F : List UInt8) (sh last : Bool) (at_ told : Nat) (Q : List Msg) (tail : List UInt8) (held wrong : Int) (en : Bool) (E : List Ent) : Prop where
  step : Step (fun d => 1 ≤ d) (fun _ => 0) w0 L w
  book : BookAt L 20 w kb (E.map (·.v)) (E.map (·.wv)) [] []
  rdr : RdrAt L 30 w rb lm lb told Q tail held wrong en sh
  ref : RefAt L 10 w xb lm lb F sh at_ last (E.map fun e => (e.wv, e.bs))
  scan : scanF lm lb last (F.drop at_) = ⟨pairs Q, tail, wrong, en⟩
  le : at_ ≤ F.length
  heldA : last = false → held = (F.length : Int) - at_
  heldB : 0 ≤ held ∧ held ≤ F.length
  qs : ∀ m ∈ Q, MsgAt L w m
  ents : ∀ i (h : i < E.length), Own L E[i].col w 5 1 E[i].v E[i].bs.length (E[i].bs.map byt) ∧ E[i].wcol = 11
  cols : (E.map (·.col) ++ colsQ Q).Nodup
  rng : ∀ c ∈ E.map (·.col) ++ colsQ Q, 50 ≤ c ∧ c < K
  k50 : 50 ≤ K
  small : ∀ i (h : i < E.length), E[i].bs.length ≤ 1000000000000

section
variable {w0 : World} {kb rb xb lm lb K : Nat} {L L' : Nat → Nat} {w w' : World} {F : List UInt8} {sh last : Bool} {at_ told : Nat} {Q : List Msg} {tail : List UInt8} {held wrong : Int} {en : Bool} {E : List Ent}
theorem colsQ_cons (m : Msg) (Q : List Msg) : colsQ (m :: Q) = m.cm :: m.cb :: colsQ Q := by simp [colsQ]
theorem mem_colsQ {m : Msg} {Q : List Msg} (h : m ∈ Q) : m.cm ∈ colsQ Q ∧ m.cb ∈ colsQ Q := by
  unfold colsQ
  exact ⟨List.mem_flatten.2 ⟨_, List.mem_map.2 ⟨m, h, rfl⟩, by simp⟩, List.mem_flatten.2 ⟨_, List.mem_map.2 ⟨m, h, rfl⟩, by simp⟩⟩
theorem Play.qcol (h : Play w0 kb rb xb lm lb K L w F sh last at_ told Q tail held wrong en E) {m : Msg} (hm : m ∈ Q) : 50 ≤ m.cm ∧ m.cm < K ∧ 50 ≤ m.cb ∧ m.cb < K := by
  obtain ⟨a, b⟩ := mem_colsQ hm
  have h1 := h.rng _ (List.mem_append.2 (.inr a))
  have h2 := h.rng _ (List.mem_append.2 (.inr b))
  exact ⟨h1.1, h1.2, h2.1, h2.2⟩
theorem Play.ecol (h : Play w0 kb rb xb lm lb K L w F sh last at_ told Q tail held wrong en E) {i : Nat} (hi : i < E.length) : 50 ≤ E[i].col ∧ E[i].col < K :=
  h.rng _ (List.mem_append.2 (.inl (List.mem_map.2 ⟨_, List.getElem_mem hi, rfl⟩)))

/-- A step that touches none of it. -/
theorem Play.move {C : Nat → Prop} (h : Play w0 kb rb xb lm lb K L w F sh last at_ told Q tail held wrong en E) (st : Step C L w L' w') (hC : ∀ d, C d → 1 ≤ d ∧ d < 10) : Play w0 kb rb xb lm lb K L' w' F sh last at_ told Q tail held wrong en E :=
  ⟨h.step.trans (st.mono fun d hd => (hC d hd).1), h.book.step st (fun d hd h => by have := hC d hd; unfold Bc at h; omega), h.rdr.step st (fun d hd h => by have := hC d hd; unfold Rc at h; omega),
    h.ref.step st (fun d hd h => by have := hC d hd; unfold Xc at h; omega), h.scan, h.le, h.heldA, h.heldB,
    fun m hm => (h.qs m hm).step st (fun hc => by have := hC _ hc; have := h.qcol hm; omega) (fun hc => by have := hC _ hc; have := h.qcol hm; omega),
    fun i hi => ⟨(h.ents i hi).1.step st (fun hc => by have := hC _ hc; have := h.ecol hi; omega), (h.ents i hi).2⟩, h.cols, h.rng, h.k50, h.small⟩
theorem Play.drewN (h : Play w0 kb rb xb lm lb K L w F sh last at_ told Q tail held wrong en E) (k : Nat) : Play w0 kb rb xb lm lb K L (w.drewN k) F sh last at_ told Q tail held wrong en E :=
  h.move ((Step.refl (fun _ => False) L w).drewN k) (fun _ x => x.elim)
theorem Play.below (h : Play w0 kb rb xb lm lb K L w F sh last at_ told Q tail held wrong en E) (hb : Below w.heap.size w w') : ∃ L', Play w0 kb rb xb lm lb K L' w' F sh last at_ told Q tail held wrong en E :=
  ⟨_, h.move (Step.of_below hb (fun _ => False) 6) (fun _ x => x.elim)⟩
theorem Play.sizes (h : Play w0 kb rb xb lm lb K L w F sh last at_ told Q tail held wrong en E) : 24 * Q.length ≤ F.length ∧ tail.length ≤ F.length := by
  have h1 := scan_size lm lb _ (F.drop at_) (Nat.le_refl _) last
  rw [h.scan] at h1
  have h2 := szs_len (pairs Q)
  have e : (pairs Q).length = Q.length := by simp [pairs]
  simp only [List.length_drop] at h1
  have h1' : szs (pairs Q) + tail.length ≤ F.length - at_ := h1
  omega
theorem Play.told_eq (h : Play w0 kb rb xb lm lb K L w F sh last at_ told Q tail held wrong en E) :
    heldV held Q.isEmpty (standS wrong en sh) = rheldV F.length at_ (nextR lm lb last sh (F.drop at_)).s := by
  obtain ⟨n1, n2⟩ := next_scan (lm := lm) (lb := lb) (b := F.drop at_) last sh
  rw [h.scan] at n1 n2
  unfold heldV rheldV
  cases hQ : Q with
  | nil =>
    subst hQ
    obtain ⟨_, hs, _, _, _, hl, hl2⟩ := n1 rfl
    rw [hs]
    show (if ([] : List Msg).isEmpty = true ∧ standS wrong en sh ≠ 1 then 0 else held) = if standS wrong en sh = 1 ∨ standS wrong en sh = 2 then _ else 0
    by_cases h1 : standS wrong en sh = 1
    · rw [if_neg (by simp [h1]), if_pos (.inl h1)]
      refine h.heldA ?_
      cases hlast : last with
      | false => rfl
      | true =>
        have hsc := h.scan
        rw [hlast] at hsc
        have he : en = true := by
          by_cases hb : F.drop at_ = []
          · rw [hb, scan_nil] at hsc; exact (congrArg Scan.e hsc).symm
          · rw [scan_tail hb] at hsc; exact (congrArg Scan.e hsc).symm
        rw [he] at h1
        unfold standS at h1
        split at h1 <;> simp at h1
    · have h2 : standS wrong en sh ≠ 2 := standS_not2 _ _ _
      rw [if_pos ⟨rfl, h1⟩, if_neg (by simp [h1, h2])]
  | cons m q =>
    subst hQ
    obtain ⟨hl, _, hs, _⟩ := n2 _ _ rfl
    rw [hs, if_neg (by simp), if_pos (.inr rfl)]
    exact h.heldA hl

/-- Both are shut. -/
theorem Play.shut (h : Play w0 kb rb xb lm lb K L w F sh last at_ told Q tail held wrong en E) {w1 : World} (s1 : Step (· = 30) L w L w1) (r1 : RdrAt L 30 w1 rb lm lb told Q tail held wrong en true) {L2 : Nat → Nat} {w2 : World}
    (s2 : Step (· = 10) L w1 L2 w2) (r2 : RefAt L2 10 w2 xb lm lb F true at_ last (E.map fun e => (e.wv, e.bs))) : Play w0 kb rb xb lm lb K L2 w2 F true last at_ told Q tail held wrong en E := by
  have st := (s1.mono (D := fun d => d = 10 ∨ d = 30) (fun _ x => .inr x)).trans (s2.mono (fun _ x => .inl x))
  have hC : ∀ d, (d = 10 ∨ d = 30) → 1 ≤ d ∧ d < 50 := fun d hd => by omega
  exact ⟨h.step.trans (st.mono fun d hd => (hC d hd).1), h.book.step st (fun d hd h => by unfold Bc at h; omega), r1.step s2 (fun d hd h => by unfold Rc at h; omega), r2, h.scan, h.le, h.heldA, h.heldB,
    fun m hm => (h.qs m hm).step st (fun hc => by have := hC _ hc; have := h.qcol hm; omega) (fun hc => by have := hC _ hc; have := h.qcol hm; omega),
    fun i hi => ⟨(h.ents i hi).1.step st (fun hc => by have := hC _ hc; have := h.ecol hi; omega), (h.ents i hi).2⟩, h.cols, h.rng, h.k50, h.small⟩

theorem colsQ_append (Q N : List Msg) : colsQ (Q ++ N) = colsQ Q ++ colsQ N := by simp [colsQ]
theorem Coloured.cols {k0 : Nat} : ∀ {N : List Msg}, Coloured L w k0 N → (colsQ N).Nodup ∧ ∀ c ∈ colsQ N, k0 ≤ c ∧ c < k0 + 2 * N.length
  | [], _ => ⟨by simp [colsQ], fun c hc => by simp [colsQ] at hc⟩
  | m :: N, h => by
    have h0 := h 0 (by simp)
    have hN : Coloured L w (k0 + 2) N := fun i hi => by
      have := h (i + 1) (by simp; omega)
      simp only [List.getElem_cons_succ] at this
      exact ⟨this.1, by omega, by omega⟩
    obtain ⟨g1, g2⟩ := Coloured.cols hN
    simp only [List.getElem_cons_zero] at h0
    rw [colsQ_cons]
    refine ⟨List.nodup_cons.2 ⟨fun hc => ?_, List.nodup_cons.2 ⟨fun hc => ?_, g1⟩⟩, fun c hc => ?_⟩
    · rcases List.mem_cons.1 hc with hc | hc
      · omega
      · have := g2 _ hc; omega
    · have := g2 _ hc; omega
    · rcases List.mem_cons.1 hc with hc | hc
      · simp; omega
      · rcases List.mem_cons.1 hc with hc | hc
        · simp; omega
        · have := g2 _ hc; simp; omega

theorem Play.feed (h : Play w0 kb rb xb lm lb K L w F false last at_ told Q tail held wrong en E) {bs : List UInt8} {w1 : World}
    (hp : (wrong ≠ 0 → ∃ L1, Step (Rc 30) L w L1 w1 ∧ RdrAt L1 30 w1 rb lm lb told Q tail (held + bs.length) wrong en false) ∧ (wrong = 0 → ScanPost L 30 w rb lm lb told Q (tail ++ bs) (held + bs.length) en false K w1)) :
    ∃ L1 Q' tail' wrong' en' K', Step (Rc 30) L w L1 w1 ∧ RefAt L1 10 w1 xb lm lb F false at_ last (E.map fun e => (e.wv, e.bs)) ∧
      ∀ L2 w2, Step (Xc 10) L1 w1 L2 w2 → RefAt L2 10 w2 xb lm lb (F ++ bs) false at_ last (E.map fun e => (e.wv, e.bs)) → Play w0 kb rb xb lm lb K' L2 w2 (F ++ bs) false last at_ told Q' tail' (held + bs.length) wrong' en' E := by
  obtain ⟨s1, s2⟩ := scan_append lm lb _ (F.drop at_) (Nat.le_refl _) last bs
  have hd : (F ++ bs).drop at_ = F.drop at_ ++ bs := List.drop_append_of_le_length h.le
  rw [h.scan, ← hd] at s1 s2
  have hk := h.k50
  have hlen : (F ++ bs).length = F.length + bs.length := by simp
  have hA : last = false → held + (bs.length : Int) = ((F ++ bs).length : Int) - at_ := fun hl => by rw [hlen]; have := h.heldA hl; omega
  have hB : 0 ≤ held + (bs.length : Int) ∧ held + (bs.length : Int) ≤ ((F ++ bs).length : Int) := by rw [hlen]; have := h.heldB; omega
  have hle : at_ ≤ (F ++ bs).length := by rw [hlen]; have := h.le; omega
  by_cases hw : wrong = 0
  · obtain ⟨L1, N, st, hr, hN, hc⟩ := hp.2 hw
    have hs := s2 hw
    obtain ⟨c1, c2⟩ := Coloured.cols hc
    refine ⟨L1, Q ++ N, (scanF lm lb en (tail ++ bs)).t, (scanF lm lb en (tail ++ bs)).w, (scanF lm lb en (tail ++ bs)).e, K + 2 * N.length, st, h.ref.step st (fun d hd h => by unfold Rc at hd; unfold Xc at h; omega), fun L2 w2 st2 hr2 => ?_⟩
    have S := (st.mono (D := fun d => Rc 30 d ∨ Xc 10 d) (fun _ x => .inl x)).trans (st2.mono (fun _ x => .inr x))
    have hC : ∀ d, (Rc 30 d ∨ Xc 10 d) → 1 ≤ d ∧ d < 50 := fun d hd => by unfold Rc Xc at hd; omega
    refine ⟨h.step.trans (S.mono fun d hd => (hC d hd).1), h.book.step S (fun d hd h => by unfold Rc Xc at hd; unfold Bc at h; omega), hr.step st2 (fun d hd h => by unfold Xc at hd; unfold Rc at h; omega), hr2, ?_, hle, hA, hB, ?_, ?_, ?_, ?_, by omega, h.small⟩
    · rw [hs]; simp only [pre, ← hN]; simp [pairs]
    · intro m hm
      rcases List.mem_append.1 hm with hm | hm
      · exact (h.qs m hm).step S (fun hc => by have := hC _ hc; have := h.qcol hm; omega) (fun hc => by have := hC _ hc; have := h.qcol hm; omega)
      · obtain ⟨j, hj, rfl⟩ := List.mem_iff_getElem.1 hm
        obtain ⟨a1, a2, a3⟩ := hc j hj
        exact a1.step st2 (fun hc => by unfold Xc at hc; omega) (fun hc => by unfold Xc at hc; omega)
    · exact fun i hi => ⟨(h.ents i hi).1.step S (fun hc => by have := hC _ hc; have := h.ecol hi; omega), (h.ents i hi).2⟩
    · rw [colsQ_append, ← List.append_assoc]
      refine List.nodup_append.2 ⟨h.cols, c1, fun a ha b hb hab => ?_⟩
      have := h.rng a ha
      have := c2 b hb
      omega
    · intro c hcm
      rw [colsQ_append, ← List.append_assoc] at hcm
      rcases List.mem_append.1 hcm with hcm | hcm
      · have := h.rng c hcm; omega
      · have := c2 c hcm; omega
  · obtain ⟨L1, st, hr⟩ := hp.1 hw
    have hs := (s1 hw).1
    refine ⟨L1, Q, tail, wrong, en, K, st, h.ref.step st (fun d hd h => by unfold Rc at hd; unfold Xc at h; omega), fun L2 w2 st2 hr2 => ?_⟩
    have S := (st.mono (D := fun d => Rc 30 d ∨ Xc 10 d) (fun _ x => .inl x)).trans (st2.mono (fun _ x => .inr x))
    have hC : ∀ d, (Rc 30 d ∨ Xc 10 d) → 1 ≤ d ∧ d < 50 := fun d hd => by unfold Rc Xc at hd; omega
    exact ⟨h.step.trans (S.mono fun d hd => (hC d hd).1), h.book.step S (fun d hd h => by unfold Rc Xc at hd; unfold Bc at h; omega), hr.step st2 (fun d hd h => by unfold Xc at hd; unfold Rc at h; omega), hr2, hs, hle, hA, hB,
      fun m hm => (h.qs m hm).step S (fun hc => by have := hC _ hc; have := h.qcol hm; omega) (fun hc => by have := hC _ hc; have := h.qcol hm; omega),
      fun i hi => ⟨(h.ents i hi).1.step S (fun hc => by have := hC _ hc; have := h.ecol hi; omega), (h.ents i hi).2⟩, h.cols, h.rng, hk, h.small⟩
end
end Go.Proofs.Ytcebdodogbpglaa.Rdr
