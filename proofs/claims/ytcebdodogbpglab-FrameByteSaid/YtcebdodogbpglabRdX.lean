import Derived.Test.YtcebdodogbpglabRdQ
set_option linter.unusedVariables false
set_option maxRecDepth 100000
/-! ONE BYTE IS ANOTHER ONE. -/
namespace Go.Proofs.Ytcebdodogbpglab.Rdr
open Put Mem

theorem mul_back (v : Nat) (h : v < 4294967296) : (v * 16777619 % 4294967296) * 899433627 % 4294967296 = v := by
  rw [Nat.mod_mul_mod, Nat.mul_assoc, show 16777619 * 899433627 = 15090354709594113 from by decide]
  omega
theorem xor_lt (h : Nat) (hh : h < 4294967296) (b : UInt8) : h ^^^ b.toNat < 4294967296 := by
  have := b.toNat_lt
  exact Nat.xor_lt_two_pow (n := 32) hh (by omega)
theorem sumS_inj {h h' : Nat} (hh : h < 4294967296) (hh' : h' < 4294967296) {b b' : UInt8} (e : sumS h b = sumS h' b') : h ^^^ b.toNat = h' ^^^ b'.toNat := by
  unfold sumS at e
  have h1 := mul_back _ (xor_lt h hh b)
  have h2 := mul_back _ (xor_lt h' hh' b')
  rw [e, h2] at h1
  exact h1.symm
theorem sumS_left {h h' : Nat} (hh : h < 4294967296) (hh' : h' < 4294967296) {b : UInt8} (e : sumS h b = sumS h' b) : h = h' := by
  have := sumS_inj hh hh' e
  have h2 := congrArg (· ^^^ b.toNat) this
  simpa [Nat.xor_assoc] using h2
theorem sumS_right {h : Nat} (hh : h < 4294967296) {b b' : UInt8} (e : sumS h b = sumS h b') : b = b' := by
  have := sumS_inj hh hh e
  have h2 := congrArg (h ^^^ ·) this
  apply UInt8.toNat_inj.1
  simpa [← Nat.xor_assoc] using h2
theorem sumV_left {h h' : Nat} (hh : h < 4294967296) (hh' : h' < 4294967296) : ∀ (l : List UInt8), sumV h l = sumV h' l → h = h'
  | [], e => e
  | b :: r, e => sumS_left hh hh' (sumV_left (sumS_lt _ _) (sumS_lt _ _) r e)
/-- One byte is another one: the sum is another one. -/
theorem sumV_ne {h : Nat} (hh : h < 4294967296) {l l' : List UInt8} (hl : l.length = l'.length) (i : Nat) (h1 : i < l.length) (hne : l[i] ≠ l'[i]'(by omega)) (hs : ∀ j (h2 : j < l.length), j ≠ i → l[j] = l'[j]'(by omega)) : sumV h l ≠ sumV h l' := by
  intro e
  have a1 : l = l.take i ++ (l[i] :: l.drop (i + 1)) := by rw [List.getElem_cons_drop]; exact (List.take_append_drop i l).symm
  have a2 : l' = l'.take i ++ (l'[i]'(by omega) :: l'.drop (i + 1)) := by rw [List.getElem_cons_drop]; exact (List.take_append_drop i l').symm
  have t1 : l.take i = l'.take i := by
    apply List.ext_getElem (by simp [hl])
    intro j hj hj'
    simp at hj
    simp [hs j (by omega) (by omega)]
  have t2 : l.drop (i + 1) = l'.drop (i + 1) := by
    apply List.ext_getElem (by simp [hl])
    intro j hj hj'
    simp at hj
    simp [hs (i + 1 + j) (by omega) (by omega)]
  rw [a1, a2, t1, t2, sumV_append, sumV_append] at e
  have hX := sumV_lt hh (l'.take i)
  have e2 : sumV (sumS (sumV h (l'.take i)) l[i]) (l'.drop (i + 1)) = sumV (sumS (sumV h (l'.take i)) (l'[i]'(by omega))) (l'.drop (i + 1)) := e
  exact hne (sumS_right hX (sumV_left (sumS_lt _ _) (sumS_lt _ _) _ e2))
theorem leV_inj : ∀ {l l' : List UInt8}, l.length = l'.length → leV l = leV l' → l = l'
  | [], [], _, _ => rfl
  | a :: r, b :: r', hl, e => by
    have h1 := a.toNat_lt
    have h2 := b.toNat_lt
    simp only [leV] at e
    have e1 : a.toNat = b.toNat := by omega
    have e2 : leV r = leV r' := by omega
    rw [UInt8.toNat_inj.1 e1, leV_inj (by simpa using hl) e2]

/-- Two lists that are the same but at one place. -/
structure Differ (x z : List UInt8) (i : Nat) : Prop where
  len : x.length = z.length
  lt : i < x.length
  ne : x[i]? ≠ z[i]?
  same : ∀ j, j ≠ i → x[j]? = z[j]?

theorem Differ.sum {x z : List UInt8} {i : Nat} (h : Differ x z i) {s : Nat} (hs : s < 4294967296) : sumV s x ≠ sumV s z := by
  have hl := h.lt
  have hlen := h.len
  refine sumV_ne hs h.len i hl (fun e => h.ne ?_) fun j h2 hj => ?_
  · rw [List.getElem?_eq_getElem hl, List.getElem?_eq_getElem (by omega), e]
  · have := h.same j hj
    rw [List.getElem?_eq_getElem h2, List.getElem?_eq_getElem (by omega)] at this
    exact Option.some.inj this
theorem Differ.seg {x z : List UInt8} {i a m : Nat} (h : Differ x z i) (hm : a + m ≤ x.length) (h1 : a ≤ i) (h2 : i < a + m) : Differ (Rdr.seg x a m) (Rdr.seg z a m) (i - a) := by
  have hl := h.len
  refine ⟨by simp [Rdr.seg]; omega, by simp [Rdr.seg]; omega, ?_, fun j hj => ?_⟩
  · simp only [Rdr.seg, List.getElem?_take, List.getElem?_drop, show i - a < m from by omega, if_true, show a + (i - a) = i from by omega]
    exact h.ne
  · simp only [Rdr.seg, List.getElem?_take, List.getElem?_drop]
    split
    · exact h.same (a + j) (by omega)
    · rfl
theorem Differ.seg_same {x z : List UInt8} {i a m : Nat} (h : Differ x z i) (h1 : i < a ∨ a + m ≤ i) : Rdr.seg x a m = Rdr.seg z a m := by
  apply List.ext_getElem?
  intro j
  simp only [Rdr.seg, List.getElem?_take, List.getElem?_drop]
  split
  · exact h.same (a + j) (by omega)
  · rfl
theorem Differ.n4_same {x z : List UInt8} {i a : Nat} (h : Differ x z i) (h1 : i < a ∨ a + 4 ≤ i) : n4 x a = n4 z a := congrArg leV (h.seg_same (m := 4) h1)
theorem Differ.n4_ne {x z : List UInt8} {i a : Nat} (h : Differ x z i) (hm : a + 4 ≤ x.length) (h1 : a ≤ i) (h2 : i < a + 4) : n4 x a ≠ n4 z a := fun e => by
  have d := h.seg hm h1 h2
  have := leV_inj d.len e
  exact d.ne (by rw [this])
theorem Differ.take_seg (x : List UInt8) (k : Nat) : x.take k = Rdr.seg x 0 k := by simp [Rdr.seg]

/-- WHAT IS LOOKED AT IS NOT RIGHT. -/
theorem differ_look (last : UInt8) (ms bd : List UInt8) (hl : last = 49 ∨ (last = 48 ∧ ms = [] ∧ bd = [])) {lm lb : Nat} (hm : ms.length ≤ lm) (hb : bd.length ≤ lb) (hlm : lm ≤ 65536) (hlb : lb ≤ 4194304) {z y : List UInt8} {i : Nat}
    (h : Differ (msgB last ms bd) z i) : lookE (z ++ y) lm lb ≠ 0 := by
  obtain ⟨hE, hN, g1, g2, g3, s1, s2⟩ := msg_look last ms bd hl hm hb hlm hlb
  have hL := msg_length last ms bd
  have hp1 := padU_ge ms.length
  have hp2 := padU_ge bd.length
  have hzl := h.len
  have hil := h.lt
  have h16 : 16 ≤ (msgB last ms bd).length := by omega
  have hM : markB (msgB last ms bd) = true := by
    cases e : markB (msgB last ms bd) with
    | true => rfl
    | false => rw [lookE, if_pos e] at hE; cases hE
  rw [lookE_rest hM h16] at hE
  have hfx : fromV (msgB last ms bd) = 24 + padU ms.length := by rw [fromV, g1]
  have hsx : sizeV (msgB last ms bd) = (msgB last ms bd).length := by rw [sizeV, hfx, g2, hL]
  generalize msgB last ms bd = x at *
  have c1 : n4 x 12 = sumV firstV (x.take 12) := by
    rcases Classical.em (n4 x 12 = sumV firstV (x.take 12)) with e | e
    · exact e
    · rw [restE, if_pos e] at hE; cases hE
  have c0 : ¬ (n4 x 12 ≠ sumV firstV (x.take 12)) := fun h => h c1
  have c2 : ¬ (lm < n4 x 4 ∨ lb < n4 x 8) := by rw [g1, g2]; omega
  have c3 : ¬ (x[3]? = some 48 ∧ (n4 x 4 ≠ 0 ∨ n4 x 8 ≠ 0)) := by
    rw [g1, g2, g3]
    rcases hl with rfl | ⟨rfl, rfl, rfl⟩
    · rintro ⟨h1, _⟩; cases h1
    · rintro ⟨_, h1⟩; simp at h1
  rw [restE, if_neg c0, if_neg c2, if_neg c3] at hE
  have c4 : zerosB x 20 24 = true ∧ zerosB x (24 + n4 x 4) (fromV x) = true ∧ zerosB x (fromV x + n4 x 8) (sizeV x) = true := by
    rcases Classical.em (zerosB x 20 24 = false ∨ zerosB x (24 + n4 x 4) (fromV x) = false ∨ zerosB x (fromV x + n4 x 8) (sizeV x) = false) with e | e
    · rw [if_pos e] at hE; cases hE
    · simpa only [not_or, Bool.not_eq_false] using e
  rw [if_neg (by rw [c4.1, c4.2.1, c4.2.2]; simp)] at hE
  have c5 : n4 x 16 = sumV (sumV firstV (seg x 24 (n4 x 4))) (seg x (fromV x) (n4 x 8)) := by
    rcases Classical.em (n4 x 16 = sumV (sumV firstV (seg x 24 (n4 x 4))) (seg x (fromV x) (n4 x 8))) with e | e
    · exact e
    · rw [if_pos ⟨by rw [hsx]; exact Nat.le_refl _, e⟩] at hE; cases hE
  clear hE hN
  -- the changed one
  intro hE
  have hzE : lookE z lm lb = 0 := by
    rcases Int.decEq (lookE z lm lb) 0 with e | e
    · exact absurd ((look_err (y := y) e).symm.trans hE) e
    · exact e
  clear hE
  have hMz : markB z = true := by
    cases e : markB z with
    | true => rfl
    | false => rw [lookE, if_pos e] at hzE; cases hzE
  rw [lookE_rest hMz (by omega)] at hzE
  have d1 : n4 z 12 = sumV firstV (z.take 12) := by
    rcases Classical.em (n4 z 12 = sumV firstV (z.take 12)) with e | e
    · exact e
    · rw [restE, if_pos e] at hzE; cases hzE
  have hfirst : firstV < 4294967296 := by unfold firstV; omega
  by_cases i12 : i < 12
  · have e1 : n4 x 12 = n4 z 12 := h.n4_same (.inl i12)
    rw [c1, d1, Differ.take_seg x, Differ.take_seg z] at e1
    exact (h.seg (a := 0) (m := 12) (by omega) (by omega) (by omega)).sum hfirst e1
  · by_cases i16 : i < 16
    · have e1 := h.n4_ne (a := 12) (by omega) (by omega) (by omega)
      apply e1
      rw [c1, d1, Differ.take_seg x, Differ.take_seg z, h.seg_same (a := 0) (m := 12) (by omega)]
    · have m1 : n4 z 4 = n4 x 4 := (h.n4_same (by omega)).symm
      have m2 : n4 z 8 = n4 x 8 := (h.n4_same (by omega)).symm
      have m3 : fromV z = fromV x := by unfold fromV; rw [m1]
      have m4 : sizeV z = sizeV x := by unfold sizeV; rw [m3, m2]
      have m5 : z[3]? = x[3]? := (h.same 3 (by omega)).symm
      rw [restE, if_neg (fun h => h d1), if_neg (by rw [m1, m2]; exact c2), if_neg (by rw [m5, m1, m2]; exact c3), m1, m2, m3, m4] at hzE
      have d4 : zerosB z 20 24 = true ∧ zerosB z (24 + n4 x 4) (fromV x) = true ∧ zerosB z (fromV x + n4 x 8) (sizeV x) = true := by
        rcases Classical.em (zerosB z 20 24 = false ∨ zerosB z (24 + n4 x 4) (fromV x) = false ∨ zerosB z (fromV x + n4 x 8) (sizeV x) = false) with e | e
        · rw [if_pos e] at hzE; cases hzE
        · simpa only [not_or, Bool.not_eq_false] using e
      rw [if_neg (by rw [d4.1, d4.2.1, d4.2.2]; simp)] at hzE
      have d5 : n4 z 16 = sumV (sumV firstV (seg z 24 (n4 x 4))) (seg z (fromV x) (n4 x 8)) := by
        rcases Classical.em (n4 z 16 = sumV (sumV firstV (seg z 24 (n4 x 4))) (seg z (fromV x) (n4 x 8))) with e | e
        · exact e
        · rw [if_pos ⟨by rw [hsx]; omega, e⟩] at hzE; cases hzE
      have zer : ∀ {f t : Nat}, zerosB x f t = true → zerosB z f t = true → f ≤ i → i < t → False := fun a b h1 h2 => by
        have e1 := zerosB_iff.1 a i hil h1 h2
        have e2 := zerosB_iff.1 b i (by omega) h1 h2
        exact h.ne (by rw [List.getElem?_eq_getElem hil, List.getElem?_eq_getElem (by omega), e1, e2])
      have hfl : 24 + n4 x 4 ≤ fromV x ∧ fromV x + n4 x 8 ≤ sizeV x := size_bounds x
      by_cases i20 : i < 20
      · apply h.n4_ne (a := 16) (by omega) (by omega) (by omega)
        rw [c5, d5, h.seg_same (by omega), h.seg_same (a := fromV x) (by omega)]
      · by_cases i24 : i < 24
        · exact zer c4.1 d4.1 (by omega) i24
        · by_cases im : i < 24 + n4 x 4
          · have e1 : n4 x 16 = n4 z 16 := h.n4_same (by omega)
            rw [c5, d5, h.seg_same (a := fromV x) (by omega)] at e1
            have := sumV_left (sumV_lt hfirst _) (sumV_lt hfirst _) _ e1
            exact (h.seg (a := 24) (m := n4 x 4) (by omega) (by omega) im).sum hfirst this
          · by_cases ip : i < fromV x
            · exact zer c4.2.1 d4.2.1 (by omega) ip
            · by_cases ib : i < fromV x + n4 x 8
              · have e1 : n4 x 16 = n4 z 16 := h.n4_same (by omega)
                rw [c5, d5, h.seg_same (a := 24) (by omega)] at e1
                exact (h.seg (a := fromV x) (m := n4 x 8) (by omega) (by omega) ib).sum (sumV_lt hfirst _) e1
              · exact zer c4.2.2 d4.2.2 (by omega) (by omega)

/-- A STREAM WITH ONE BYTE CHANGED. -/
theorem scan_byte {lm lb : Nat} (hlm : lm ≤ 65536) (hlb : lb ≤ 4194304) : ∀ (M : List Pair) (S : List UInt8) (k : Nat), Fits lm lb M → Differ (streamB M) S k → ∃ E, E ≠ 0 ∧ scanF lm lb false S = ⟨M.take (cnt M k), [], E, false⟩
  | [], S, k, _, h => by
    rw [show streamB [] = msgB 48 [] [] from by simp [streamB]] at h
    have hE := differ_look 48 [] [] (.inr ⟨rfl, rfl, rfl⟩) (lm := lm) (lb := lb) (by simp) (by simp) hlm hlb (y := []) h
    rw [List.append_nil] at hE
    have hne : S ≠ [] := by intro e; have h1 := h.len; have h2 := h.lt; rw [e, List.length_nil] at h1; omega
    exact ⟨_, hE, by rw [scan_bad hne hE]; simp [cnt]⟩
  | m :: M, S, k, hf, h => by
    rw [streamB_cons] at h
    have hlen := h.len
    have hlt := h.lt
    rw [List.length_append] at hlen hlt
    obtain ⟨A, hA⟩ : ∃ A, A = msgB 49 m.1 m.2 := ⟨_, rfl⟩
    rw [← hA] at h hlen hlt
    have hS : S = S.take A.length ++ S.drop A.length := (List.take_append_drop _ _).symm
    by_cases hl : A.length ≤ k
    · have e1 : S.take A.length = A := by
        apply List.ext_getElem?
        intro j
        rw [List.getElem?_take]
        split
        · rename_i hj
          rw [← h.same j (by omega), List.getElem?_append_left hj]
        · rw [List.getElem?_eq_none (by omega)]
      have d : Differ (streamB M) (S.drop A.length) (k - A.length) := by
        refine ⟨by simp; omega, by omega, ?_, fun j hj => ?_⟩
        · have := h.ne
          rw [List.getElem?_append_right hl] at this
          rw [List.getElem?_drop, show A.length + (k - A.length) = k from by omega]
          exact this
        · have := h.same (A.length + j) (by omega)
          rw [List.getElem?_append_right (by omega), Nat.add_sub_cancel_left] at this
          rw [List.getElem?_drop]; exact this
      obtain ⟨E, hE, hs⟩ := scan_byte hlm hlb M _ _ (fun x hx => hf x (by simp [hx])) d
      refine ⟨E, hE, ?_⟩
      rw [hS, e1, hA, scan_msg hlm hlb m (hf m (by simp)), ← hA, hs, cnt, ← hA, if_pos hl]
      simp [pre, Nat.add_comm 1]
    · have d : Differ A (S.take A.length) k := by
        refine ⟨by simp; omega, by omega, ?_, fun j hj => ?_⟩
        · have := h.ne
          rw [List.getElem?_append_left (by omega)] at this
          rw [List.getElem?_take, if_pos (by omega)]; exact this
        · rw [List.getElem?_take]
          split
          · rename_i h2
            rw [← h.same j hj, List.getElem?_append_left h2]
          · rw [List.getElem?_eq_none (by omega)]
      rw [hA] at d
      have hE := differ_look 49 m.1 m.2 (.inl rfl) (hf m (by simp)).1 (hf m (by simp)).2 hlm hlb (y := S.drop A.length) d
      rw [← hA, ← hS] at hE
      have hne : S ≠ [] := by intro e; rw [e, List.length_nil] at hlen; omega
      exact ⟨_, hE, by rw [scan_bad hne hE, cnt, ← hA, if_neg hl]; simp⟩

theorem xor_ne (a b : UInt8) (hb : b ≠ 0) : a ^^^ b ≠ a := by
  intro e
  apply hb
  have := congrArg (a ^^^ ·) e
  simpa [← UInt8.xor_assoc] using this
theorem differ_set {x : List UInt8} {i : Nat} (h : i < x.length) {b : UInt8} (hb : b ≠ x[i]) : Differ x (x.set i b) i :=
  ⟨by simp, h, by rw [List.getElem?_set_self h, List.getElem?_eq_getElem h]; intro e; exact hb (Option.some.inj e).symm, fun j hj => by rw [List.getElem?_set_ne (Ne.symm hj)]⟩

end Go.Proofs.Ytcebdodogbpglab.Rdr
