import Derived.Test.YtcebdodogbpglaaRfG
set_option linter.unusedVariables false
set_option maxRecDepth 100000
/-! FRAMEREADS: over, next. -/
namespace Go.Proofs.Ytcebdodogbpglaa.Rdr
open Go.ChangeShapes Go.WideShapes Go.ChangeAt Go.RowKit Mem Put

abbrev Step2 := Int × List UInt8
/-- A script that is read. -/
def ScriptRd (w : World) (v : Value) (S : List Step2) : Prop :=
  ∃ (vs : List Value), vs.length = S.length ∧ Rd (fun _ => 0) 0 w 2 v S.length (((S.zip vs).map fun x => [.int .i64 x.1.1, x.2]).flatten) ∧
    ∀ i (h : i < S.length) (h2 : i < vs.length), Rd (fun _ => 0) 0 w 1 vs[i] S[i].2.length (S[i].2.map byt) ∧ S[i].2.length ≤ 140737488351232 ∧ -9223372036854775808 ≤ S[i].1 ∧ S[i].1 ≤ 9223372036854775807

theorem zips_get (S : List Step2) (vs : List Value) (hl : vs.length = S.length) (i : Nat) (h : i < S.length) :
    (((S.zip vs).map fun x => [Value.int .i64 x.1.1, x.2]).flatten)[i * 2]? = some (.int .i64 S[i].1) ∧ (((S.zip vs).map fun x => [Value.int .i64 x.1.1, x.2]).flatten)[i * 2 + 1]? = some (vs[i]'(by omega)) := by
  induction S generalizing i vs with
  | nil => simp at h
  | cons x r ih =>
    cases vs with
    | nil => simp at hl
    | cons v vs =>
      cases i with
      | zero => simp
      | succ i =>
        have := ih vs (by simpa using hl) i (by simpa using h)
        rw [show (i + 1) * 2 = i * 2 + 2 from by omega]
        simpa using this

theorem ScriptRd.shape {w : World} {v : Value} {S : List Step2} (h : ScriptRd w v S) : ∃ q cap, v = .slice q S.length cap ∧ S.length ≤ cap ∧ cap ≤ maxLen := by
  obtain ⟨vs, h0, h1, h2⟩ := h
  exact h1.shape

theorem ScriptRd.cells {w : World} {q : Option Addr} {n cap : Nat} {S : List Step2} (h : ScriptRd w (.slice q n cap) S) {i : Nat} (hi : i < S.length) :
    ∃ b off p k, q = some ⟨b, off, none⟩ ∧ w.cell? ⟨b, off + i * 2, none⟩ = some (.int .i64 S[i].1) ∧ w.cell? ⟨b, off + i * 2 + 1, none⟩ = some (.slice p S[i].2.length k) ∧ k ≤ maxLen ∧ S[i].2.length ≤ k ∧
      Rd (fun _ => 0) 0 w 1 (.slice p S[i].2.length k) S[i].2.length (S[i].2.map byt) ∧ S[i].2.length ≤ 140737488351232 ∧ -9223372036854775808 ≤ S[i].1 ∧ S[i].1 ≤ 9223372036854775807 := by
  obtain ⟨vs, h0, ⟨hl, q', cap', hv, hn, hm, hc⟩, h3⟩ := h
  have hi2 : i < vs.length := by omega
  obtain ⟨r1, hb, hk⟩ := h3 i hi hi2
  obtain ⟨g1, g2⟩ := zips_get S vs h0 i hi
  cases hv
  obtain ⟨b, off, hq, _, x1⟩ := hc _ _ g1
  obtain ⟨b', off', hq', _, x2⟩ := hc _ _ g2
  subst hq
  cases hq'
  obtain ⟨p1, k1, e1, n1, m1⟩ := r1.shape
  rw [e1] at x2 r1
  exact ⟨b, off, p1, k1, rfl, x1, by rw [Nat.add_assoc]; exact x2, m1, n1, r1, hb, hk⟩

def totS (S : List Step2) : Nat := (S.map fun o => 1 + o.2.length).sum
theorem totS_take {S : List Step2} {k : Nat} (h : k < S.length) : totS (S.take (k + 1)) = totS (S.take k) + (1 + S[k].2.length) := by
  unfold totS
  rw [List.take_succ_eq_append_getElem h, List.map_append, List.sum_append_nat]
  simp
theorem totS_len (S : List Step2) : S.length ≤ totS S := by
  induction S with
  | nil => simp [totS]
  | cons a r ih => simp only [totS, List.map_cons, List.sum_cons, List.length_cons] at *; omega

def OverPost (S : List Step2) (w : World) (e : Ending) (w' : World) : Prop := ∃ o, e = .returned (.bool o) ∧ (o = false → totS S < 2147483648) ∧ w' = w
theorem over_calls {w : World} {v : Value} {S : List Step2} (h : ScriptRd w v S) :
    Calls Try.prog 20 #[v] w (OverPost S w) := by
  obtain ⟨q, cap, rfl, hn, hm⟩ := h.shape
  unfold maxLen at hm
  go_enter Try.func20, Try.ntmps20
  go_wp2_with fail
  go_loop [3, 4] (fun a i => ∃ k t : Nat, k ≤ S.length ∧ i = .int .i64 k ∧ a = .int .i64 t ∧ t = totS (S.take k) ∧ (t : Int) ≤ 140739640000000) (fun _ i => S.length - (intOf i).toNat)
  case atStart => exact ⟨0, 0, by omega, rfl, rfl, rfl, by omega⟩
  case round =>
    obtain ⟨k, t, hk, rfl, rfl, ht, htb⟩ := hrel
    have HT := Lib.hid ht
    clear ht
    by_cases hlt : k < S.length
    · by_cases h31 : (t : Int) < 2147483648
      · obtain ⟨b, off, p, kc, hq, x1, x2, m1, m2, _, hb, _⟩ := h.cells hlt
        subst hq
        have hts := totS_take hlt
        obtain ⟨X, hX⟩ : ∃ X, X = S[k].2.length := ⟨_, rfl⟩
        rw [← hX] at x2 hts hb
        rw [← HT.out] at hts
        have HTS := Lib.hid hts
        clear hX hts x1
        go_wp2_with fail
        go_round
        case rel => exact ⟨k + 1, t + (1 + X), by omega, by go_num, by first | rfl | (congr 1; omega), HTS.out.symm, by omega⟩
        case measure => simp [intOf]; omega
      · have z9 : decide ((2147483648 : Int) ≤ t) = true := by simp; omega
        go_wp2_with fail
        go_ret
        exact ⟨true, by first | rfl | rw [z9], fun h => by (cases h), rfl⟩
    · have hkE : k = S.length := by omega
      by_cases h31 : (t : Int) < 2147483648
      · have hM : totS S = t := by rw [HT.out, List.take_of_length_le (by omega)]
        have HM := Lib.hid hM
        have z9 : decide ((2147483648 : Int) ≤ t) = false := by simp; omega
        clear hM
        go_wp2_with fail
        go_ret
        exact ⟨false, by first | rfl | rw [z9], fun _ => by rw [HM.out]; omega, rfl⟩
      · have z9 : decide ((2147483648 : Int) ≤ t) = true := by simp; omega
        go_wp2_with fail
        go_ret
        exact ⟨true, by first | rfl | rw [z9], fun h => by (cases h), rfl⟩

theorem nextR_last (lm lb : Nat) (sh : Bool) (b : List UInt8) : (nextR lm lb true sh b).l = true := by
  unfold nextR; rw [if_pos rfl]; split <;> rfl

/-- What the reader's Next leaves. -/
structure FNext (lm lb K : Nat) (L : Nat → Nat) (w : World) (rb : Nat) (F : List UInt8) (sh : Bool) (at_ told : Nat) (Q : List Msg) (tail : List UInt8) (wrong : Int) (en : Bool) (E : List Ent) (R : NextR) (va vb : Value) (w1 : World) (L1 : Nat → Nat) (told1 : Nat) (Q1 : List Msg) (held1 : Int) (c1 c2 : Nat) : Prop where
  step : Step (Rc 30) L w L1 w1
  rdr : RdrAt L1 30 w1 rb lm lb told1 Q1 tail held1 wrong en sh
  told : told1 ≤ told + 1
  own1 : Own L1 c1 w1 5 1 va (R.p.getD ([], [])).1.length ((R.p.getD ([], [])).1.map byt)
  own2 : Own L1 c2 w1 5 1 vb (R.p.getD ([], [])).2.length ((R.p.getD ([], [])).2.map byt)
  cols : (E.map (·.col) ++ (c1 :: c2 :: colsQ Q1)).Nodup
  rng : ∀ c ∈ E.map (·.col) ++ (c1 :: c2 :: colsQ Q1), 50 ≤ c ∧ c < K + 2
  sub : ∀ m ∈ Q1, m ∈ Q
  scan : scanF lm lb R.l (F.drop (at_ + R.n)) = ⟨pairs Q1, tail, wrong, en⟩
  le : at_ + R.n ≤ F.length
  heldA : R.l = false → held1 = (F.length : Int) - ((at_ + R.n : Nat) : Int)
  heldB : 0 ≤ held1 ∧ held1 ≤ F.length
  small : (R.p.getD ([], [])).1.length ≤ F.length ∧ (R.p.getD ([], [])).2.length ≤ F.length

def FNextPost (lm lb K : Nat) (L : Nat → Nat) (w : World) (rb : Nat) (F : List UInt8) (sh : Bool) (at_ told : Nat) (Q : List Msg) (tail : List UInt8) (wrong : Int) (en : Bool) (E : List Ent) (R : NextR) (e : Ending) (w1 : World) : Prop :=
  ∃ va vb L1 told1 Q1 held1 c1 c2, e = .returned (.tuple #[.agg #[va, vb], .int .i64 R.s, .int .i64 R.e]) ∧ FNext lm lb K L w rb F sh at_ told Q tail wrong en E R va vb w1 L1 told1 Q1 held1 c1 c2

theorem fnext_calls {w0 : World} {kb rb xb lm lb K : Nat} {L : Nat → Nat} {w : World} {F : List UInt8} {sh last : Bool} {at_ told : Nat} {Q : List Msg} {tail : List UInt8} {held wrong : Int} {en : Bool} {E : List Ent}
    (h : Play w0 kb rb xb lm lb K L w F sh last at_ told Q tail held wrong en E) (hF : F.length ≤ 5000000000) (ht : told ≤ 5000000000) :
    Calls Try.prog 19 #[.pointer (some ⟨rb, 0, none⟩)] w (FNextPost lm lb K L w rb F sh at_ told Q tail wrong en E (nextR lm lb last sh (F.drop at_))) := by
  obtain ⟨n1, n2⟩ := next_scan (lm := lm) (lb := lb) (b := F.drop at_) last sh
  rw [h.scan] at n1 n2
  obtain ⟨hs1, hs2⟩ := h.sizes
  have hld := h.le
  have hhb := h.heldB
  have hdl : (F.drop at_).length = F.length - at_ := by simp
  have hk := h.k50
  cases hQ : Q with
  | nil =>
    subst hQ
    obtain ⟨hp, hs, he, hn, hsc, hl, hl2⟩ := n1 rfl
    refine (next_none h.rdr (by omega)).mono ?_
    rintro e w1 ⟨rfl, b1⟩
    have st := Step.of_below (L := L) b1 (Rc 30) 6
    have st0 := Step.of_below (L := L) b1 (fun _ => False) 6
    refine ⟨_, _, _, told, [], held, K, K + 1, by rw [hs, he], st, h.rdr.step st0 (fun _ x => x.elim), by omega, ?_, ?_, ?_, ?_, fun m hm => hm, ?_, by omega, ?_, hhb, by rw [hp]; simp⟩
    · rw [hp]; exact Own.nil _ _ _ _ _
    · rw [hp]; exact Own.nil _ _ _ _ _
    · have hc := h.cols
      rw [show colsQ ([] : List Msg) = [] from rfl] at hc ⊢
      rw [List.append_nil] at hc
      refine List.nodup_append.2 ⟨hc, by simp, fun a ha b hb hab => ?_⟩
      have := h.rng a (List.mem_append.2 (.inl ha))
      simp only [List.mem_cons, List.not_mem_nil, or_false] at hb
      omega
    · intro c hc
      rcases List.mem_append.1 hc with hc | hc
      · have := h.rng c (List.mem_append.2 (.inl hc)); omega
      · rw [show colsQ ([] : List Msg) = [] from rfl] at hc
        simp only [List.mem_cons, List.not_mem_nil, or_false] at hc
        omega
    · rw [← List.drop_drop, hsc]
    · intro hlf
      rw [hl hlf]
      have hlast : last = false := by
        cases hla : last with
        | false => rfl
        | true => rw [hla, nextR_last] at hlf; cases hlf
      exact h.heldA hlast
  | cons m Q' =>
    subst hQ
    obtain ⟨hlast, hp, hs, he, hl, hn, hnl, hsc⟩ := n2 _ _ rfl
    have hsz : m.size = (nextR lm lb last sh (F.drop at_)).n := by rw [hn]; rfl
    have hq := h.qcol (m := m) (by simp)
    rw [List.length_cons] at hs1
    refine (next_some h.rdr (by omega) (h.qs m (by simp)) (by omega) (by omega)).mono ?_
    rintro e w1 ⟨rfl, L1, told1, st, hr, ht1⟩
    have hm := (h.qs m (by simp)).step st (fun hc => by unfold Rc at hc; omega) (fun hc => by unfold Rc at hc; omega)
    have hA := h.heldA hlast
    refine ⟨_, _, L1, told1, Q', _, m.cm, m.cb, by rw [hs, he], st, hr, by omega, ?_, ?_, ?_, ?_, fun x hx => by simp [hx], ?_, by omega, ?_, by omega, ?_⟩
    · rw [hp]; exact hm.1
    · rw [hp]; exact hm.2
    · have := h.cols; rw [colsQ_cons] at this; exact this
    · intro c hc
      have := h.rng c (by rw [colsQ_cons]; exact hc)
      omega
    · rw [← List.drop_drop, hl, hsc]; rfl
    · intro _; omega
    · rw [hp]
      have g1 := padU_ge m.ms.length
      have g2 := padU_ge m.bd.length
      have hn' : (nextR lm lb last sh (F.drop at_)).n = 24 + padU m.ms.length + padU m.bd.length := hn
      show m.ms.length ≤ F.length ∧ m.bd.length ≤ F.length
      omega

set_option maxHeartbeats 1000000 in
theorem next_calls {w0 : World} {kb rb xb lm lb K : Nat} {L : Nat → Nat} {w : World} {F : List UInt8} {sh last : Bool} {at_ told : Nat} {Q : List Msg} {tail : List UInt8} {held wrong : Int} {en : Bool} {E : List Ent}
    (h : Play w0 kb rb xb lm lb K L w F sh last at_ told Q tail held wrong en E) (hlm : lm ≤ 65536) (hlb : lb ≤ 4194304) (hF : F.length ≤ 5000000000) (ht : told ≤ 5000000000) (hE : E.length ≤ 50000000000) :
    Calls Try.prog 26 #[.pointer (some ⟨rb, 0, none⟩), .pointer (some ⟨xb, 0, none⟩), .pointer (some ⟨kb, 0, none⟩)] w fun e w' => e = .returned (.bool true) ∧
      ∃ L' K' at' told' last' Q' held' E', Play w0 kb rb xb lm lb K' L' w' F sh last' at' told' Q' tail held' wrong en E' ∧ told' ≤ told + 1 ∧ E'.length ≤ E.length + 2 := by
  have hN := fnext_calls h hF ht
  obtain ⟨R, hR⟩ : ∃ R, R = nextR lm lb last sh (F.drop at_) := ⟨_, rfl⟩
  rw [← hR] at hN
  have HR := Lib.hid hR
  have HP := Lib.hid h
  have hld := h.le
  have HN := Lib.hid hN
  clear hR h hN
  go_enter Try.func26, Try.ntmps26
  go_wp2_with fail
  refine HN.out.mono ?_
  rintro e w1 ⟨va, vb, L1, told1, Q1, held1, c1, c2, rfl, hN1⟩
  have HN1 := Lib.hid hN1
  obtain ⟨P, hP⟩ : ∃ P, P = R.p.getD ([], []) := ⟨_, rfl⟩
  have o1 := hN1.own1
  have o2 := hN1.own2
  rw [← hP] at o1 o2
  have HPP := Lib.hid hP
  clear hP
  obtain ⟨pa, ka, hva, _⟩ := ownsRow_shape o1.1
  obtain ⟨pb, kb', hvb, _⟩ := ownsRow_shape o2.1
  subst hva hvb
  obtain ⟨sA, CA⟩ := Cells.new L1 w1 7 25 [.slice pa P.1.length ka, .slice pb P.2.length kb']
  have hRef := (HP.out.ref.step hN1.step (fun d hd h => by unfold Rc at hd; unfold Xc at h; omega)).step sA (fun _ x => x.elim)
  have hBk := (HP.out.book.step hN1.step (fun d hd h => by unfold Rc at hd; unfold Bc at h; omega)).step sA (fun _ x => x.elim)
  have S1 : Step (fun d => Rc 30 d ∨ d = 10 ∨ Bc 20 d) L w _ _ := (hN1.step.mono (D := fun d => Rc 30 d ∨ d = 10 ∨ Bc 20 d) (fun _ x => .inl x)).trans (sA.mono (fun _ x => x.elim))
  have SR : Step (fun d => d = 10 ∨ Bc 20 d) L1 w1 _ _ := sA.mono (D := fun d => d = 10 ∨ Bc 20 d) (fun _ x => x.elim)
  have ncol : ¬ (c1 = 10 ∨ Bc 20 c1) ∧ ¬ (c2 = 10 ∨ Bc 20 c2) := by
    have g1 := hN1.rng c1 (List.mem_append.2 (.inr (by simp)))
    have g2 := hN1.rng c2 (List.mem_append.2 (.inr (by simp)))
    unfold Bc
    omega
  obtain ⟨vf, h0, h1, h2, h3⟩ := hRef
  obtain ⟨pf, cf, hvf, _⟩ := ownsRow_shape h2.1
  subst hvf
  have HW3 := Lib.hid h3
  clear hN1 h3
  go_wp2_with fail
  refine (rnext_calls (c := 10) (d := 11) hlm hlb h0 h1 (FedAt.of_own h2) (by decide) hld (by omega)).mono ?_
  rw [← HR.out]
  rintro e w2 ⟨v1, v2, rfl, ⟨L2, s2⟩, hx, hp1, hp2⟩
  rw [← HPP.out] at hp1 hp2
  have hx1 := (s2.col xb (lt_of_heap h0)).trans h1
  have f2 := h2.step s2 (by decide)
  have hW2 : ∀ p ∈ E.map (fun e => (e.wv, e.bs)), Want L2 11 w2 (Value.slice pf F.length cf).ownBlock F.length p.1 p.2 := fun p hp => (HW3.out p hp).step s2 (by decide)
  have hw1 := hp1.want f2
  have hw2 := hp2.want f2
  obtain ⟨q1, k1, hv1, _⟩ := hp1
  obtain ⟨q2, k2, hv2, _⟩ := hp2
  subst hv1 hv2
  have S2 := S1.trans (s2.mono (fun _ x => .inr (.inl x)))
  have SR2 := SR.trans (s2.mono (fun _ x => .inl x))
  have hBk2 := hBk.step s2 (by rintro _ rfl h; unfold Bc at h; omega)
  have CA2 := CA.step s2 (by decide)
  obtain ⟨w3, hw3⟩ : ∃ w3, w3 = w2.alloc (.cells #[.slice q1 P.1.length k1, .slice q2 P.2.length k2] 25) := ⟨_, rfl⟩
  obtain ⟨sB, CB⟩ : Step (fun _ => False) L2 w2 (ext L2 w2.heap.size 8) w3 ∧ Cells (ext L2 w2.heap.size 8) w3 w2.heap.size 8 [.slice q1 P.1.length k1, .slice q2 P.2.length k2] := by
    rw [hw3]; exact Cells.new L2 w2 8 25 [.slice q1 P.1.length k1, .slice q2 P.2.length k2]
  generalize ext L2 w2.heap.size 8 = L3 at *
  have S3 := S2.trans (sB.mono (fun _ x => x.elim))
  have SR3 := SR2.trans (sB.mono (fun _ x => x.elim))
  have hBk3 := hBk2.step sB (fun _ x => x.elim)
  have CA3 := CA2.step sB (by simp)
  have f3 := f2.step sB (by simp)
  have hx3 := sB.heap hx (by simp)
  have hx13 := (sB.col xb (lt_of_heap hx)).trans hx1
  have hW3 : ∀ p ∈ E.map (fun e => (e.wv, e.bs)), Want _ 11 _ (Value.slice pf F.length cf).ownBlock F.length p.1 p.2 := fun p hp => (hW2 p hp).step sB (by simp)
  have hw13 := hw1.step sB (by simp)
  have hw23 := hw2.step sB (by simp)
  have HX3 := Lib.hid hx3
  have HW3' := Lib.hid hW3
  clear h0 h1 h2 HW3 s2 sA sB hx hx1 f2 hW2 hw1 hw2 S1 S2 SR SR2 hBk hBk2 CA CA2 hx3 hW3
  obtain ⟨ab, hab⟩ : ∃ ab, ab = w1.heap.size := ⟨_, rfl⟩
  obtain ⟨bb, hbb⟩ : ∃ bb, bb = w2.heap.size := ⟨_, rfl⟩
  rw [← hab] at CA3
  rw [← hbb] at CB
  have a0 : (w2.alloc (.cells #[.slice q1 P.1.length k1, .slice q2 P.2.length k2] 25)).cell? ⟨w1.heap.size, 0, none⟩ = some (.slice pa P.1.length ka) := by rw [← hw3, ← hab]; exact CA3.2.2 0 _ rfl
  have o13 := o1.step SR3 ncol.1
  have o23 := o2.step SR3 ncol.2
  go_wp2_with fail
  rw [← hw3, ← hab, ← hbb]
  clear a0 hw3 hab hbb
  have hSm : ∀ bs : List UInt8, Ink.sameB bs bs = true := fun bs => by simp [Ink.sameB]
  have HSm := Lib.hid hSm
  clear hSm o1 o2
  refine (Ink.same_calls o13.rd hw13.rd).mono ?_; rintro e w4 ⟨rfl, d4, rfl⟩
  rw [HSm.out]
  have a1 := (CA3.drewN d4).2.2 1 _ rfl
  have b1 := (CB.drewN d4).2.2 1 _ rfl
  go_wp2_with fail
  refine (Ink.same_calls (o23.drewN d4).rd (Want.rd hw23)).mono ?_; rintro e w5 ⟨rfl, d5, rfl⟩
  rw [HSm.out]
  obtain ⟨w5, hw5⟩ : ∃ w5, w5 = (w3.drewN d4).drewN d5 := ⟨_, rfl⟩
  have S5 := (S3.drewN d4).drewN d5
  have SR5 := (SR3.drewN d4).drewN d5
  have C5 := (CA3.drewN d4).drewN d5
  have D5 := (CB.drewN d4).drewN d5
  have o15 := (o13.drewN d4).drewN d5
  have o25 := (o23.drewN d4).drewN d5
  have f5 := (f3.drewN d4).drewN d5
  have hx5 : ((w3.drewN d4).drewN d5).heap[xb]? = _ := HX3.out
  have k5 : BookAt L3 20 ((w3.drewN d4).drewN d5) kb (E.map (·.v)) (E.map (·.wv)) [] [] := hBk3
  have hw15 : Want L3 11 ((w3.drewN d4).drewN d5) _ _ _ _ := hw13
  have hw25 : Want L3 11 ((w3.drewN d4).drewN d5) _ _ _ _ := hw23
  have hW5 : ∀ p ∈ E.map (fun e => (e.wv, e.bs)), Want L3 11 ((w3.drewN d4).drewN d5) (Value.slice pf F.length cf).ownBlock F.length p.1 p.2 := HW3'.out
  rw [← hw5] at S5 SR5 C5 D5 o15 o25 f5 hx5 k5 hw15 hw25 hW5 ⊢
  have a2 := C5.2.2 0 _ rfl
  have b2 := D5.2.2 0 _ rfl
  have HX5 := Lib.hid hx5
  have HW5 := Lib.hid hW5
  clear a1 b1 S3 SR3 CA3 CB o13 o23 f3 HX3 hBk3 hw13 hw23 HW3' hw5 hx5 hW5
  go_wp2_with fail
  refine (add_calls k5 (by simp; omega) (by simp; omega) _ _ _ _ _ _).mono ?_; rintro e w6 ⟨rfl, L6, s6, k6⟩
  have C6 := C5.step s6 (by unfold Bc; omega)
  have D6 := D5.step s6 (by unfold Bc; omega)
  have a3 := C6.2.2 1 _ rfl
  have b3 := D6.2.2 1 _ rfl
  clear a2 b2 C5 D5 k5
  go_wp2_with fail
  refine (add_calls k6 (by simp; omega) (by simp; omega) _ _ _ _ _ _).mono ?_; rintro e w7 ⟨rfl, L7, s7, k7⟩
  have s67 := s6.trans s7
  have z1 : (R.s == R.s) = true := by simp
  have z2 : (R.e == R.e) = true := by simp
  clear a3 b3 C6 D6 k6 s6 s7
  go_wp2_with fail
  go_ret
  have HN := HN1.out
  have hP := HP.out
  have S7 := S5.trans (s67.mono (D := fun d => Rc 30 d ∨ d = 10 ∨ Bc 20 d) (fun _ x => .inr (.inr x)))
  have SR7 := SR5.trans (s67.mono (D := fun d => d = 10 ∨ Bc 20 d) (fun _ x => .inr x))
  have hC7 : ∀ d, (Rc 30 d ∨ d = 10 ∨ Bc 20 d) → 1 ≤ d ∧ d < 50 := fun d hd => by unfold Rc Bc at hd; omega
  refine ⟨rfl, L7, K + 2, at_ + R.n, told1, R.l, Q1, held1, E ++ [⟨.slice pa P.1.length ka, P.1, c1, .slice q1 P.1.length k1, 11⟩, ⟨.slice pb P.2.length kb', P.2, c2, .slice q2 P.2.length k2, 11⟩], ?_, HN.told, by simp⟩
  refine ⟨hP.step.trans (S7.mono fun d hd => (hC7 d hd).1), by simpa using k7, HN.rdr.step SR7 (fun d hd h => by unfold Bc at hd; unfold Rc at h; omega), ?_, HN.scan, HN.le, HN.heldA, HN.heldB,
    fun m hm => (hP.qs m (HN.sub m hm)).step S7 (fun hc => by have := hC7 _ hc; have := hP.qcol (HN.sub m hm); omega) (fun hc => by have := hC7 _ hc; have := hP.qcol (HN.sub m hm); omega), ?_, ?_, ?_, by have := hP.k50; omega, ?_⟩
  · refine ⟨_, s67.heap HX5.out (by rw [hx13]; unfold Bc; omega), (s67.col xb (lt_of_heap HX5.out)).trans hx13, f5.step s67 (by unfold Bc; omega), fun p hp => ?_⟩
    rw [List.map_append] at hp
    rcases List.mem_append.1 hp with hp | hp
    · exact (HW5.out p hp).step s67 (by unfold Bc; omega)
    · simp only [List.map_cons, List.map_nil, List.mem_cons, List.not_mem_nil, or_false] at hp
      rcases hp with rfl | rfl
      · exact hw15.step s67 (by unfold Bc; omega)
      · exact hw25.step s67 (by unfold Bc; omega)
  · intro i hi
    have hm := List.getElem_mem hi
    generalize (E ++ [(⟨.slice pa P.1.length ka, P.1, c1, .slice q1 P.1.length k1, 11⟩ : Ent), ⟨.slice pb P.2.length kb', P.2, c2, .slice q2 P.2.length k2, 11⟩])[i] = x at hm ⊢
    rcases List.mem_append.1 hm with hm | hm
    · obtain ⟨j, hj, rfl⟩ := List.mem_iff_getElem.1 hm
      exact ⟨(hP.ents j hj).1.step S7 (fun hc => by have := hC7 _ hc; have := hP.ecol hj; omega), (hP.ents j hj).2⟩
    · simp only [List.mem_cons, List.not_mem_nil, or_false] at hm
      rcases hm with rfl | rfl
      · exact ⟨o15.step s67 (fun hc => ncol.1 (.inr hc)), rfl⟩
      · exact ⟨o25.step s67 (fun hc => ncol.2 (.inr hc)), rfl⟩
  · have := HN.cols
    simpa using this
  · intro c hc
    exact HN.rng c (by simpa using hc)
  · intro i hi
    have hm := List.getElem_mem hi
    have hsm := HN.small
    rw [← HPP.out] at hsm
    generalize (E ++ [(⟨.slice pa P.1.length ka, P.1, c1, .slice q1 P.1.length k1, 11⟩ : Ent), ⟨.slice pb P.2.length kb', P.2, c2, .slice q2 P.2.length k2, 11⟩])[i] = x at hm ⊢
    rcases List.mem_append.1 hm with hm | hm
    · obtain ⟨j, hj, rfl⟩ := List.mem_iff_getElem.1 hm
      exact hP.small j hj
    · simp only [List.mem_cons, List.not_mem_nil, or_false] at hm
      rcases hm with rfl | rfl
      · show P.1.length ≤ _; omega
      · show P.2.length ≤ _; omega

end Go.Proofs.Ytcebdodogbpglaa.Rdr
