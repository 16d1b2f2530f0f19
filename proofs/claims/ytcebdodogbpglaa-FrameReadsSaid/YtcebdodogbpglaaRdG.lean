import Derived.Test.YtcebdodogbpglaaRdF
set_option linter.unusedVariables false
set_option maxRecDepth 100000
/-! Feed AND Next. -/
namespace Go.Proofs.Ytcebdodogbpglaa.Rdr
open Go.ChangeShapes Go.WideShapes Go.ChangeAt Go.RowKit Mem Put

/-- What a feeding leaves, where nothing was wrong or shut. -/
theorem feed_calls {L : Nat → Nat} {c d : Nat} {w : World} {rb lm lb told : Nat} {Q : List Msg} {tail bs : List UInt8} {held wrong : Int} {en : Bool} (k0 : Nat) (hk0 : c + 3 ≤ k0) (h : RdrAt L c w rb lm lb told Q tail held wrong en false) (hlm : lm ≤ 65536) (hlb : lb ≤ 4194304)
    {p : Option Addr} {n cap : Nat} (hr : Rd L d w 1 (.slice p n cap) n (bs.map byt)) (hd : ¬ Rc c d) (hB : tail.length + n ≤ 10000000000) (hQ : told + Q.length ≤ 100000000000) (hh : -1000000000000 ≤ held ∧ held ≤ 1000000000000) :
    Calls Try.prog 22 #[.pointer (some ⟨rb, 0, none⟩), .slice p n cap] w fun e w' => e = .returned (.int .i64 0) ∧
      (wrong ≠ 0 → ∃ L', Step (Rc c) L w L' w' ∧ RdrAt L' c w' rb lm lb told Q tail (held + n) wrong en false) ∧
      (wrong = 0 → ScanPost L c w rb lm lb told Q (tail ++ bs) (held + n) en false k0 w') := by
  have hbl : bs.length = n := by simpa using hr.1
  subst hbl
  obtain ⟨_, _, hv, hcn, hcm⟩ := hr.shape
  cases hv
  obtain ⟨vq, vb, h0, h1, h2, h3⟩ := h
  obtain ⟨pb, cb, hvb, _⟩ := ownsRow_shape h3.1
  subst hvb
  have c4 : w.cell? ⟨rb, 4, none⟩ = some (.slice pb tail.length cb) := by rw [cell_of_heap h0]; rfl
  have c5 : w.cell? ⟨rb, 5, none⟩ = some (.int .i64 held) := by rw [cell_of_heap h0]; rfl
  have c6 : w.cell? ⟨rb, 6, none⟩ = some (.int .i64 wrong) := by rw [cell_of_heap h0]; rfl
  have c8 : w.cell? ⟨rb, 8, none⟩ = some (.bool false) := by rw [cell_of_heap h0]; rfl
  have d5 : w.frozen? ⟨rb, 5, none⟩ = false := frozen_of_heap h0
  obtain ⟨s1, f0⟩ := Step.store (j := 5) (v := .int .i64 (held + bs.length)) h0 h1
  have g2 := h2.step s1 (by omega)
  have g3 := h3.step s1 (by omega)
  have hr1 := hr.step s1 (by rintro rfl; exact hd (by unfold Rc; omega))
  have S1 := s1.mono (D := Rc c) (by rintro _ rfl; unfold Rc; omega)
  have H0 := Lib.hid h0
  clear h0
  by_cases hw : wrong = 0
  · subst hw
    have e4 : (w.setCell ⟨rb, 5, none⟩ (.int .i64 (held + bs.length))).cell? ⟨rb, 4, none⟩ = some (.slice pb tail.length cb) := by rw [cell_of_heap f0]; rfl
    go_enter Try.func22, Try.ntmps22
    go_wp2_with (at_builtin; refine wpList_append rfl (.tmp 27) (.tmp 28) 23 23 rfl 5 Try.underlying23 Ink.infoByte rfl (by decide) _ tail.length (tail.map byt) rfl g3.1 _ bs.length (bs.map byt) rfl (Rd.src hr1 Try.underlying23 (byt_oneCell bs)) (by unfold maxLen; omega) (by omega) ?_)
    intro v2 w2 hown2 hg2 hblk _
    obtain ⟨T, hT⟩ : ∃ T, T = tail ++ bs := ⟨_, rfl⟩
    have hTl : T.length = tail.length + bs.length := by rw [hT]; simp
    have hTb : T.length ≤ 10000000000 := by omega
    have hown3 : w2.ownsRow 0 5 1 v2 T.length (T.map byt) := by rw [hT]; simpa using hown2
    have HT := Lib.hid hT
    clear hT hTl
    obtain ⟨L2, S2, o2, s2⟩ := Own.grown (C := Rc c) S1 (by unfold Rc; omega) g3 (Below.refl _ _) hown3 hg2 (by simpa [World.setCell] using hblk)
    have q0 := s2.heap f0 (by rw [h1]; omega)
    have q1 : L2 rb = c := (s2.col rb (lt_of_heap f0)).trans h1
    have q2 := g2.step s2 (by omega)
    obtain ⟨p2, k2, hv2, _⟩ := ownsRow_shape o2.1
    subst hv2
    obtain ⟨s3, f3⟩ := Step.store (j := 4) (v := .slice p2 T.length k2) q0 q1
    have e4 : w2.cell? ⟨rb, 4, none⟩ = some (.slice pb tail.length cb) := by rw [cell_of_heap q0]; rfl
    have d4 : w2.frozen? ⟨rb, 4, none⟩ = false := frozen_of_heap q0
    have S3 := S2.trans (s3.mono (D := Rc c) (by rintro _ rfl; unfold Rc; omega))
    have hR : RdrAt L2 c (w2.setCell ⟨rb, 4, none⟩ (.slice p2 T.length k2)) rb lm lb told Q T (held + bs.length) 0 en false := ⟨vq, _, f3, q1, q2.step s3 (by omega), o2.step s3 (by omega)⟩
    have HR := Lib.hid hR
    clear hR hown2 hown3 hg2 hblk g2 g3 f0 s1 S1 S2 o2 s2 q0 q2 s3 f3 H0 hr1
    go_wp2_with fail
    refine (scan_calls k0 hk0 HR.out hlm hlb hTb hQ).mono ?_; rintro e w4 ⟨rfl, hP⟩
    go_wp2_with fail
    go_ret
    refine ⟨rfl, fun h => absurd rfl h, fun _ => ?_⟩
    obtain ⟨L', N, a1, a2⟩ := hP
    rw [HT.out] at a2
    exact ⟨L', N, S3.trans a1, a2⟩
  · have z1 : (wrong != 0) = true := by simpa using hw
    have HW := Lib.hid hw
    clear hw
    go_enter Try.func22, Try.ntmps22
    go_wp2_with fail
    go_ret
    exact ⟨rfl, fun _ => ⟨L, S1, vq, _, f0, h1, g2, g3⟩, fun h => absurd h HW.out⟩

end Go.Proofs.Ytcebdodogbpglaa.Rdr
