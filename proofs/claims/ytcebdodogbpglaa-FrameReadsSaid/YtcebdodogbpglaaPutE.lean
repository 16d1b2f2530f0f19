import Derived.Test.YtcebdodogbpglaaPutD
set_option linter.unusedVariables false
set_option maxRecDepth 100000
/-! THE PROGRAM'S PUT AND CLOSE. -/
namespace Go.Proofs.Ytcebdodogbpglaa.Put
open Go.ChangeShapes Go.WideShapes Go.ChangeAt Go.RowKit Mem Ink

theorem fput_calls {L : Nat → Nat} {c c1 c2 : Nat} (h1 : c1 ≠ c) (h2 : c2 ≠ c) {w : World} {p q : Option Addr} {n cap k cap2 : Nat} {ms bd : List UInt8} (hr : Rd L c1 w 1 (.slice p n cap) n (ms.map byt)) (hs : Rd L c2 w 1 (.slice q k cap2) k (bd.map byt)) :
    Calls Try.prog 11 #[.agg #[.slice p n cap, .slice q k cap2]] w (LaidE L c w (putB ms bd) (putE ms.length bd.length)) := by
  have hnl : ms.length = n := by simpa using hr.1
  have hkl : bd.length = k := by simpa using hs.1
  subst hnl hkl
  obtain ⟨_, _, hv, hn, hm⟩ := hr.shape
  cases hv
  obtain ⟨_, _, hv, hn2, hm2⟩ := hs.shape
  cases hv
  unfold maxLen at hm hm2
  have st0 := Step.of_below (L := L) (below_alloc w (.cells #[.slice p ms.length cap, .slice q bd.length cap2] 25)) (fun _ => False) (c + 1)
  by_cases q1 : 65536 < ms.length
  · have hE : putE ms.length bd.length = 4 := by rw [putE, if_pos q1]
    have HE := Lib.hid hE
    clear hE
    go_enter Try.func11, Try.ntmps11
    go_wp2_with fail
    refine bodyPost_ret (v := .tuple #[.slice none 0 0, .int .i64 4]) (by simp [results, Try.results11, go_sem]) rfl ⟨_, by rw [HE.out], _, st0.mono (fun _ h => h.elim), ?_⟩
    rw [putB, if_neg (by rw [HE.out]; decide)]
    exact Own.nil _ _ _ _ _
  · by_cases q2 : 4194304 < bd.length
    · have hE : putE ms.length bd.length = 4 := by rw [putE, if_neg q1, if_pos q2]
      have HE := Lib.hid hE
      clear hE
      go_enter Try.func11, Try.ntmps11
      go_wp2_with fail
      refine bodyPost_ret (v := .tuple #[.slice none 0 0, .int .i64 4]) (by simp [results, Try.results11, go_sem]) rfl ⟨_, by rw [HE.out], _, st0.mono (fun _ h => h.elim), ?_⟩
      rw [putB, if_neg (by rw [HE.out]; decide)]
      exact Own.nil _ _ _ _ _
    · have hE : putE ms.length bd.length = 0 := by rw [putE, if_neg q1, if_neg q2]
      have HE := Lib.hid hE
      clear hE
      have r1 := hr.step st0 (by simp)
      have r2 := hs.step st0 (by simp)
      go_enter Try.func11, Try.ntmps11
      go_wp2_with fail
      refine (fbytes_calls h1 h2 r1 r2 (by omega) (by omega) _ 49 rfl).mono ?_; rintro e w1 ⟨v1, rfl, L1, s1, o1⟩
      have S1 := (mono_ne (D := (· = c)) st0).trans s1
      go_wp2_with fail
      refine bodyPost_ret (v := .tuple #[v1, .int .i64 0]) (by simp [results, Try.results11, go_sem]) rfl ⟨_, by rw [HE.out], L1, S1, ?_⟩
      rw [putB, if_pos HE.out]
      exact o1

theorem fclose_calls (L : Nat → Nat) (c : Nat) (w : World) :
    Calls Try.prog 14 #[] w (SomeVal fun v' w' => Laid L c w (msgB 48 [] []) v' w') := by
  have r1 : Rd L (c + 1) w 1 (.slice none 0 0) 0 (([] : List UInt8).map byt) := (Own.nil L (c + 1) w 5 1).rd
  go_enter Try.func14, Try.ntmps14
  go_wp2_with fail
  refine (fbytes_calls (c := c) (by omega) (by omega) r1 r1 (by omega) (by omega) _ 48 rfl).mono ?_; rintro e w1 ⟨v1, rfl, L1, s1, o1⟩
  go_wp2_with fail
  go_ret
  exact ⟨_, rfl, L1, s1, o1⟩

end Go.Proofs.Ytcebdodogbpglaa.Put
