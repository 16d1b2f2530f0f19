import Derived.Test.YtcebdodogbpglaaPutB
import Derived.StillTailTactics
import Derived.Test.YtcebdodogbpglaaMemD
set_option linter.unusedVariables false
set_option maxRecDepth 100000
/-! THE REFERENCE'S PUT. -/
namespace Go.Proofs.Ytcebdodogbpglaa.Put
open Go.ChangeShapes Go.WideShapes Go.ChangeAt Go.RowKit Mem Ink

def padU (n : Nat) : Nat := (n + 7) / 8 * 8
theorem padU_ge (n : Nat) : n ≤ padU n ∧ padU n < n + 8 := by unfold padU; omega
def zeros (n : Nat) : List UInt8 := List.replicate n 0
theorem zeros_map (k : Nat) : (zeros k).map byt = List.replicate k (.int .u8 0) := by simp [zeros, byt]
def msgB (last : UInt8) (ms bd : List UInt8) : List UInt8 :=
  (((headB last ms.length bd.length (sumV (sumV 2166136261 ms) bd) ++ ms) ++ zeros (padU ms.length - ms.length)) ++ bd) ++ zeros (padU bd.length - bd.length)
def putE (n k : Nat) : Int := if 65536 < n then 4 else if 4194304 < k then 4 else 0
def putB (ms bd : List UInt8) : List UInt8 := if putE ms.length bd.length = 0 then msgB 49 ms bd else []

/-- A list that is owned comes back, and a number of an error. -/
def LaidE (L : Nat → Nat) (c : Nat) (w : World) (bs : List UInt8) (x : Int) (e : Ending) (w' : World) : Prop := ∃ v', e = .returned (.tuple #[v', .int .i64 x]) ∧ ∃ L', Step (· = c) L w L' w' ∧ Own L' c w' 5 1 v' bs.length (bs.map byt)

set_option maxHeartbeats 1000000 in
theorem rput_calls {L : Nat → Nat} {c c1 c2 : Nat} (h1 : c1 ≠ c) (h2 : c2 ≠ c) {w : World} {p q : Option Addr} {n cap k cap2 : Nat} {ms bd : List UInt8} (hr : Rd L c1 w 1 (.slice p n cap) n (ms.map byt)) (hs : Rd L c2 w 1 (.slice q k cap2) k (bd.map byt)) :
    Calls Try.prog 9 #[.agg #[.slice p n cap, .slice q k cap2]] w (LaidE L c w (putB ms bd) (putE ms.length bd.length)) := by
  have hnl : ms.length = n := by simpa using hr.1
  have hkl : bd.length = k := by simpa using hs.1
  subst hnl hkl
  obtain ⟨_, _, hv, hn, hm⟩ := hr.shape
  cases hv
  obtain ⟨_, _, hv, hn2, hm2⟩ := hs.shape
  cases hv
  unfold maxLen at hm hm2
  have hw := below_alloc w (.cells #[.slice p ms.length cap, .slice q bd.length cap2] 25)
  have st0 := Step.of_below (L := L) hw (fun _ => False) (c + 1)
  by_cases q1 : 65536 < ms.length
  · have hE : putE ms.length bd.length = 4 := by rw [putE, if_pos q1]
    have HE := Lib.hid hE
    clear hE
    go_enter Try.func9, Try.ntmps9
    go_wp2_with fail
    refine bodyPost_ret (v := .tuple #[.slice none 0 0, .int .i64 4]) (by simp [results, Try.results9, go_sem]) rfl ⟨_, by rw [HE.out], _, st0.mono (fun _ h => h.elim), ?_⟩
    rw [putB, if_neg (by rw [HE.out]; decide)]
    exact Own.nil _ _ _ _ _
  · by_cases q2 : 4194304 < bd.length
    · have hE : putE ms.length bd.length = 4 := by rw [putE, if_neg q1, if_pos q2]
      have HE := Lib.hid hE
      clear hE
      go_enter Try.func9, Try.ntmps9
      go_wp2_with fail
      refine bodyPost_ret (v := .tuple #[.slice none 0 0, .int .i64 4]) (by simp [results, Try.results9, go_sem]) rfl ⟨_, by rw [HE.out], _, st0.mono (fun _ h => h.elim), ?_⟩
      rw [putB, if_neg (by rw [HE.out]; decide)]
      exact Own.nil _ _ _ _ _
    · have hE : putE ms.length bd.length = 0 := by rw [putE, if_neg q1, if_neg q2]
      have HE := Lib.hid hE
      clear hE
      obtain ⟨X, hX⟩ : ∃ X : Nat, X = sumV 2166136261 ms := ⟨_, rfl⟩
      have hXl : X < 4294967296 := by rw [hX]; exact sumV_lt (by decide) _
      obtain ⟨Y, hY⟩ : ∃ Y : Nat, Y = sumV X bd := ⟨_, rfl⟩
      have hYl : Y < 4294967296 := by rw [hY]; exact sumV_lt hXl _
      have HX := Lib.hid hX
      have HY := Lib.hid hY
      have r1 := hr.step st0 (by simp)
      have r2 := hs.step st0 (by simp)
      clear hX hY
      go_enter Try.func9, Try.ntmps9
      go_wp2_with fail
      refine wp_region_still_tail 12 (by kernel_rfl) (by kernel_rfl) ?_
      simp only [List.take_succ_cons, List.take_zero, List.drop_succ_cons, List.drop_zero]
      obtain ⟨W, hW⟩ : ∃ W, W = (w.alloc (.cells #[.slice p ms.length cap, .slice q bd.length cap2] 25)).drew := ⟨_, rfl⟩
      have k0 : W.cell? ⟨w.heap.size, 0, none⟩ = some (.slice p ms.length cap) := by rw [hW]; show (w.alloc _).cell? _ = _; simp
      have k1 : W.cell? ⟨w.heap.size, 1, none⟩ = some (.slice q bd.length cap2) := by rw [hW]; show (w.alloc _).cell? _ = _; simp
      have r3 : Rd (ext L w.heap.size (c + 1)) c1 W 1 (.slice p ms.length cap) ms.length (ms.map byt) := by rw [hW]; exact r1.drewN 1
      have r4 : Rd (ext L w.heap.size (c + 1)) c2 W 1 (.slice q bd.length cap2) bd.length (bd.map byt) := by rw [hW]; exact r2.drewN 1
      have S3 : Step (fun _ => False) L w (ext L w.heap.size (c + 1)) W := by rw [hW]; exact st0.drewN 1
      have B3 : Cells (ext L w.heap.size (c + 1)) W w.heap.size (c + 1) [.slice p ms.length cap, .slice q bd.length cap2] := by rw [hW]; exact (Cells.new L w (c + 1) 25 [.slice p ms.length cap, .slice q bd.length cap2]).2.drewN 1
      change wpStill Try.prog _ (w.alloc (.cells #[.slice p ms.length cap, .slice q bd.length cap2] 25)).drew _ _ _
      rw [← hW]
      have HW := Lib.hid hW
      clear hW r1 r2 st0
      iterate 8 still_step
      have cX : Calls Try.prog 35 #[.int .u32 2166136261, .slice p ms.length cap] W fun e w'' => e = .returned (.int .u32 (X : Int)) ∧ w'' = W := (rsum_calls r3 2166136261 (by decide)).mono fun _ _ ⟨g1, g2⟩ => ⟨by rw [HX.out]; exact g1, g2.symm⟩
      still_call cX
      iterate 2 still_step
      have cY : Calls Try.prog 35 #[.int .u32 (X : Int), .slice q bd.length cap2] W fun e w'' => e = .returned (.int .u32 (Y : Int)) ∧ w'' = W := (rsum_calls r4 X hXl).mono fun _ _ ⟨g1, g2⟩ => ⟨by rw [HY.out]; exact g1, g2.symm⟩
      still_call cY
      refine wpStill_nil ?_
      clear cX cY
      change wpList _ _ _ _ _ (w.alloc (.cells #[.slice p ms.length cap, .slice q bd.length cap2] 25)).drew
      rw [← HW.out]
      clear HW
      generalize ext L w.heap.size (c + 1) = L3 at *
      generalize w.heap.size = mb at *
      go_wp2_with fail
      refine (head_calls L3 c W 49 ms.length bd.length Y (by omega) (by omega) hYl).mono ?_; rintro e w1 ⟨v1, rfl, L4, s4, o4⟩
      have S4 := (S3.mono (D := (· = c)) (fun _ h => h.elim)).trans s4
      have r5 := r3.step s4 h1
      have r6 := r4.step s4 h2
      have B5 := B3.step s4 (by omega)
      clear r3 r4 S3 s4 B3 k0 k1
      have k0 := B5.2.2 0 _ rfl
      have k1 := B5.2.2 1 _ rfl
      obtain ⟨p1, cap1, hv1, hb1, hb2, _⟩ := ownsRow_shape o4.1
      subst hv1
      go_wp2_with (at_builtin; refine wpList_append rfl (.tmp 28) (.tmp 30) 23 23 rfl 5 Try.underlying23 infoByte rfl (by decide) _ 24 _ rfl o4.1 _ ms.length (ms.map byt) rfl (Rd.src r5 Try.underlying23 (byt_oneCell ms)) (by unfold maxLen; omega) (by omega) ?_)
      intro v2 w2 hown2 hg2 hblk _
      obtain ⟨L5, S5, o5, s5⟩ := Own.grown S4 rfl o4 (Below.refl _ _) hown2 hg2 hblk
      rw [← List.map_append] at o5
      have r7 := r5.step s5 h1
      have r8 := r6.step s5 h2
      have B7 := B5.step s5 (by omega)
      clear s5 S4 r5 r6 B5 k0 k1 hown2 hg2 hblk o4
      obtain ⟨p2, cap2', hv2, hb3, hb4, _⟩ := ownsRow_shape o5.1
      subst hv2
      go_wp2_with fail
      refine wp_region_still_tail 9 (by kernel_rfl) (by kernel_rfl) ?_
      simp only [List.take_succ_cons, List.take_zero, List.drop_succ_cons, List.drop_zero]
      obtain ⟨W2, hW2⟩ : ∃ W, W = w2.drew := ⟨_, rfl⟩
      have k0 : W2.cell? ⟨mb, 0, none⟩ = some (.slice p ms.length cap) := by rw [hW2]; exact B7.2.2 0 _ rfl
      have o6 : Own L5 c W2 5 1 (.slice p2 (24 + ms.length) cap2') (24 + ms.length) ((headB 49 ms.length bd.length Y ++ ms).map byt) := by rw [hW2]; exact o5.drewN 1
      have r9 : Rd L5 c2 W2 1 (.slice q bd.length cap2) bd.length (bd.map byt) := by rw [hW2]; exact r8.drewN 1
      have B9 : Cells L5 W2 mb (c + 1) [.slice p ms.length cap, .slice q bd.length cap2] := by rw [hW2]; exact B7.drewN 1
      have S6 : Step (· = c) L w L5 W2 := by rw [hW2]; exact S5.drewN 1
      obtain ⟨U, hU⟩ : ∃ U : Nat, U = padU ms.length := ⟨_, rfl⟩
      have hUb : ms.length ≤ U ∧ U < ms.length + 8 := by rw [hU]; exact padU_ge _
      have cU : Calls Try.prog 36 #[.int .i64 ms.length] W2 fun e w'' => e = .returned (.int .i64 (U : Int)) ∧ w'' = W2 := (up_calls (ms.length : Int) (by omega) (by omega) W2).mono fun _ _ ⟨g1, g2⟩ => ⟨by rw [hU, g1]; unfold padU; congr 2, g2.symm⟩
      have HU := Lib.hid hU
      have HW2 := Lib.hid hW2
      change wpStill Try.prog _ w2.drew _ _ _
      rw [← hW2]
      clear hU hW2 r7 r8 o5 B7 S5
      iterate 4 still_step
      still_call cU
      iterate 4 still_step
      refine wpStill_nil ?_
      change wpList _ _ _ _ _ w2.drew
      rw [← HW2.out]
      clear HW2 cU k0
      refine wpList_append_zeros rfl (.tmp 32) (.tmp 40) 23 3 rfl 5 Try.underlying23 Try.underlying3 infoByte rfl rfl _ (24 + ms.length) _ rfl o6.1 .i64 (U - ms.length) (Eq.trans (b := Value.int .i64 (IntKind.i64.wrap ((U : Int) - ms.length))) rfl (by rw [IntKind.wrap_i64]; congr 1; omega)) (by unfold maxLen; omega) (by omega) ?_
      intro v3 w3 hown3 hg3 hblk3
      obtain ⟨L7, S7, o7, s7⟩ := Own.grown S6 rfl o6 (Below.refl _ _) hown3 hg3 hblk3
      rw [← zeros_map, ← List.map_append, show 24 + ms.length + (U - ms.length) = 24 + U from by omega] at o7
      have r10 := r9.step s7 h2
      have B10 := B9.step s7 (by omega)
      clear s7 S6 r9 B9 hown3 hg3 hblk3 o6
      obtain ⟨p3, cap3, hv3, hb5, hb6, _⟩ := ownsRow_shape o7.1
      subst hv3
      have k0 := B10.2.2 0 _ rfl
      have k1 := B10.2.2 1 _ rfl
      go_wp2_with (at_builtin; refine wpList_append rfl (.tmp 42) (.tmp 44) 23 23 rfl 5 Try.underlying23 infoByte rfl (by decide) _ (24 + U) _ rfl o7.1 _ bd.length (bd.map byt) rfl (Rd.src r10 Try.underlying23 (byt_oneCell bd)) (by unfold maxLen; omega) (by omega) ?_)
      intro v4 w4 hown4 hg4 hblk4 _
      have hown5 : w4.ownsRow 0 5 1 v4 (24 + U + bd.length) ((((headB 49 ms.length bd.length Y ++ ms) ++ zeros (U - ms.length)) ++ bd).map byt) := by simpa [zeros, byt] using hown4
      obtain ⟨L8, S8, o8, s8⟩ := Own.grown S7 rfl o7 (Below.refl _ _) hown5 hg4 hblk4
      have B11 := B10.step s8 (by omega)
      clear s8 S7 r10 B10 hown4 hown5 hg4 hblk4 o7 k0 k1
      obtain ⟨p4, cap4, hv4, hb7, hb8, _⟩ := ownsRow_shape o8.1
      subst hv4
      go_wp2_with fail
      refine wp_region_still_tail 9 (by kernel_rfl) (by kernel_rfl) ?_
      simp only [List.take_succ_cons, List.take_zero, List.drop_succ_cons, List.drop_zero]
      obtain ⟨W4, hW4⟩ : ∃ W, W = w4.drew := ⟨_, rfl⟩
      have k1 : W4.cell? ⟨mb, 1, none⟩ = some (.slice q bd.length cap2) := by rw [hW4]; exact B11.2.2 1 _ rfl
      have o9 : Own L8 c W4 5 1 (.slice p4 (24 + U + bd.length) cap4) (24 + U + bd.length) ((((headB 49 ms.length bd.length Y ++ ms) ++ zeros (U - ms.length)) ++ bd).map byt) := by rw [hW4]; exact o8.drewN 1
      have S9 : Step (· = c) L w L8 W4 := by rw [hW4]; exact S8.drewN 1
      obtain ⟨V, hV⟩ : ∃ V : Nat, V = padU bd.length := ⟨_, rfl⟩
      have hVb : bd.length ≤ V ∧ V < bd.length + 8 := by rw [hV]; exact padU_ge _
      have cV : Calls Try.prog 36 #[.int .i64 bd.length] W4 fun e w'' => e = .returned (.int .i64 (V : Int)) ∧ w'' = W4 := (up_calls (bd.length : Int) (by omega) (by omega) W4).mono fun _ _ ⟨g1, g2⟩ => ⟨by rw [hV, g1]; unfold padU; congr 2, g2.symm⟩
      have HV := Lib.hid hV
      have HW4 := Lib.hid hW4
      change wpStill Try.prog _ w4.drew _ _ _
      rw [← hW4]
      clear hV hW4 o8 B11 S8
      iterate 4 still_step
      still_call cV
      iterate 4 still_step
      refine wpStill_nil ?_
      change wpList _ _ _ _ _ w4.drew
      rw [← HW4.out]
      clear HW4 cV k1
      refine wpList_append_zeros rfl (.tmp 46) (.tmp 54) 23 3 rfl 5 Try.underlying23 Try.underlying3 infoByte rfl rfl _ (24 + U + bd.length) _ rfl o9.1 .i64 (V - bd.length) (Eq.trans (b := Value.int .i64 (IntKind.i64.wrap ((V : Int) - bd.length))) rfl (by rw [IntKind.wrap_i64]; congr 1; omega)) (by unfold maxLen; omega) (by omega) ?_
      intro v5 w5 hown5 hg5 hblk5
      obtain ⟨L9, S10, o10, _⟩ := Own.grown S9 rfl o9 (Below.refl _ _) hown5 hg5 hblk5
      rw [← zeros_map, ← List.map_append] at o10
      clear S9 hown5 hg5 hblk5 o9
      have HO := Lib.hid o10
      clear o10
      go_wp2_with fail
      have hB : putB ms bd = (((headB 49 ms.length bd.length Y ++ ms) ++ zeros (U - ms.length)) ++ bd) ++ zeros (V - bd.length) := by
        rw [putB, if_pos HE.out, msgB, ← HX.out, ← HY.out, ← HU.out, ← HV.out]
      have hL : (putB ms bd).length = 24 + U + bd.length + (V - bd.length) := by
        rw [hB]; simp [headB_length, zeros]; omega
      refine bodyPost_ret (v := .tuple #[v5, .int .i64 0]) (by simp [results, Try.results9, go_sem]) rfl ⟨_, by rw [HE.out], L9, S10, ?_⟩
      rw [hL, hB]
      exact HO.out

end Go.Proofs.Ytcebdodogbpglaa.Put
