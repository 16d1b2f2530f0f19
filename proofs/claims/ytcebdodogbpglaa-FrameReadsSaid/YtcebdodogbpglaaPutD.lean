import Derived.Test.YtcebdodogbpglaaPutC
set_option linter.unusedVariables false
set_option maxRecDepth 100000
/-! THE PROGRAM'S BYTES OF A MESSAGE. -/
namespace Go.Proofs.Ytcebdodogbpglaa.Put
open Go.ChangeShapes Go.WideShapes Go.ChangeAt Go.RowKit Mem Ink

theorem rclose_calls (L : Nat → Nat) (c : Nat) (w : World) :
    Calls Try.prog 15 #[] w (SomeVal fun v' w' => ∃ L', Step (· = c) L w L' w' ∧ Own L' c w' 5 1 v' 24 ((headB 48 0 0 2166136261).map byt)) := by
  go_enter Try.func15, Try.ntmps15
  go_wp2_with fail
  refine (head_calls L c w 48 0 0 2166136261 (by omega) (by omega) (by decide)).mono ?_; rintro e w1 ⟨v1, rfl, L1, s1, o1⟩
  go_wp2_with fail
  go_ret
  exact ⟨_, rfl, L1, s1, o1⟩

section
variable {bs : List UInt8} {most : Int}
theorem text_fits {s : List UInt8} (h : (s.length : Int) ≤ most - bs.length) : textE bs.length most s.length = 0 ∧ textB bs most s = bs ++ s := by
  have e : textE bs.length most s.length = 0 := by unfold textE; rw [if_pos h]
  exact ⟨e, by unfold textB; rw [if_pos e]⟩
theorem number_fits {x : Int} (h : 4 ≤ most - bs.length) : numberE bs.length most 4 = 0 ∧ numberB bs most x 4 = bs ++ leB x 4 := by
  have e : numberE bs.length most 4 = 0 := by unfold numberE; rw [if_pos (by decide), if_pos h]
  exact ⟨e, by unfold numberB; rw [if_pos e]; rfl⟩
theorem fill_fits {n : Nat} {b : UInt8} (h : (n : Int) ≤ most - bs.length) : fillE bs.length most n = 0 ∧ fillB bs most n b = bs ++ List.replicate n b := by
  have e : fillE bs.length most n = 0 := by unfold fillE; rw [if_neg (by omega), if_pos h]
  exact ⟨e, by unfold fillB; rw [if_pos e]; simp⟩
theorem pad_fits {k : Nat} (hk : padN bs.length 8 = k) (h : (k : Int) ≤ most - bs.length) : padE bs.length most 8 = 0 ∧ padB bs most 8 = bs ++ zeros k := by
  have f := fill_fits (b := 0) h
  unfold padE padB
  rw [if_neg (by decide), if_neg (by decide), hk]
  exact ⟨f.1, f.2⟩
end

theorem padN_at {x n : Nat} (hx : x % 8 = 0) : padN (x + n) 8 = ((padU n - n : Nat) : Int) := by unfold padN padU; omega
theorem padU_mod (n : Nat) : padU n % 8 = 0 := by unfold padU; omega

theorem mono_ne {D : Nat → Prop} {L L' : Nat → Nat} {w w' : World} (h : Step (fun _ => False) L w L' w') : Step D L w L' w' := h.mono (fun _ x => x.elim)

set_option maxHeartbeats 1000000 in
theorem fbytes_calls {L : Nat → Nat} {c c1 c2 : Nat} (h1 : c1 ≠ c) (h2 : c2 ≠ c) {w : World} {p q : Option Addr} {n cap k cap2 : Nat} {ms bd : List UInt8} (hr : Rd L c1 w 1 (.slice p n cap) n (ms.map byt)) (hs : Rd L c2 w 1 (.slice q k cap2) k (bd.map byt))
    (hn : n ≤ 65536) (hk : k ≤ 4194304) (s : ByteArray) (last : UInt8) (hsm : s.data.toList = markB last) :
    Calls Try.prog 37 #[.string s, .agg #[.slice p n cap, .slice q k cap2]] w (SomeVal fun v' w' => Laid L c w (msgB last ms bd) v' w') := by
  have hnl : ms.length = n := by simpa using hr.1
  have hkl : bd.length = k := by simpa using hs.1
  subst hnl hkl
  have hsz : s.size = 4 := by
    have : s.data.toList.length = 4 := by rw [hsm]; rfl
    simpa using this
  have HSM := Lib.hid hsm
  clear hsm
  have st0 := Step.of_below (L := L) (below_alloc w (.cells #[.slice p ms.length cap, .slice q bd.length cap2] 25)) (fun _ => False) (c + 1)
  have r1 := hr.step st0 (by simp)
  have r2 := hs.step st0 (by simp)
  go_enter Try.func37, Try.ntmps37
  go_wp2_with fail
  refine wp_region_still_tail 10 (by kernel_rfl) (by kernel_rfl) ?_
  simp only [List.take_succ_cons, List.take_zero, List.drop_succ_cons, List.drop_zero]
  obtain ⟨W, hW⟩ : ∃ W, W = (w.alloc (.cells #[.slice p ms.length cap, .slice q bd.length cap2] 25)).drew := ⟨_, rfl⟩
  have r3 : Rd (ext L w.heap.size (c + 1)) c1 W 1 (.slice p ms.length cap) ms.length (ms.map byt) := by rw [hW]; exact r1.drewN 1
  have r4 : Rd (ext L w.heap.size (c + 1)) c2 W 1 (.slice q bd.length cap2) bd.length (bd.map byt) := by rw [hW]; exact r2.drewN 1
  have S3 : Step (· = c) L w (ext L w.heap.size (c + 1)) W := by rw [hW]; exact (st0.mono (fun _ h => h.elim)).drewN 1
  have B3 : Cells (ext L w.heap.size (c + 1)) W w.heap.size (c + 1) [.slice p ms.length cap, .slice q bd.length cap2] := by rw [hW]; exact (Cells.new L w (c + 1) 25 [.slice p ms.length cap, .slice q bd.length cap2]).2.drewN 1
  have k0 := B3.2.2 0 _ rfl
  have k1 := B3.2.2 1 _ rfl
  obtain ⟨U, hU⟩ : ∃ U : Nat, U = padU ms.length := ⟨_, rfl⟩
  have hUb : ms.length ≤ U ∧ U < ms.length + 8 := by rw [hU]; exact padU_ge _
  obtain ⟨V, hV⟩ : ∃ V : Nat, V = padU bd.length := ⟨_, rfl⟩
  have hVb : bd.length ≤ V ∧ V < bd.length + 8 := by rw [hV]; exact padU_ge _
  have cU : Calls Try.prog 43 #[.int .i64 ms.length] W fun e w'' => e = .returned (.int .i64 (U : Int)) ∧ w'' = W := (padded_calls (ms.length : Int) (by omega) (by omega) W).mono fun _ _ ⟨g1, g2⟩ => ⟨by rw [hU, g1]; unfold padU; congr 2, g2.symm⟩
  have cV : Calls Try.prog 43 #[.int .i64 bd.length] W fun e w'' => e = .returned (.int .i64 (V : Int)) ∧ w'' = W := (padded_calls (bd.length : Int) (by omega) (by omega) W).mono fun _ _ ⟨g1, g2⟩ => ⟨by rw [hV, g1]; unfold padU; congr 2, g2.symm⟩
  have HU := Lib.hid hU
  have HV := Lib.hid hV
  have HW := Lib.hid hW
  change wpStill Try.prog _ (w.alloc (.cells #[.slice p ms.length cap, .slice q bd.length cap2] 25)).drew _ _ _
  rw [← hW]
  clear hU hV hW r1 r2 st0
  iterate 3 still_step
  still_call cU
  iterate 4 still_step
  still_call cV
  iterate 1 still_step
  refine wpStill_nil ?_
  change wpList _ _ _ _ _ (w.alloc (.cells #[.slice p ms.length cap, .slice q bd.length cap2] 25)).drew
  rw [← HW.out]
  clear HW cU cV k0 k1
  generalize ext L w.heap.size (c + 1) = L3 at *
  generalize w.heap.size = mb at *
  have hmost : minMost (24 + (U : Int) + V) = 24 + (U : Int) + V := by unfold minMost; omega
  go_wp2_with fail
  refine (new_calls L3 c W (24 + (U : Int) + V)).mono ?_; rintro e w1 ⟨rfl, s1, k1⟩
  rw [hmost] at k1
  have S4 := S3.trans (mono_ne s1)
  have r5 := r3.step s1 (by simp)
  have r6 := r4.step s1 (by simp)
  have B5 := B3.step s1 (by simp)
  clear hmost s1 S3 r3 r4 B3
  generalize ext L3 W.heap.size c = L4 at *
  generalize W.heap.size = kb at *
  go_wp2_with fail
  have hsl : s.data.toList.length = 4 := by simp [hsz]
  refine (text_calls k1 (by simp; omega) (by omega) s (by unfold maxLen; omega)).mono ?_; rintro e w2 ⟨rfl, L5, s2, k2⟩
  obtain ⟨f1, f2⟩ := text_fits (bs := []) (most := 24 + (U : Int) + V) (s := s.data.toList) (by simp; omega)
  rw [f2, List.nil_append, HSM.out] at k2
  rw [hsl] at f1
  rw [hsz, f1]
  have S5 := S4.trans s2
  have r7 := r5.step s2 h1
  have r8 := r6.step s2 h2
  have B7 := B5.step s2 (by omega)
  clear f1 f2 s2 S4 r5 r6 B5 k1
  have k0 := B7.2.2 0 _ rfl
  have hl4 : (markB last).length = 4 := rfl
  go_wp2_with fail
  refine (number_calls k2 (by rw [hl4]; omega) (by omega) ms.length 4 (by omega) (by omega)).mono ?_; rintro e w3 ⟨rfl, L6, s3, k3⟩
  obtain ⟨f1, f2⟩ := number_fits (bs := markB last) (most := 24 + (U : Int) + V) (x := ms.length) (by rw [hl4]; omega)
  rw [f2] at k3
  rw [f1]
  have S6 := S5.trans s3
  have r9 := r7.step s3 h1
  have r10 := r8.step s3 h2
  have B9 := B7.step s3 (by omega)
  clear f1 f2 s3 S5 r7 r8 B7 k2 k0
  have k1 := B9.2.2 1 _ rfl
  have hl8 : (markB last ++ leB (ms.length : Int) 4).length = 8 := by simp [leB_length, markB]
  go_wp2_with fail
  refine (number_calls k3 (by rw [hl8]; omega) (by omega) bd.length 4 (by omega) (by omega)).mono ?_; rintro e w4 ⟨rfl, L7, s4, k4⟩
  obtain ⟨f1, f2⟩ := number_fits (bs := markB last ++ leB (ms.length : Int) 4) (most := 24 + (U : Int) + V) (x := bd.length) (by rw [hl8]; omega)
  rw [f2] at k4
  rw [f1]
  have S7 := S6.trans s4
  have r11 := r9.step s4 h1
  have r12 := r10.step s4 h2
  have B11 := B9.step s4 (by omega)
  clear f1 f2 s4 S6 r9 r10 B9 k3 k1
  have hl12 : ((markB last ++ leB (ms.length : Int) 4) ++ leB (bd.length : Int) 4).length = 12 := by simp [leB_length, markB]
  go_wp2_with fail
  refine (bytes_calls L7 c c w4 k4 (by rw [hl12]; omega)).mono ?_; rintro e w5 ⟨v5, rfl, s5, o5⟩
  have S8 := S7.trans (mono_ne s5)
  have r13 := r11.step s5 (by simp)
  have r14 := r12.step s5 (by simp)
  have B13 := B11.step s5 (by simp)
  have k5 := k4.step s5 (by simp)
  clear s5 S7 r11 r12 B11 k4
  generalize ext L7 w4.heap.size c = L8 at *
  go_wp2_with fail
  refine (sum_calls o5.rd 2166136261 (by decide)).mono ?_; rintro e w6 ⟨rfl, rfl⟩
  obtain ⟨X, hX⟩ : ∃ X : Nat, X = sumV 2166136261 ((markB last ++ leB (ms.length : Int) 4) ++ leB (bd.length : Int) 4) := ⟨_, rfl⟩
  have hXl : X < 4294967296 := by rw [hX]; exact sumV_lt (by decide) _
  rw [← hX]
  have HX := Lib.hid hX
  clear hX o5
  go_wp2_with fail
  refine (number_calls k5 (by rw [hl12]; omega) (by omega) X 4 (by omega) (by omega)).mono ?_; rintro e w7 ⟨rfl, L9, s7, k7⟩
  obtain ⟨f1, f2⟩ := number_fits (bs := (markB last ++ leB (ms.length : Int) 4) ++ leB (bd.length : Int) 4) (most := 24 + (U : Int) + V) (x := X) (by rw [hl12]; omega)
  rw [f2] at k7
  rw [f1]
  have S9 := S8.trans s7
  have r15 := r13.step s7 h1
  have r16 := r14.step s7 h2
  have B15 := B13.step s7 (by omega)
  clear f1 f2 s7 S8 r13 r14 B13 k5
  have hl16 : (((markB last ++ leB (ms.length : Int) 4) ++ leB (bd.length : Int) 4) ++ leB (X : Int) 4).length = 16 := by simp [leB_length, markB]
  go_wp2_with fail
  refine wp_region_still_tail 8 (by kernel_rfl) (by kernel_rfl) ?_
  simp only [List.take_succ_cons, List.take_zero, List.drop_succ_cons, List.drop_zero]
  obtain ⟨W7, hW7⟩ : ∃ W, W = w7.drew := ⟨_, rfl⟩
  have r17 : Rd L9 c1 W7 1 (.slice p ms.length cap) ms.length (ms.map byt) := by rw [hW7]; exact r15.drewN 1
  have r18 : Rd L9 c2 W7 1 (.slice q bd.length cap2) bd.length (bd.map byt) := by rw [hW7]; exact r16.drewN 1
  have S10 : Step (· = c) L w L9 W7 := by rw [hW7]; exact S9.drewN 1
  have B17 : Cells L9 W7 mb (c + 1) [.slice p ms.length cap, .slice q bd.length cap2] := by rw [hW7]; exact B15.drewN 1
  have k8 : InkAt 93 L9 c W7 kb (((markB last ++ leB (ms.length : Int) 4) ++ leB (bd.length : Int) 4) ++ leB (X : Int) 4) (24 + (U : Int) + V) := by rw [hW7]; exact k7.drewN 1
  have k0 := B17.2.2 0 _ rfl
  have k1 := B17.2.2 1 _ rfl
  obtain ⟨Z, hZ⟩ : ∃ Z : Nat, Z = sumV 2166136261 ms := ⟨_, rfl⟩
  have hZl : Z < 4294967296 := by rw [hZ]; exact sumV_lt (by decide) _
  obtain ⟨Y, hY⟩ : ∃ Y : Nat, Y = sumV Z bd := ⟨_, rfl⟩
  have hYl : Y < 4294967296 := by rw [hY]; exact sumV_lt hZl _
  have cX : Calls Try.prog 46 #[.int .u32 2166136261, .slice p ms.length cap] W7 fun e w'' => e = .returned (.int .u32 (Z : Int)) ∧ w'' = W7 := (sum_calls r17 2166136261 (by decide)).mono fun _ _ ⟨g1, g2⟩ => ⟨by rw [hZ]; exact g1, g2.symm⟩
  have cY : Calls Try.prog 46 #[.int .u32 (Z : Int), .slice q bd.length cap2] W7 fun e w'' => e = .returned (.int .u32 (Y : Int)) ∧ w'' = W7 := (sum_calls r18 Z hZl).mono fun _ _ ⟨g1, g2⟩ => ⟨by rw [hY]; exact g1, g2.symm⟩
  have HZ := Lib.hid hZ
  have HY := Lib.hid hY
  have HW7 := Lib.hid hW7
  change wpStill Try.prog _ w7.drew _ _ _
  rw [← hW7]
  clear hZ hY hW7 r15 r16 B15 S9 k7
  iterate 3 still_step
  still_call cX
  iterate 2 still_step
  still_call cY
  iterate 1 still_step
  refine wpStill_nil ?_
  change wpList _ _ _ _ _ w7.drew
  rw [← HW7.out]
  clear HW7 cX cY k0 k1
  go_wp2_with fail
  refine (number_calls k8 (by rw [hl16]; omega) (by omega) Y 4 (by omega) (by omega)).mono ?_; rintro e w8 ⟨rfl, L10, s8, k9⟩
  obtain ⟨f1, f2⟩ := number_fits (bs := ((markB last ++ leB (ms.length : Int) 4) ++ leB (bd.length : Int) 4) ++ leB (X : Int) 4) (most := 24 + (U : Int) + V) (x := Y) (by rw [hl16]; omega)
  rw [f2] at k9
  rw [f1]
  have S11 := S10.trans s8
  have r19 := r17.step s8 h1
  have r20 := r18.step s8 h2
  have B19 := B17.step s8 (by omega)
  clear f1 f2 s8 S10 r17 r18 B17 k8
  have hl20 : ((((markB last ++ leB (ms.length : Int) 4) ++ leB (bd.length : Int) 4) ++ leB (X : Int) 4) ++ leB (Y : Int) 4).length = 20 := by simp [leB_length, markB]
  go_wp2_with fail
  refine (fill_calls k9 (by rw [hl20]; omega) (by omega) 4 0).mono ?_; rintro e w9 ⟨rfl, L11, s9, k10⟩
  obtain ⟨f1, f2⟩ := fill_fits (bs := (((markB last ++ leB (ms.length : Int) 4) ++ leB (bd.length : Int) 4) ++ leB (X : Int) 4) ++ leB (Y : Int) 4) (most := 24 + (U : Int) + V) (n := 4) (b := 0) (by rw [hl20]; omega)
  have hHead : ((((markB last ++ leB (ms.length : Int) 4) ++ leB (bd.length : Int) 4) ++ leB (X : Int) 4) ++ leB (Y : Int) 4) ++ List.replicate 4 0 = headB last ms.length bd.length Y := by
    rw [headB, ← HX.out]; rfl
  rw [show (4 : Int) = ((4 : Nat) : Int) from rfl, f2, hHead] at k10
  rw [show (4 : Int) = ((4 : Nat) : Int) from rfl, f1]
  have S12 := S11.trans s9
  have r21 := r19.step s9 h1
  have r22 := r20.step s9 h2
  have B21 := B19.step s9 (by omega)
  clear f1 f2 s9 S11 r19 r20 B19 k9 hHead
  have k0 := B21.2.2 0 _ rfl
  have hl24 : (headB last ms.length bd.length Y).length = 24 := headB_length _ _ _ _
  have hcv := run_toString (P := Try.prog) r21 (src := 23) (e := 5) (dst := 9) Try.underlying23 Try.underlying5 Try.underlying9
  go_wp2_with fail
  have hms : (⟨ms.toArray⟩ : ByteArray).size = ms.length := by show ms.toArray.size = _; simp
  refine (text_calls k10 (by rw [hl24]; omega) (by omega) ⟨ms.toArray⟩ (by rw [hms]; unfold maxLen; omega)).mono ?_; rintro e wa ⟨rfl, L12, sa, k11⟩
  obtain ⟨f1, f2⟩ := text_fits (bs := headB last ms.length bd.length Y) (most := 24 + (U : Int) + V) (s := ms) (by rw [hl24]; omega)
  rw [hms, f1]
  rw [show (⟨ms.toArray⟩ : ByteArray).data.toList = ms from rfl, f2] at k11
  have S13 := S12.trans sa
  have r24 := r22.step sa h2
  have B23 := B21.step sa (by omega)
  clear f1 f2 sa S12 r21 r22 B21 k10 k0 hcv hms
  have hlm : (headB last ms.length bd.length Y ++ ms).length = 24 + ms.length := by rw [List.length_append, hl24]
  go_wp2_with fail
  refine (pad_calls k11 (by rw [hlm]; omega) (by omega) 8).mono ?_; rintro e wb ⟨rfl, L13, sb, k12⟩
  have hU8 : U % 8 = 0 := by rw [HU.out]; exact padU_mod _
  obtain ⟨f1, f2⟩ := pad_fits (bs := headB last ms.length bd.length Y ++ ms) (most := 24 + (U : Int) + V) (k := U - ms.length) (by rw [hlm, padN_at (by decide), HU.out]) (by rw [hlm]; omega)
  rw [f2] at k12
  rw [f1]
  have S14 := S13.trans sb
  have r26 := r24.step sb h2
  have B25 := B23.step sb (by omega)
  clear f1 f2 sb S13 r24 B23 k11
  have k1 := B25.2.2 1 _ rfl
  have hlp : ((headB last ms.length bd.length Y ++ ms) ++ zeros (U - ms.length)).length = 24 + U := by rw [List.length_append, hlm]; simp [zeros]; omega
  have hcv := run_toString (P := Try.prog) r26 (src := 23) (e := 5) (dst := 9) Try.underlying23 Try.underlying5 Try.underlying9
  go_wp2_with fail
  have hms : (⟨bd.toArray⟩ : ByteArray).size = bd.length := by show bd.toArray.size = _; simp
  refine (text_calls k12 (by rw [hlp]; omega) (by omega) ⟨bd.toArray⟩ (by rw [hms]; unfold maxLen; omega)).mono ?_; rintro e wc ⟨rfl, L14, sc, k13⟩
  obtain ⟨f1, f2⟩ := text_fits (bs := (headB last ms.length bd.length Y ++ ms) ++ zeros (U - ms.length)) (most := 24 + (U : Int) + V) (s := bd) (by rw [hlp]; omega)
  rw [hms, f1]
  rw [show (⟨bd.toArray⟩ : ByteArray).data.toList = bd from rfl, f2] at k13
  have S15 := S14.trans sc
  clear f1 f2 sc S14 r26 B25 k12 k1 hcv hms
  have hlb : (((headB last ms.length bd.length Y ++ ms) ++ zeros (U - ms.length)) ++ bd).length = (24 + U) + bd.length := by rw [List.length_append, hlp]
  go_wp2_with fail
  refine (pad_calls k13 (by rw [hlb]; omega) (by omega) 8).mono ?_; rintro e wd ⟨rfl, L15, sd, k14⟩
  obtain ⟨f1, f2⟩ := pad_fits (bs := ((headB last ms.length bd.length Y ++ ms) ++ zeros (U - ms.length)) ++ bd) (most := 24 + (U : Int) + V) (k := V - bd.length) (by rw [hlb, padN_at (by omega), HV.out]) (by rw [hlb]; omega)
  have hAll : (((headB last ms.length bd.length Y ++ ms) ++ zeros (U - ms.length)) ++ bd) ++ zeros (V - bd.length) = msgB last ms bd := by rw [msgB, ← HZ.out, ← HY.out, ← HU.out, ← HV.out]
  rw [f2, hAll] at k14
  rw [f1]
  have S16 := S15.trans sd
  have hlen : (msgB last ms bd).length ≤ 16777216 := by
    rw [← hAll, List.length_append, hlb]; simp [zeros]; omega
  clear f1 f2 sd S15 k13 hAll
  go_wp2_with fail
  refine (bytes_calls L15 c c wd k14 (by omega)).mono ?_; rintro e we ⟨ve, rfl, se, oe⟩
  have S17 := S16.trans (mono_ne se)
  go_wp2_with fail
  go_ret
  exact ⟨_, rfl, _, S17, oe⟩

end Go.Proofs.Ytcebdodogbpglaa.Put
