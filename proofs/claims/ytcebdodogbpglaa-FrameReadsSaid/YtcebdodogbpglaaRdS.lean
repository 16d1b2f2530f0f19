import Derived.Test.YtcebdodogbpglaaRdR
import Derived.Test.YtcebdodogbpglaaRdH
set_option linter.unusedVariables false
set_option maxRecDepth 100000
/-! stream. -/
namespace Go.Proofs.Ytcebdodogbpglaa.Rdr
open Go.ChangeShapes Go.WideShapes Go.ChangeAt Go.RowKit Mem Put

def preB (M : List Pair) : List UInt8 := (M.map fun m => msgB 49 m.1 m.2).flatten
theorem preB_take {M : List Pair} {k : Nat} (h : k < M.length) : preB (M.take (k + 1)) = preB (M.take k) ++ msgB 49 M[k].1 M[k].2 := by
  unfold preB
  rw [List.take_succ_eq_append_getElem h, List.map_append, List.flatten_append]; simp
theorem preB_tot (M : List Pair) : (preB M).length ≤ tot M := by
  induction M with
  | nil => simp [preB, tot]
  | cons m M ih =>
    have h1 := msg_length 49 m.1 m.2
    have h2 := padU_ge m.1.length
    have h3 := padU_ge m.2.length
    simp only [preB, tot, List.map_cons, List.flatten_cons, List.length_append, List.sum_cons] at ih ⊢
    omega
theorem tot_take_le (M : List Pair) (k : Nat) : tot (M.take k) ≤ tot M := by
  have : tot M = tot (M.take k) + tot (M.drop k) := by
    unfold tot; rw [← List.sum_append_nat, ← List.map_append, List.take_append_drop]
  omega
theorem put_fits {m : Pair} (h : m.1.length ≤ 65536 ∧ m.2.length ≤ 4194304) : putE m.1.length m.2.length = 0 ∧ putB m.1 m.2 = msgB 49 m.1 m.2 := by
  have e : putE m.1.length m.2.length = 0 := by rw [putE, if_neg (by omega), if_neg (by omega)]
  exact ⟨e, by rw [putB, if_pos e]⟩

set_option maxHeartbeats 1000000 in
theorem stream_calls {L : Nat → Nat} {w : World} {P : Nat → Prop} {v : Value} {M : List Pair} (c : Nat) (h : MsgsRd L w P v M) (hP : ∀ d, P d → d < c) (hf : Fits 65536 4194304 M) (ht : tot M < 2147483648) :
    Calls Try.prog 31 #[v] w fun e w' => ∃ v', e = .returned (.tuple #[v', .bool true]) ∧ ∃ L', Step (fun d => c ≤ d) L w L' w' ∧ Own L' c w' 5 1 v' (streamB M).length ((streamB M).map byt) := by
  obtain ⟨q, cap, rfl, hn, hm⟩ := h.shape
  unfold maxLen at hm
  have hti : (tot M : Int) < 2147483648 := by omega
  have HT := Lib.hid ht
  have HH := Lib.hid h
  clear ht h
  go_enter Try.func31, Try.ntmps31
  go_wp2_with fail
  go_loopw [4, 5] (fun a i wr => ∃ (k : Nat) (L1 : Nat → Nat), k ≤ M.length ∧ i = .int .i64 k ∧ Step (fun d => c ≤ d) L w L1 wr ∧ Own L1 c wr 5 1 a (preB (M.take k)).length ((preB (M.take k)).map byt)) (fun _ i _ => M.length - (intOf i).toNat)
  case atStart => exact ⟨0, L, by omega, rfl, Step.refl _ _ _, Own.nil _ _ _ _ _⟩
  case round =>
    obtain ⟨k, L1, hk, rfl, st, ho⟩ := hrel
    have hb1 := Nat.le_trans (preB_tot (M.take k)) (tot_take_le M k)
    have hb2 : ((preB (M.take k)).length : Int) < 2147483648 := by omega
    obtain ⟨pa, ka, hpa, _⟩ := ownsRow_shape ho.1
    subst hpa
    by_cases hlt : k < M.length
    · have hM := HH.out.step st (fun d hd hp => by have := hP d hp; omega)
      obtain ⟨b, off, p1, k1, p2, k2, c1, c2, hq, x1, x2, _, _, hc1, hc2, r1, r2⟩ := hM.cells hlt
      have hc1' := hP c1 hc1
      have hc2' := hP c2 hc2
      subst hq
      have hfk := hf M[k] (List.getElem_mem hlt)
      have hpt := preB_take hlt
      obtain ⟨m, hmk⟩ : ∃ m, m = M[k] := ⟨_, rfl⟩
      rw [← hmk] at x1 x2 r1 r2 hfk hpt
      obtain ⟨pf1, pf2⟩ := put_fits hfk
      have hml := msg_length 49 m.1 m.2
      have hp1 := padU_ge m.1.length
      have hp2 := padU_ge m.2.length
      obtain ⟨S0, hS0⟩ : ∃ S, S = preB (M.take k) := ⟨_, rfl⟩
      rw [← hS0] at ho hb2 hpt
      obtain ⟨B0, hB0⟩ : ∃ S, S = msgB 49 m.1 m.2 := ⟨_, rfl⟩
      rw [← hB0] at hpt pf2 hml
      have hBl : B0.length ≤ 4300000 := by omega
      have HPT := Lib.hid hpt
      have HF1 := Lib.hid pf1
      have HF2 := Lib.hid pf2
      rw [← hS0]
      clear hpt pf1 pf2 hml hp1 hp2 hmk hb1 hS0 hB0 hM
      go_wp2_with fail
      refine (fput_calls (c := c + 1) (by omega) (by omega) r1 r2).mono ?_; rintro e w3 ⟨v3, rfl, L3, s3, o3⟩
      rw [HF1.out]
      rw [HF2.out] at o3
      have S3 := st.trans (s3.mono (by rintro _ rfl; show c ≤ c + 1; omega))
      have o4 := ho.step s3 (by omega)
      obtain ⟨pb, kb, hpb, _⟩ := ownsRow_shape o3.1
      subst hpb
      clear s3 ho st x1 x2 r1 r2
      go_wp2_with (at_builtin; refine wpList_append rfl (.tmp 25) (.tmp 26) 23 23 rfl 5 Try.underlying23 Ink.infoByte rfl (by decide) _ S0.length (S0.map byt) rfl o4.1 _ B0.length (B0.map byt) rfl (Rd.src o3.rd Try.underlying23 (byt_oneCell B0)) (by unfold maxLen; omega) (by omega) ?_)
      intro v5 w5 hown5 hg5 hblk5 _
      have hown6 : w5.ownsRow 0 5 1 v5 (S0 ++ B0).length ((S0 ++ B0).map byt) := by simpa using hown5
      obtain ⟨L5, S5, o5, _⟩ := Own.grown (C := fun d => c ≤ d) S3 (Nat.le_refl _) o4 (Below.refl _ _) hown6 hg5 hblk5
      rw [← HPT.out] at o5
      clear hown5 hown6 hg5 hblk5 S3 o4 o3
      go_wp2_with fail
      go_roundw
      case rel => exact ⟨k + 1, L5, by omega, by go_num, S5, o5⟩
      case measure => simp [intOf]; omega
    · have hkE : k = M.length := by omega
      subst hkE
      rw [List.take_of_length_le (Nat.le_refl _)] at ho hb2 ⊢
      obtain ⟨S0, hS0⟩ : ∃ S, S = preB M := ⟨_, rfl⟩
      rw [← hS0] at ho hb2 ⊢
      have hST : streamB M = S0 ++ msgB 48 [] [] := by rw [hS0]; rfl
      have HST := Lib.hid hST
      have hEl : (msgB 48 [] []).length = 24 := by rw [← rclose_msg, headB_length]
      obtain ⟨B0, hB0⟩ : ∃ S, S = msgB 48 [] [] := ⟨_, rfl⟩
      clear hS0 hST hb1
      go_wp2_with fail
      refine (fclose_calls L1 (c + 1) wr).mono ?_; rintro e w3 ⟨v3, rfl, L3, s3, o3⟩
      rw [← hB0] at o3 hEl
      have HB0 := Lib.hid hB0
      clear hB0
      have S3 := st.trans (s3.mono (by rintro _ rfl; show c ≤ c + 1; omega))
      have o4 := ho.step s3 (by omega)
      obtain ⟨pb, kb, hpb, _⟩ := ownsRow_shape o3.1
      rw [hEl] at hpb
      subst hpb
      clear s3 ho st
      go_wp2_with (at_builtin; refine wpList_append rfl (.tmp 29) (.tmp 30) 23 23 rfl 5 Try.underlying23 Ink.infoByte rfl (by decide) _ S0.length (S0.map byt) rfl o4.1 _ 24 (B0.map byt) rfl (by have := Rd.src (P := Try.prog) o3.rd Try.underlying23 (byt_oneCell B0); rw [hEl] at this; exact this) (by unfold maxLen; omega) (by omega) ?_)
      intro v5 w5 hown5 hg5 hblk5 _
      have hown6 : w5.ownsRow 0 5 1 v5 (S0 ++ B0).length ((S0 ++ B0).map byt) := by simpa [hEl] using hown5
      obtain ⟨L5, S5, o5, _⟩ := Own.grown (C := fun d => c ≤ d) S3 (Nat.le_refl _) o4 (Below.refl _ _) hown6 hg5 hblk5
      rw [HB0.out, ← HST.out] at o5
      clear hown5 hown6 hg5 hblk5 S3 o4 o3
      go_wp2_with fail
      go_ret2
      exact ⟨_, rfl, L5, S5, o5⟩

end Go.Proofs.Ytcebdodogbpglaa.Rdr
