import Derived.Test.YtcebdodogbpglaaRfE
set_option linter.unusedVariables false
set_option maxRecDepth 100000
/-! Held OF BOTH. -/
namespace Go.Proofs.Ytcebdodogbpglaa.Rdr
open Go.ChangeShapes Go.WideShapes Go.ChangeAt Go.RowKit Mem Put

def heldV (held : Int) (emp : Bool) (S : Int) : Int := if emp = true ∧ S ≠ 1 then 0 else held

theorem held_calls {L : Nat → Nat} {c : Nat} {w : World} {rb lm lb told : Nat} {Q : List Msg} {tail : List UInt8} {held wrong : Int} {en sh : Bool} (h : RdrAt L c w rb lm lb told Q tail held wrong en sh) (hb : told + Q.length ≤ 100000000000) :
    Calls Try.prog 27 #[.pointer (some ⟨rb, 0, none⟩)] w fun e w' => e = .returned (.int .i64 (heldV held Q.isEmpty (standS wrong en sh))) ∧ ∃ k, w' = w.drewN k := by
  obtain ⟨vq, vb, h0, h1, h2, h3⟩ := h
  obtain ⟨pq, cq, hvq, _⟩ := ownsRow_shape h2.1
  subst hvq
  have c2 : w.cell? ⟨rb, 2, none⟩ = some (.slice pq (told + Q.length) cq) := by rw [cell_of_heap h0]; rfl
  have c3 : w.cell? ⟨rb, 3, none⟩ = some (.int .i64 told) := by rw [cell_of_heap h0]; rfl
  have c5 : w.cell? ⟨rb, 5, none⟩ = some (.int .i64 held) := by rw [cell_of_heap h0]; rfl
  have c6 : w.cell? ⟨rb, 6, none⟩ = some (.int .i64 wrong) := by rw [cell_of_heap h0]; rfl
  have c7 : w.cell? ⟨rb, 7, none⟩ = some (.bool en) := by rw [cell_of_heap h0]; rfl
  have c8 : w.cell? ⟨rb, 8, none⟩ = some (.bool sh) := by rw [cell_of_heap h0]; rfl
  clear h0 h1 h2 h3
  obtain ⟨S, hS⟩ : ∃ S, S = standS wrong en sh := ⟨_, rfl⟩
  obtain ⟨n, hn⟩ : ∃ n, n = told + Q.length := ⟨_, rfl⟩
  rw [← hn] at c2
  have hE : Q.isEmpty = decide (told = n) := by
    cases Q with
    | nil => simp [hn]
    | cons a r => simp [hn]
  rw [← hS]
  obtain ⟨EV, hEV⟩ : ∃ EV, EV = heldV held Q.isEmpty S := ⟨_, rfl⟩
  rw [← hEV]
  rw [hE] at hEV
  have HEV := Lib.hid hEV
  have hbn : n ≤ 100000000000 := by omega
  have hle : told ≤ n := by omega
  have HN := Lib.hid hn
  clear hE hn hEV
  go_enter Try.func27, Try.ntmps27
  go_wp2_with fail
  refine (stands_calls c6 c7 c8).mono ?_; rintro e w1 ⟨rfl, k1, rfl⟩
  rw [← hS]
  have HS := Lib.hid hS
  clear hS c6 c7 c8
  by_cases ht : told = n
  · subst ht
    have z1 : (((told : Nat) : Int) == (told : Int)) = true := by simp
    by_cases hs1 : S = 1
    · subst hs1
      have hV : EV = held := by rw [HEV.out]; unfold heldV; rw [if_neg (by simp)]
      have HV := Lib.hid hV
      clear hV
      go_wp2_with fail
      go_quiet (fail)
      all_goals go_wp2_with fail
      all_goals go_ret
      all_goals exact ⟨by rw [HV.out]; rfl, k1 + nq, by first | rfl | simp [World.drewN, Nat.add_assoc] | simp [World.drewN]⟩
    · have z2 : (S != 1) = true := by simpa using hs1
      have hV : EV = 0 := by rw [HEV.out]; unfold heldV; rw [if_pos (by simp [hs1])]
      have HV := Lib.hid hV
      clear hV hs1
      go_wp2_with fail
      go_quiet (fail)
      all_goals go_wp2_with fail
      all_goals go_ret
      all_goals exact ⟨by rw [HV.out]; rfl, k1 + nq, by first | rfl | simp [World.drewN, Nat.add_assoc] | simp [World.drewN]⟩
  · have z1 : (((told : Nat) : Int) == (n : Int)) = false := by simp; omega
    have hV : EV = held := by rw [HEV.out]; unfold heldV; rw [if_neg (by simp [ht])]
    have HV := Lib.hid hV
    clear hV
    go_wp2_with fail
    go_quiet (fail)
    all_goals go_wp2_with fail
    all_goals go_ret
    all_goals exact ⟨by rw [HV.out]; rfl, k1 + nq, by first | rfl | simp [World.drewN, Nat.add_assoc] | simp [World.drewN]⟩

theorem FedAt.plain {L : Nat → Nat} {d : Nat} {w : World} {p : Option Addr} {cap : Nat} {F : List UInt8} (h : FedAt L d w p cap F) : FedAt (fun _ => d) d w p cap F := by
  obtain ⟨h1, q, k, hv, hn, hm, hc⟩ := h.rd
  refine ⟨⟨h1, q, k, hv, hn, hm, fun j u hj => ?_⟩, h.none, h.zero⟩
  obtain ⟨b, off, e1, _, e3⟩ := hc j u hj
  exact ⟨b, off, e1, rfl, e3⟩

def rheldV (n at_ : Nat) (s : Int) : Int := if s = 1 ∨ s = 2 then (n : Int) - (at_ : Int) else 0

theorem nextR_s (lm lb : Nat) (last sh : Bool) (b : List UInt8) : (nextR lm lb last sh b).s = 1 ∨ (nextR lm lb last sh b).s = 2 ∨ (nextR lm lb last sh b).s = 3 ∨ (nextR lm lb last sh b).s = 4 := by
  unfold nextR
  (repeat' split) <;> simp

set_option maxHeartbeats 1000000 in
theorem rheld_calls {L : Nat → Nat} {d : Nat} {w : World} {xb lm lb at_ : Nat} {F : List UInt8} {sh last : Bool} {pf : Option Addr} {cf : Nat} (hlm : lm ≤ 65536) (hlb : lb ≤ 4194304) (h0 : w.heap[xb]? = some (.cells #[.int .i64 lm, .int .i64 lb, .slice pf F.length cf, .bool sh, .int .i64 at_, .bool last] 79 (0, 0)))
    (hf : FedAt L d w pf cf F) (ha : at_ ≤ F.length) (hF : F.length ≤ 10000000000) :
    Calls Try.prog 28 #[.pointer (some ⟨xb, 0, none⟩)] w fun e w' => e = .returned (.int .i64 (rheldV F.length at_ (nextR lm lb last sh (F.drop at_)).s)) ∧ Below w.heap.size w w' := by
  have hlt := lt_of_heap h0
  have hS0 : w.cell? ⟨xb, 0, none⟩ = some (.int .i64 lm) ∧ w.cell? ⟨xb, 1, none⟩ = some (.int .i64 lb) ∧ w.cell? ⟨xb, 2, none⟩ = some (.slice pf F.length cf) ∧ w.cell? ⟨xb, 3, none⟩ = some (.bool sh) ∧ w.cell? ⟨xb, 4, none⟩ = some (.int .i64 at_) ∧ w.cell? ⟨xb, 5, none⟩ = some (.bool last) := by
    refine ⟨?_, ?_, ?_, ?_, ?_, ?_⟩ <;> (rw [cell_of_heap h0]; rfl)
  have H0 := Lib.hid h0
  have HF0 := Lib.hid hf
  clear h0 hf
  have hRs := nextR_s lm lb last sh (F.drop at_)
  obtain ⟨S, hS⟩ : ∃ S, S = (nextR lm lb last sh (F.drop at_)).s := ⟨_, rfl⟩
  obtain ⟨EV, hEV⟩ : ∃ EV, EV = rheldV F.length at_ S := ⟨_, rfl⟩
  rw [← hS] at hRs
  rw [← hS, ← hEV]
  have HEV := Lib.hid hEV
  have HS := Lib.hid hS
  clear hS hEV
  go_enter Try.func28, Try.ntmps28
  go_wp2_with fail
  refine Late.region (fun w' => w'.cell? ⟨xb, 0, none⟩ = some (.int .i64 lm) ∧ w'.cell? ⟨xb, 1, none⟩ = some (.int .i64 lb) ∧ w'.cell? ⟨xb, 2, none⟩ = some (.slice pf F.length cf) ∧ w'.cell? ⟨xb, 3, none⟩ = some (.bool sh) ∧ w'.cell? ⟨xb, 4, none⟩ = some (.int .i64 at_) ∧ w'.cell? ⟨xb, 5, none⟩ = some (.bool last)) (fun j => decide (21 < j)) (by kernel_rfl) ?_
  refine Late.take (i := 0) (v := ?_) rfl (by kernel_rfl) (by kernel_rfl) (by kernel_rfl) (by kernel_rfl) (fun _ _ _ h => h) (Or.inl ⟨by kernel_rfl, ?_⟩) hS0 ?_
  rotate_left
  · intro w' hS
    obtain ⟨s0, s1, s2, s3, s4, s5⟩ := hS
    go_simp
    rfl
  refine Late.take (i := 1) (v := ?_) rfl (by kernel_rfl) (by kernel_rfl) (by kernel_rfl) (by kernel_rfl) (fun _ _ _ h => h) (Or.inl ⟨by kernel_rfl, ?_⟩) hS0 ?_
  rotate_left
  · intro w' hS
    obtain ⟨s0, s1, s2, s3, s4, s5⟩ := hS
    go_simp
    rfl
  refine Late.take (i := 2) (v := ?_) rfl (by kernel_rfl) (by kernel_rfl) (by kernel_rfl) (by kernel_rfl) (fun _ _ _ h => h) (Or.inl ⟨by kernel_rfl, ?_⟩) hS0 ?_
  rotate_left
  · intro w' hS
    obtain ⟨s0, s1, s2, s3, s4, s5⟩ := hS
    go_simp
    rfl
  refine Late.take (i := 3) (v := ?_) rfl (by kernel_rfl) (by kernel_rfl) (by kernel_rfl) (by kernel_rfl) (fun _ _ _ h => h) (Or.inl ⟨by kernel_rfl, ?_⟩) hS0 ?_
  rotate_left
  · intro w' hS
    obtain ⟨s0, s1, s2, s3, s4, s5⟩ := hS
    go_simp
    rfl
  refine Late.take (i := 4) (v := ?_) rfl (by kernel_rfl) (by kernel_rfl) (by kernel_rfl) (by kernel_rfl) (fun _ _ _ h => h) (Or.inl ⟨by kernel_rfl, ?_⟩) hS0 ?_
  rotate_left
  · intro w' hS
    obtain ⟨s0, s1, s2, s3, s4, s5⟩ := hS
    go_simp
    rfl
  refine Late.take (i := 5) (v := ?_) rfl (by kernel_rfl) (by kernel_rfl) (by kernel_rfl) (by kernel_rfl) (fun _ _ _ h => h) (Or.inl ⟨by kernel_rfl, ?_⟩) hS0 ?_
  rotate_left
  · intro w' hS
    obtain ⟨s0, s1, s2, s3, s4, s5⟩ := hS
    go_simp
    rfl
  refine Late.take (i := 6) (v := ?_) rfl (by kernel_rfl) (by kernel_rfl) (by kernel_rfl) (by kernel_rfl) (fun _ _ _ h => h) (Or.inl ⟨by kernel_rfl, ?_⟩) hS0 ?_
  rotate_left
  · intro w' hS
    obtain ⟨s0, s1, s2, s3, s4, s5⟩ := hS
    go_simp
    rfl
  refine Late.take (i := 7) (v := ?_) rfl (by kernel_rfl) (by kernel_rfl) (by kernel_rfl) (by kernel_rfl) (fun _ _ _ h => h) (Or.inl ⟨by kernel_rfl, ?_⟩) hS0 ?_
  rotate_left
  · intro w' hS
    obtain ⟨s0, s1, s2, s3, s4, s5⟩ := hS
    go_simp
    rfl
  refine Late.take (i := 8) (v := ?_) rfl (by kernel_rfl) (by kernel_rfl) (by kernel_rfl) (by kernel_rfl) (fun _ _ _ h => h) (Or.inl ⟨by kernel_rfl, ?_⟩) hS0 ?_
  rotate_left
  · intro w' hS
    obtain ⟨s0, s1, s2, s3, s4, s5⟩ := hS
    go_simp
    rfl
  refine Late.take (i := 9) (v := ?_) rfl (by kernel_rfl) (by kernel_rfl) (by kernel_rfl) (by kernel_rfl) (fun _ _ _ h => h) (Or.inl ⟨by kernel_rfl, ?_⟩) hS0 ?_
  rotate_left
  · intro w' hS
    obtain ⟨s0, s1, s2, s3, s4, s5⟩ := hS
    go_simp
    rfl
  refine Late.take (i := 10) (v := ?_) rfl (by kernel_rfl) (by kernel_rfl) (by kernel_rfl) (by kernel_rfl) (fun _ _ _ h => h) (Or.inl ⟨by kernel_rfl, ?_⟩) hS0 ?_
  rotate_left
  · intro w' hS
    obtain ⟨s0, s1, s2, s3, s4, s5⟩ := hS
    go_simp
    rfl
  refine Late.take (i := 11) (v := ?_) rfl (by kernel_rfl) (by kernel_rfl) (by kernel_rfl) (by kernel_rfl) (fun _ _ _ h => h) (Or.inl ⟨by kernel_rfl, ?_⟩) hS0 ?_
  rotate_left
  · intro w' hS
    obtain ⟨s0, s1, s2, s3, s4, s5⟩ := hS
    go_simp
    rfl
  refine Late.take (i := 12) (v := ?_) rfl (by kernel_rfl) (by kernel_rfl) (by kernel_rfl) (by kernel_rfl) (fun _ _ _ h => h) (Or.inl ⟨by kernel_rfl, ?_⟩) hS0 ?_
  rotate_left
  · intro w' hS
    obtain ⟨s0, s1, s2, s3, s4, s5⟩ := hS
    go_simp
    rfl
  refine Late.take (i := 13) (v := ?_) rfl (by kernel_rfl) (by kernel_rfl) (by kernel_rfl) (by kernel_rfl) (fun _ _ _ h => h) (Or.inl ⟨by kernel_rfl, ?_⟩) hS0 ?_
  rotate_left
  · intro w' hS
    obtain ⟨s0, s1, s2, s3, s4, s5⟩ := hS
    go_simp
    rfl
  refine Late.take (i := 14) (v := ?_) rfl (by kernel_rfl) (by kernel_rfl) (by kernel_rfl) (by kernel_rfl) (fun _ _ _ h => h) (Or.inl ⟨by kernel_rfl, ?_⟩) hS0 ?_
  rotate_left
  · intro w' hS
    obtain ⟨s0, s1, s2, s3, s4, s5⟩ := hS
    go_simp
    rfl
  refine Late.take (i := 15) (v := ?_) rfl (by kernel_rfl) (by kernel_rfl) (by kernel_rfl) (by kernel_rfl) (fun _ _ _ h => h) (Or.inl ⟨by kernel_rfl, ?_⟩) hS0 ?_
  rotate_left
  · intro w' hS
    obtain ⟨s0, s1, s2, s3, s4, s5⟩ := hS
    go_simp
    rfl
  refine Late.take (i := 16) (v := ?_) rfl (by kernel_rfl) (by kernel_rfl) (by kernel_rfl) (by kernel_rfl) (fun _ _ _ h => h) (Or.inl ⟨by kernel_rfl, ?_⟩) hS0 ?_
  rotate_left
  · intro w' hS
    obtain ⟨s0, s1, s2, s3, s4, s5⟩ := hS
    go_simp
    rfl
  refine Late.take (i := 17) (v := ?_) rfl (by kernel_rfl) (by kernel_rfl) (by kernel_rfl) (by kernel_rfl) (fun _ _ _ h => h) (Or.inl ⟨by kernel_rfl, ?_⟩) hS0 ?_
  rotate_left
  · intro w' hS
    obtain ⟨s0, s1, s2, s3, s4, s5⟩ := hS
    go_simp
    rfl
  refine Late.take (i := 18) (v := ?_) rfl (by kernel_rfl) (by kernel_rfl) (by kernel_rfl) (by kernel_rfl) (fun _ _ _ h => h) (Or.inl ⟨by kernel_rfl, ?_⟩) hS0 ?_
  rotate_left
  · intro w' hS
    obtain ⟨s0, s1, s2, s3, s4, s5⟩ := hS
    go_simp
    rfl
  refine Late.take (i := 19) (v := ?_) rfl (by kernel_rfl) (by kernel_rfl) (by kernel_rfl) (by kernel_rfl) (fun _ _ _ h => h) (Or.inl ⟨by kernel_rfl, ?_⟩) hS0 ?_
  rotate_left
  · intro w' hS
    obtain ⟨s0, s1, s2, s3, s4, s5⟩ := hS
    go_simp
    rfl
  refine Late.take (i := 20) (v := ?_) rfl (by kernel_rfl) (by kernel_rfl) (by kernel_rfl) (by kernel_rfl) (fun _ _ _ h => h) (Or.inl ⟨by kernel_rfl, ?_⟩) hS0 ?_
  rotate_left
  · intro w' hS
    obtain ⟨s0, s1, s2, s3, s4, s5⟩ := hS
    go_simp
    rfl
  refine Late.one (i := 21) (by kernel_rfl) rfl (fun Kc hKc => ?_)
  go_simp
  refine hKc _ _ (fun _ => ?_) ?_
  · have st := Step.of_below (L := fun _ => 0) (below_alloc w.drew (.cells #[.int .i64 lm, .int .i64 lb, .slice pf F.length cf, .bool sh, .int .i64 at_, .bool last] 79)) (fun _ => False) 0
    obtain ⟨s0, s1, s2, s3, s4, s5⟩ := hS0
    exact ⟨st.cell s0 (by simp), st.cell s1 (by simp), st.cell s2 (by simp), st.cell s3 (by simp), st.cell s4 (by simp), st.cell s5 (by simp)⟩
  clear hKc Kc
  refine Late.one (i := 22) (by kernel_rfl) rfl (fun Kc hKc => ?_)
  go_simp
  refine hKc _ _ (fun h => by cases h) ?_
  clear hKc Kc
  refine Late.done (by kernel_rfl) ?_ _
  go_wp2_with fail
  obtain ⟨wA, hwA⟩ : ∃ wA, wA = w.alloc (.cells #[.int .i64 lm, .int .i64 lb, .slice pf F.length cf, .bool sh, .int .i64 at_, .bool last] 79) := ⟨_, rfl⟩
  have hbA : Below w.heap.size w wA := by rw [hwA]; exact below_alloc _ _
  have hA0 : wA.heap[w.heap.size]? = some (.cells #[.int .i64 lm, .int .i64 lb, .slice pf F.length cf, .bool sh, .int .i64 at_, .bool last] 79 (0, 0)) := by rw [hwA]; exact heap_alloc_new w _
  rw [← hwA]
  have hfA := HF0.out.plain.step (Step.of_below (L := fun _ => d) hbA (fun _ => False) (d + 1)) (by simp)
  refine (rnext_calls (L := ext (fun _ => d) w.heap.size (d + 1)) (c := d + 1) (d := d) hlm hlb (by exact hA0) (ext_new (Nat.le_refl _)) (by exact ⟨hfA.rd, hfA.none, hfA.zero⟩) (by omega) ha hF).mono ?_
  rintro e w2 ⟨v1, v2, rfl, ⟨L2, s2⟩, _, ⟨q1, k1, hv1, _⟩, ⟨q2, k2, hv2, _⟩⟩
  subst hv1 hv2
  rw [← HS.out]
  have hB2 : Below w.heap.size w w2 := by
    refine hbA.trans ?_
    have hs := s2.below (B := w.heap.size) (by have := hbA.size; exact this) (fun k hk => by
      show ¬ ext (fun _ => d) w.heap.size (d + 1) k = d + 1
      rw [ext_old hk]; omega)
    exact ⟨hs.os, hs.tape, hs.output, hs.size, hs.block⟩
  have c2' : w2.cell? ⟨xb, 2, none⟩ = some (.slice pf F.length cf) := hB2.cell (p := ⟨xb, 2, none⟩) hlt ▸ hS0.2.2.1
  have c4' : w2.cell? ⟨xb, 4, none⟩ = some (.int .i64 at_) := hB2.cell (p := ⟨xb, 4, none⟩) hlt ▸ hS0.2.2.2.2.1
  have hlt2 : xb < w2.heap.size := by have := hB2.size; omega
  have HB2 := Lib.hid hB2
  clear s2 hfA hA0 hbA hwA hS0 hB2
  by_cases h1 : S = 1
  · subst h1
    have hV : EV = (F.length : Int) - at_ := by rw [HEV.out]; unfold rheldV; rw [if_pos (by simp)]
    have HV := Lib.hid hV
    have x0 : IntKind.i64.wrap ((F.length : Int) - (at_ : Int)) = (F.length : Int) - (at_ : Int) := IntWalk.i64_in _ (by omega)
    clear hV
    go_wp2_with fail
    go_quiet (fail)
    go_wp2_with fail
    go_ret
    exact ⟨by rw [HV.out]; rfl, HB2.out.trans (by first | exact (below_drewN_alloc w2 nq _).mono HB2.out.size | exact (below_alloc w2 _).mono HB2.out.size)⟩
  · by_cases h2 : S = 2
    · subst h2
      have hV : EV = (F.length : Int) - at_ := by rw [HEV.out]; unfold rheldV; rw [if_pos (by simp)]
      have HV := Lib.hid hV
      have x0 : IntKind.i64.wrap ((F.length : Int) - (at_ : Int)) = (F.length : Int) - (at_ : Int) := IntWalk.i64_in _ (by omega)
      clear hV
      go_wp2_with fail
      go_quiet (fail)
      go_wp2_with fail
      go_ret
      exact ⟨by rw [HV.out]; rfl, HB2.out.trans (by first | exact (below_drewN_alloc w2 nq _).mono HB2.out.size | exact (below_alloc w2 _).mono HB2.out.size)⟩
    · have hV : EV = 0 := by rw [HEV.out]; unfold rheldV; rw [if_neg (by omega)]
      have HV := Lib.hid hV
      have z1 : (S == 1) = false := by simpa using h1
      have z2 : (S == 2) = false := by simpa using h2
      clear hV
      go_wp2_with fail
      go_ret
      exact ⟨by rw [HV.out]; rfl, HB2.out.trans (by first | exact (below_drewN_alloc w2 nq _).mono HB2.out.size | exact (below_alloc w2 _).mono HB2.out.size)⟩
end Go.Proofs.Ytcebdodogbpglaa.Rdr
