import Derived.Test.YtcebdodogbpglaaRfB
import Derived.Test.YtcebdodogbpglaaRdG
import Derived.Test.YtcebdodogbpglaaRdH
import Derived.Test.YtcebdodogbpglaaMemF
set_option linter.unusedVariables false
set_option maxRecDepth 100000
/-! THE REFERENCE's READER. -/
namespace Go.Proofs.Ytcebdodogbpglaa.Rdr
open Go.ChangeShapes Go.WideShapes Go.ChangeAt Go.RowKit Mem Put

/-- What was handed out of a list that grows: it stays. -/
def Want (L : Nat → Nat) (d : Nat) (w : World) (bb : Option Nat) (n : Nat) (v : Value) (bs : List UInt8) : Prop :=
  ∃ p cap, v = .slice p bs.length cap ∧ bs.length ≤ cap ∧ cap ≤ maxLen ∧ ∀ j u, (bs.map byt)[j]? = some u → ∃ b off, p = some ⟨b, off, none⟩ ∧ L b = d ∧ w.cell? ⟨b, off + j, none⟩ = some u ∧ (bb = some b → off + j < n)

theorem Want.rd {L : Nat → Nat} {d : Nat} {w : World} {bb : Option Nat} {n : Nat} {v : Value} {bs : List UInt8} (h : Want L d w bb n v bs) : Rd L d w 1 v bs.length (bs.map byt) := by
  obtain ⟨p, cap, hv, h1, h2, hc⟩ := h
  refine ⟨by simp, p, cap, hv, h1, h2, fun j u hj => ?_⟩
  obtain ⟨b, off, e1, e2, e3, _⟩ := hc j u hj
  exact ⟨b, off, e1, e2, e3⟩
theorem Want.nil (L : Nat → Nat) (d : Nat) (w : World) (bb : Option Nat) (n : Nat) : Want L d w bb n (.slice none 0 0) [] :=
  ⟨none, 0, rfl, Nat.le_refl _, Nat.zero_le _, fun j u h => by simp at h⟩
theorem Want.step {C : Nat → Prop} {L L' : Nat → Nat} {d : Nat} {w w' : World} {bb : Option Nat} {n : Nat} {v : Value} {bs : List UInt8} (h : Want L d w bb n v bs) (st : Step C L w L' w') (hC : ¬ C d) : Want L' d w' bb n v bs := by
  obtain ⟨p, cap, hv, h1, h2, hc⟩ := h
  refine ⟨p, cap, hv, h1, h2, fun j u hj => ?_⟩
  obtain ⟨b, off, e1, e2, e3, e4⟩ := hc j u hj
  exact ⟨b, off, e1, (st.col b (World.block_lt_of_cell? w _ e3)).trans e2, st.cell e3 (by show ¬ C (L b); rw [e2]; exact hC), e4⟩

/-- The reference's reader in memory, and what it handed out. -/
def RefAt (L : Nat → Nat) (c : Nat) (w : World) (xb lm lb : Nat) (F : List UInt8) (sh : Bool) (at_ : Nat) (last : Bool) (Ws : List (Value × List UInt8)) : Prop :=
  ∃ vf, w.heap[xb]? = some (.cells #[.int .i64 lm, .int .i64 lb, vf, .bool sh, .int .i64 at_, .bool last] 79 (0, 0)) ∧ L xb = c ∧ Own L (c + 1) w 5 1 vf F.length (F.map byt) ∧ ∀ p ∈ Ws, Want L (c + 1) w vf.ownBlock F.length p.1 p.2
def Xc (c d : Nat) : Prop := c ≤ d ∧ d < c + 2
theorem RefAt.step {L L' : Nat → Nat} {w w' : World} {C : Nat → Prop} {c xb lm lb at_ : Nat} {F : List UInt8} {sh last : Bool} {Ws : List (Value × List UInt8)} (h : RefAt L c w xb lm lb F sh at_ last Ws)
    (st : Step C L w L' w') (hC : ∀ d, C d → ¬ Xc c d) : RefAt L' c w' xb lm lb F sh at_ last Ws := by
  obtain ⟨vf, h0, h1, h2, h3⟩ := h
  have hn : ∀ d, Xc c d → ¬ C d := fun d hb hc => hC d hc hb
  exact ⟨vf, st.heap h0 (by rw [h1]; exact hn _ (by unfold Xc; omega)), (st.col xb (lt_of_heap h0)).trans h1, h2.step st (hn _ (by unfold Xc; omega)), fun p hp => (h3 p hp).step st (hn _ (by unfold Xc; omega))⟩

theorem rnew_calls (L : Nat → Nat) (c : Nat) (w : World) (lm lb : Nat) (hlm : lm ≤ 65536) (hlb : lb ≤ 4194304) :
    Calls Try.prog 21 #[.agg #[.int .i64 lm, .int .i64 lb]] w fun e w' => ∃ xb, e = .returned (.tuple #[.pointer (some ⟨xb, 0, none⟩), .int .i64 0]) ∧ ∃ L', Step (fun _ => False) L w L' w' ∧ RefAt L' c w' xb lm lb [] false 0 false [] := by
  go_enter Try.func21, Try.ntmps21
  go_wp2_with fail
  go_ret2
  have hb : Below w.heap.size w ((w.alloc (.cells #[.int .i64 lm, .int .i64 lb] 40)).alloc (.cells #[.int .i64 lm, .int .i64 lb, .slice none 0 0, .bool false, .int .i64 0, .bool false] 79)) :=
    (below_alloc w _).trans ((below_alloc _ _).mono (by simp))
  refine ⟨w.heap.size + 1, rfl, ext L w.heap.size c, Step.of_below hb _ c, _, ?_, ext_new (by omega), Own.nil _ _ _ _ _, fun p hp => by cases hp⟩
  have e : (w.alloc (.cells #[.int .i64 lm, .int .i64 lb] 40)).heap.size = w.heap.size + 1 := by simp
  rw [← e]
  exact heap_alloc_new _ _

def badLim (a b : Int) : Bool := decide (a < 0) || decide (65536 < a) || decide (b < 0) || decide (4194304 < b)
theorem rnew_bad (w : World) (a b : Int) (ha : -9223372036854775808 ≤ a ∧ a ≤ 9223372036854775807) (hb : -9223372036854775808 ≤ b ∧ b ≤ 9223372036854775807) (h : badLim a b = true) :
    Calls Try.prog 21 #[.agg #[.int .i64 a, .int .i64 b]] w fun e w' => e = .returned (.tuple #[.pointer none, .int .i64 1]) ∧ Below w.heap.size w w' := by
  unfold badLim at h
  go_enter Try.func21, Try.ntmps21
  go_wp2_with fail
  all_goals go_ret2
  all_goals exact ⟨rfl, below_alloc w _⟩
theorem fnew_bad (w : World) (a b : Int) (ha : -9223372036854775808 ≤ a ∧ a ≤ 9223372036854775807) (hb : -9223372036854775808 ≤ b ∧ b ≤ 9223372036854775807) (h : badLim a b = true) :
    Calls Try.prog 18 #[.agg #[.int .i64 a, .int .i64 b]] w fun e w' => e = .returned (.tuple #[.pointer none, .int .i64 1]) ∧ Below w.heap.size w w' := by
  unfold badLim at h
  go_enter Try.func18, Try.ntmps18
  go_wp2_with fail
  all_goals go_ret2
  all_goals exact ⟨rfl, below_alloc w _⟩

theorem rend_calls {L : Nat → Nat} {c : Nat} {w : World} {xb lm lb at_ : Nat} {F : List UInt8} {sh last : Bool} {Ws : List (Value × List UInt8)} (h : RefAt L c w xb lm lb F sh at_ last Ws) :
    Calls Try.prog 25 #[.pointer (some ⟨xb, 0, none⟩)] w fun e w' => e = .returned (.int .i64 (if sh then 9 else 0)) ∧ ∃ L', Step (· = c) L w L' w' ∧ RefAt L' c w' xb lm lb F true at_ last Ws := by
  obtain ⟨vf, h0, h1, h2, h3⟩ := h
  have c3 : w.cell? ⟨xb, 3, none⟩ = some (.bool sh) := by rw [cell_of_heap h0]; rfl
  obtain ⟨s1, f0⟩ := Step.store (j := 3) (v := .bool true) h0 h1
  have d1 : w.frozen? ⟨xb, 3, none⟩ = false := frozen_of_heap h0
  have g2 := h2.step s1 (by omega)
  have g3 : ∀ p ∈ Ws, Want L (c + 1) _ vf.ownBlock F.length p.1 p.2 := fun p hp => (h3 p hp).step s1 (by omega)
  have H0 := Lib.hid h0
  have H3 := Lib.hid h3
  have G3 := Lib.hid g3
  clear h0 h3 g3
  cases sh with
  | true =>
    go_enter Try.func25, Try.ntmps25
    go_wp2_with fail
    go_ret
    exact ⟨rfl, L, Step.refl _ _ _, vf, H0.out, h1, h2, H3.out⟩
  | false =>
    go_enter Try.func25, Try.ntmps25
    go_wp2_with fail
    go_ret
    exact ⟨rfl, L, s1, vf, f0, h1, g2, G3.out⟩

theorem rfeed_shut {w : World} {xb : Nat} (v : Value) (c3 : w.cell? ⟨xb, 3, none⟩ = some (.bool true)) :
    Calls Try.prog 23 #[.pointer (some ⟨xb, 0, none⟩), v] w fun e w' => e = .returned (.int .i64 9) ∧ w' = w := by
  go_enter Try.func23, Try.ntmps23
  go_wp2_with fail
  go_ret
  exact ⟨rfl, rfl⟩
theorem ffeed_shut {w : World} {rb : Nat} (v : Value) (c8 : w.cell? ⟨rb, 8, none⟩ = some (.bool true)) :
    Calls Try.prog 22 #[.pointer (some ⟨rb, 0, none⟩), v] w fun e w' => e = .returned (.int .i64 9) ∧ w' = w := by
  go_enter Try.func22, Try.ntmps22
  go_wp2_with fail
  go_ret
  exact ⟨rfl, rfl⟩

theorem Want.grow {L L' : Nat → Nat} {d n m : Nat} {w w' : World} {vf vf' v : Value} {bs : List UInt8} (h : Want L d w vf.ownBlock n v bs) (hL : ∀ b, b < w.heap.size → L' b = L b) (hk : Keeps w w' vf n) (hnm : n ≤ m)
    (hb : vf'.ownBlock = vf.ownBlock ∨ vf'.ownBlock = some w.heap.size) : Want L' d w' vf'.ownBlock m v bs := by
  obtain ⟨p, cap, hv, h1, h2, hc⟩ := h
  refine ⟨p, cap, hv, h1, h2, fun j u hj => ?_⟩
  obtain ⟨b, off, e1, e2, e3, e4⟩ := hc j u hj
  have hlt := World.block_lt_of_cell? w _ e3
  refine ⟨b, off, e1, (hL b hlt).trans e2, hk b (off + j) u e3 e4, fun he => ?_⟩
  rcases hb with hb | hb
  · rw [hb] at he; have := e4 he; omega
  · rw [hb] at he
    have : w.heap.size = b := Option.some.inj he
    have h5 : b < w.heap.size := hlt
    omega

theorem rfeed_calls {L : Nat → Nat} {c c1 : Nat} {w : World} {xb lm lb at_ : Nat} {F : List UInt8} {last : Bool} {Ws : List (Value × List UInt8)} (h : RefAt L c w xb lm lb F false at_ last Ws)
    {p : Option Addr} {n cap : Nat} {bs : List UInt8} (hr : Rd L c1 w 1 (.slice p n cap) n (bs.map byt)) (hB : F.length + n ≤ 10000000000) :
    Calls Try.prog 23 #[.pointer (some ⟨xb, 0, none⟩), .slice p n cap] w fun e w' => e = .returned (.int .i64 0) ∧ ∃ L', Step (Xc c) L w L' w' ∧ RefAt L' c w' xb lm lb (F ++ bs) false at_ last Ws := by
  have hbl : bs.length = n := by simpa using hr.1
  subst hbl
  obtain ⟨_, _, hv, hcn, hcm⟩ := hr.shape
  cases hv
  obtain ⟨vf, h0, h1, h2, h3⟩ := h
  obtain ⟨pf, cf, hvf, _⟩ := ownsRow_shape h2.1
  subst hvf
  have c2 : w.cell? ⟨xb, 2, none⟩ = some (.slice pf F.length cf) := by rw [cell_of_heap h0]; rfl
  have c3 : w.cell? ⟨xb, 3, none⟩ = some (.bool false) := by rw [cell_of_heap h0]; rfl
  have H3 := Lib.hid h3
  have H0 := Lib.hid h0
  clear h3 h0
  go_enter Try.func23, Try.ntmps23
  go_wp2_with (at_builtin; refine wpList_append2 rfl (.tmp 13) (.tmp 14) 23 23 rfl 5 Try.underlying23 Ink.infoByte rfl (by decide) _ F.length (F.map byt) rfl h2.1 _ bs.length (bs.map byt) rfl (Rd.src hr Try.underlying23 (byt_oneCell bs)) (by unfold maxLen; omega) (by omega) ?_)
  intro v2 w2 hown2 hg2 hblk _ hkp
  have hKp : Keeps w w2 (.slice pf F.length cf) F.length := keeps_of h2.1 hown2 hg2 hkp
  obtain ⟨L2, S2, o2, s2⟩ := Own.grown (C := Xc c) (Step.refl _ L w) (by unfold Xc; omega) h2 (Below.refl _ _) hown2 hg2 (by simpa using hblk)
  have hW2 : ∀ p ∈ Ws, Want L2 (c + 1) w2 v2.ownBlock (F.length + bs.length) p.1 p.2 := fun p hp => (H3.out p hp).grow (fun b hb => S2.col b hb) hKp (by omega) hblk
  have q0 := s2.heap H0.out (by rw [h1]; omega)
  have q1 : L2 xb = c := (s2.col xb (lt_of_heap H0.out)).trans h1
  obtain ⟨p2, k2, hv2, _⟩ := ownsRow_shape o2.1
  subst hv2
  obtain ⟨s3, f3⟩ := Step.store (j := 2) (v := .slice p2 (F.length + bs.length) k2) q0 q1
  have e2 : w2.cell? ⟨xb, 2, none⟩ = some (.slice pf F.length cf) := by rw [cell_of_heap q0]; rfl
  have d2 : w2.frozen? ⟨xb, 2, none⟩ = false := frozen_of_heap q0
  have o3 := o2.step s3 (by omega)
  have hW3 : ∀ p ∈ Ws, Want L2 (c + 1) _ _ (F.length + bs.length) p.1 p.2 := fun p hp => (hW2 p hp).step s3 (by omega)
  have S3 := S2.trans (s3.mono (D := Xc c) (by rintro _ rfl; unfold Xc; omega))
  have HW3 := Lib.hid hW3
  clear hown2 hg2 hblk hkp hKp hW2 hW3 o2 s2 S2 s3 q0 H0 h2
  go_wp2_with fail
  go_ret
  refine ⟨rfl, L2, S3, _, f3, q1, ?_, ?_⟩
  · simpa using o3
  · rw [List.length_append]; exact HW3.out

end Go.Proofs.Ytcebdodogbpglaa.Rdr
