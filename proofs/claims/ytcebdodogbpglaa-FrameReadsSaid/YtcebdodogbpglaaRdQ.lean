import Derived.Test.YtcebdodogbpglaaRdP
import Derived.Test.YtcebdodogbpglaaPutV
set_option linter.unusedVariables false
set_option maxRecDepth 100000
/-! A STREAM IS ITS MESSAGES. -/
namespace Go.Proofs.Ytcebdodogbpglaa.Rdr
open Put Mem

theorem leV_leB (m : Nat) (h : m < 4294967296) : leV (leB (m : Int) 4) = m := by
  simp [leB, leV, lowByte]
  omega
theorem leB4 (x : Int) : ∃ a b c d, leB x 4 = [a, b, c, d] := ⟨_, _, _, _, rfl⟩

theorem head_facts (last : UInt8) (m b s : Nat) (hm : m < 4294967296) (hb : b < 4294967296) (hs : s < 4294967296) (hl : last = 48 ∨ last = 49) :
    n4 (headB last m b s) 4 = m ∧ n4 (headB last m b s) 8 = b ∧ n4 (headB last m b s) 12 = sumV firstV ((headB last m b s).take 12) ∧ n4 (headB last m b s) 16 = s ∧ (headB last m b s)[3]? = some last ∧
      zerosB (headB last m b s) 20 24 = true ∧ markB (headB last m b s) = true := by
  have hx : sumV 2166136261 ((Put.markB last ++ leB (m : Int) 4) ++ leB (b : Int) 4) < 4294967296 := sumV_lt (by decide) _
  have e1 := leV_leB m hm
  have e2 := leV_leB b hb
  have e3 := leV_leB _ hx
  have e4 := leV_leB s hs
  unfold headB
  obtain ⟨a0, a1, a2, a3, ha⟩ := leB4 (m : Int)
  obtain ⟨b0, b1, b2, b3, hb⟩ := leB4 (b : Int)
  obtain ⟨c0, c1, c2, c3, hc⟩ := leB4 ((sumV 2166136261 ((Put.markB last ++ leB (m : Int) 4) ++ leB (b : Int) 4) : Nat) : Int)
  obtain ⟨d0, d1, d2, d3, hd⟩ := leB4 (s : Int)
  have hz : leB ((0 : Nat) : Int) 4 = [0, 0, 0, 0] := by decide
  rw [hc] at e3
  rw [ha] at e1 e3
  rw [hb] at e2 e3
  rw [hd] at e4
  rw [hc, hd, ha, hb, hz]
  refine ⟨e1, e2, e3, e4, rfl, rfl, ?_⟩
  rcases hl with rfl | rfl <;> rfl

def tailB (ms bd : List UInt8) : List UInt8 := ((ms ++ zeros (padU ms.length - ms.length)) ++ bd) ++ zeros (padU bd.length - bd.length)
theorem msg_split (last : UInt8) (ms bd : List UInt8) : msgB last ms bd = headB last ms.length bd.length (sumV (sumV 2166136261 ms) bd) ++ tailB ms bd := by
  unfold msgB tailB; simp only [List.append_assoc]
theorem msg_length (last : UInt8) (ms bd : List UInt8) : (msgB last ms bd).length = 24 + padU ms.length + padU bd.length := by
  have h1 := padU_ge ms.length; have h2 := padU_ge bd.length
  simp [msgB, headB_length, zeros]; omega

theorem msg_look (last : UInt8) (ms bd : List UInt8) (hl : last = 49 ∨ (last = 48 ∧ ms = [] ∧ bd = [])) {lm lb : Nat} (hm : ms.length ≤ lm) (hb : bd.length ≤ lb) (hlm : lm ≤ 65536) (hlb : lb ≤ 4194304) :
    lookE (msgB last ms bd) lm lb = 0 ∧ lookN (msgB last ms bd) lm lb = (msgB last ms bd).length ∧ n4 (msgB last ms bd) 4 = ms.length ∧ n4 (msgB last ms bd) 8 = bd.length ∧ (msgB last ms bd)[3]? = some last ∧
      seg (msgB last ms bd) 24 ms.length = ms ∧ seg (msgB last ms bd) (24 + padU ms.length) bd.length = bd := by
  have hS : sumV (sumV 2166136261 ms) bd < 4294967296 := sumV_lt (sumV_lt (by decide) _) _
  obtain ⟨f1, f2, f3, f4, f5, f6, f7⟩ := head_facts last ms.length bd.length _ (by omega) (by omega) hS (hl.elim .inr (fun h => .inl h.1))
  have hL := msg_length last ms bd
  have hH := headB_length last ms.length bd.length (sumV (sumV 2166136261 ms) bd)
  have p1 := padU_ge ms.length
  have p2 := padU_ge bd.length
  have g1 : n4 (msgB last ms bd) 4 = ms.length := by rw [msg_split, n4_append (by omega), f1]
  have g2 : n4 (msgB last ms bd) 8 = bd.length := by rw [msg_split, n4_append (by omega), f2]
  have g3 : n4 (msgB last ms bd) 12 = sumV firstV ((msgB last ms bd).take 12) := by rw [msg_split, n4_append (by omega), f3, List.take_append_of_le_length (by omega)]
  have g4 : n4 (msgB last ms bd) 16 = sumV (sumV 2166136261 ms) bd := by rw [msg_split, n4_append (by omega), f4]
  have g5 : (msgB last ms bd)[3]? = some last := by rw [msg_split, List.getElem?_append_left (by omega), f5]
  have g6 : zerosB (msgB last ms bd) 20 24 = true := by rw [msg_split]; exact zerosB_append_ok f6 (by omega)
  have g7 : markB (msgB last ms bd) = true := by rw [msg_split]; exact markB_append_ok f7 (by omega)
  have hfr : fromV (msgB last ms bd) = 24 + padU ms.length := by rw [fromV, g1]
  have hsz : sizeV (msgB last ms bd) = (msgB last ms bd).length := by rw [sizeV, hfr, g2, hL]
  have s1 : seg (msgB last ms bd) 24 ms.length = ms := by
    unfold seg msgB
    rw [List.append_assoc, List.append_assoc, List.append_assoc, List.drop_append_of_le_length (by omega), List.drop_of_length_le (by omega), List.nil_append, List.take_append_of_le_length (Nat.le_refl _), List.take_of_length_le (Nat.le_refl _)]
  have s2 : seg (msgB last ms bd) (24 + padU ms.length) bd.length = bd := by
    have hl3 : ((headB last ms.length bd.length (sumV (sumV 2166136261 ms) bd) ++ ms) ++ zeros (padU ms.length - ms.length)).length = 24 + padU ms.length := by simp [hH, zeros]; omega
    unfold seg msgB
    rw [List.append_assoc, List.drop_append_of_le_length (by omega), List.drop_of_length_le (by omega), List.nil_append, List.take_append_of_le_length (Nat.le_refl _), List.take_of_length_le (Nat.le_refl _)]
  have z1 : zerosB (msgB last ms bd) (24 + ms.length) (24 + padU ms.length) = true := zerosB_iff.2 fun i hi h1 h2 => by
    have : (msgB last ms bd)[i]? = some 0 := by
      unfold msgB
      rw [List.getElem?_append_left (by simp [hH, zeros]; omega), List.getElem?_append_left (by simp [hH, zeros]; omega), List.getElem?_append_right (by simp [hH]; omega)]
      have e : (headB last ms.length bd.length (sumV (sumV 2166136261 ms) bd) ++ ms).length = 24 + ms.length := by rw [List.length_append, hH]
      rw [e, zeros, List.getElem?_replicate, if_pos (by omega)]
    exact (List.getElem?_eq_some_iff.1 this).2
  have z2 : zerosB (msgB last ms bd) (24 + padU ms.length + bd.length) (msgB last ms bd).length = true := zerosB_iff.2 fun i hi h1 h2 => by
    have : (msgB last ms bd)[i]? = some 0 := by
      unfold msgB
      rw [List.getElem?_append_right (by simp [hH, zeros]; omega)]
      have e : (((headB last ms.length bd.length (sumV (sumV 2166136261 ms) bd) ++ ms) ++ zeros (padU ms.length - ms.length)) ++ bd).length = 24 + padU ms.length + bd.length := by simp [hH, zeros]; omega
      rw [e, zeros, List.getElem?_replicate, if_pos (by omega)]
    exact (List.getElem?_eq_some_iff.1 this).2
  have hE : lookE (msgB last ms bd) lm lb = 0 := by
    rw [lookE_rest g7 (by omega)]
    unfold restE
    rw [if_neg (by rw [g3]; simp), if_neg (by rw [g1, g2]; omega), if_neg, if_neg, if_neg]
    · rintro ⟨_, h⟩
      apply h
      rw [g4, g1, g2, hfr, s1, s2]; rfl
    · rw [g6, g1, g2, hfr, hsz, z1, z2]; simp
    · rintro ⟨h1, h2⟩
      rw [g5] at h1
      rw [g1, g2] at h2
      rcases hl with rfl | ⟨rfl, rfl, rfl⟩
      · cases h1
      · simp at h2
  exact ⟨hE, by rw [lookN, if_pos ⟨hE, by omega⟩, hsz], g1, g2, g5, s1, s2⟩

abbrev Pair := List UInt8 × List UInt8
def streamB (M : List Pair) : List UInt8 := (M.map fun m => msgB 49 m.1 m.2).flatten ++ msgB 48 [] []
theorem streamB_cons (m : Pair) (M : List Pair) : streamB (m :: M) = msgB 49 m.1 m.2 ++ streamB M := by simp [streamB]
def Fits (lm lb : Nat) (M : List Pair) : Prop := ∀ m ∈ M, m.1.length ≤ lm ∧ m.2.length ≤ lb

theorem scan_msg {lm lb : Nat} (hlm : lm ≤ 65536) (hlb : lb ≤ 4194304) (m : Pair) (h : m.1.length ≤ lm ∧ m.2.length ≤ lb) (y : List UInt8) : scanF lm lb false (msgB 49 m.1 m.2 ++ y) = pre [m] (scanF lm lb false y) := by
  obtain ⟨hE, hN, g1, g2, g3, s1, s2⟩ := msg_look 49 m.1 m.2 (.inl rfl) h.1 h.2 hlm hlb
  have hL := msg_length 49 m.1 m.2
  obtain ⟨e1, e2, h16, hsz⟩ := look_whole (y := y) hE (by rw [hN]; omega)
  have hne : msgB 49 m.1 m.2 ++ y ≠ [] := by intro h; have := congrArg List.length h; rw [List.length_append, List.length_nil] at this; omega
  rw [scan_one hne e1 (by rw [e2, hN, List.length_append]; omega) (by rw [third_append h16, g3]; decide), n4_append (by omega), n4_append (by omega), fromV_append h16, g1, g2, e2, hN]
  have hfr : fromV (msgB 49 m.1 m.2) = 24 + padU m.1.length := by rw [fromV, g1]
  have p1 := padU_ge m.1.length
  have p2 := padU_ge m.2.length
  rw [hfr, seg_append (by omega), seg_append (by omega), s1, s2, List.drop_append_of_le_length (Nat.le_refl _), List.drop_of_length_le (Nat.le_refl _), List.nil_append]
theorem scan_close {lm lb : Nat} (hlm : lm ≤ 65536) (hlb : lb ≤ 4194304) : scanF lm lb false (msgB 48 [] []) = ⟨[], [], 0, true⟩ := by
  obtain ⟨hE, hN, g1, g2, g3, s1, s2⟩ := msg_look 48 [] [] (.inr ⟨rfl, rfl, rfl⟩) (lm := lm) (lb := lb) (by simp) (by simp) hlm hlb
  have hL := msg_length 48 [] []
  have hne : msgB 48 [] [] ≠ [] := by intro h; have := congrArg List.length h; rw [List.length_nil] at this; omega
  rw [scan_end hne hE (by rw [hN]; omega) g3, hN, List.drop_of_length_le (Nat.le_refl _), scan_nil]
/-- A WHOLE STREAM. -/
theorem scan_stream {lm lb : Nat} (hlm : lm ≤ 65536) (hlb : lb ≤ 4194304) : ∀ (M : List Pair), Fits lm lb M → scanF lm lb false (streamB M) = ⟨M, [], 0, true⟩
  | [], _ => by rw [show streamB [] = msgB 48 [] [] from by simp [streamB]]; exact scan_close hlm hlb
  | m :: M, h => by
    rw [streamB_cons, scan_msg hlm hlb m (h m (by simp)), scan_stream hlm hlb M (fun x hx => h x (by simp [hx]))]
    rfl

/-- How many are whole. -/
def cnt : List Pair → Nat → Nat
  | [], _ => 0
  | m :: M, k => if (msgB 49 m.1 m.2).length ≤ k then 1 + cnt M (k - (msgB 49 m.1 m.2).length) else 0

theorem scan_short {lm lb : Nat} {x : List UInt8} (hE : lookE x lm lb = 0) (hN : lookN x lm lb = x.length) {k : Nat} (hk : k < x.length) : ∃ t, scanF lm lb false (x.take k) = ⟨[], t, 0, false⟩ := by
  by_cases h0 : x.take k = []
  · rw [h0, scan_nil]; exact ⟨_, rfl⟩
  · have hx : x = x.take k ++ x.drop k := (List.take_append_drop k x).symm
    have hE2 : lookE (x.take k) lm lb = 0 := by
      rcases Int.decEq (lookE (x.take k) lm lb) 0 with h | h
      · have := look_err (y := x.drop k) h
        rw [← hx, hE] at this
        exact absurd this.symm h
      · exact h
    refine ⟨_, scan_wait h0 hE2 ?_⟩
    rcases Classical.em (lookN (x.take k) lm lb = 0 ∨ (x.take k).length < lookN (x.take k) lm lb) with h | h
    · exact h
    · obtain ⟨_, e2, _⟩ := look_whole (y := x.drop k) hE2 h
      rw [← hx, hN] at e2
      have : (x.take k).length = k := by simp; omega
      omega

/-- A STREAM CUT SHORT. -/
theorem scan_cut {lm lb : Nat} (hlm : lm ≤ 65536) (hlb : lb ≤ 4194304) : ∀ (M : List Pair) (k : Nat), Fits lm lb M → k < (streamB M).length → ∃ t, scanF lm lb false ((streamB M).take k) = ⟨M.take (cnt M k), t, 0, false⟩
  | [], k, _, hk => by
    obtain ⟨hE, hN, _⟩ := msg_look 48 [] [] (.inr ⟨rfl, rfl, rfl⟩) (lm := lm) (lb := lb) (by simp) (by simp) hlm hlb
    rw [show streamB [] = msgB 48 [] [] from by simp [streamB]] at hk ⊢
    exact scan_short hE hN hk
  | m :: M, k, h, hk => by
    rw [streamB_cons] at hk ⊢
    by_cases hl : (msgB 49 m.1 m.2).length ≤ k
    · obtain ⟨t, ht⟩ := scan_cut hlm hlb M (k - (msgB 49 m.1 m.2).length) (fun x hx => h x (by simp [hx])) (by simp at hk; omega)
      refine ⟨t, ?_⟩
      rw [List.take_append, List.take_of_length_le hl, scan_msg hlm hlb m (h m (by simp)), ht, cnt, if_pos hl]
      simp [pre, Nat.add_comm 1]
    · obtain ⟨hE, hN, _⟩ := msg_look 49 m.1 m.2 (.inl rfl) (h m (by simp)).1 (h m (by simp)).2 hlm hlb
      rw [List.take_append_of_le_length (by omega), cnt, if_neg hl]
      exact scan_short hE hN (by omega)

end Go.Proofs.Ytcebdodogbpglaa.Rdr
