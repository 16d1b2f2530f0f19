import Derived.Test.YtcebdodogbpglaaRfD
set_option linter.unusedVariables false
set_option maxRecDepth 100000
/-! THE REFERENCE's NEXT. -/
namespace Go.Proofs.Ytcebdodogbpglaa.Rdr
open Go.ChangeShapes Go.WideShapes Go.ChangeAt Go.RowKit Mem Put

/-- What was fed, read. -/
structure FedAt (L : Nat → Nat) (d : Nat) (w : World) (p : Option Addr) (cap : Nat) (F : List UInt8) : Prop where
  rd : Rd L d w 1 (.slice p F.length cap) F.length (F.map byt)
  none : p = none → F.length = 0 ∧ cap = 0
  zero : ∀ a, p = some a → ∃ b, a = ⟨b, 0, Option.none⟩
theorem FedAt.of_own {L : Nat → Nat} {d : Nat} {w : World} {p : Option Addr} {cap : Nat} {F : List UInt8} (h : Own L d w 5 1 (.slice p F.length cap) F.length (F.map byt)) : FedAt L d w p cap F := by
  obtain ⟨p', cap', hv, hn, hmx, hz, hc⟩ := ownsRow_shape h.1
  cases hv
  refine ⟨h.rd, hz, fun a ha => ?_⟩
  rcases h.1.2 with ⟨hv, _⟩ | ⟨g, cap2, cur, hv, _⟩
  · subst ha; cases hv
  · subst ha; cases hv; exact ⟨g, rfl⟩
theorem FedAt.step {L L' : Nat → Nat} {d : Nat} {w w' : World} {C : Nat → Prop} {p : Option Addr} {cap : Nat} {F : List UInt8} (h : FedAt L d w p cap F) (st : Step C L w L' w') (hC : ¬ C d) : FedAt L' d w' p cap F :=
  ⟨h.rd.step st hC, h.none, h.zero⟩
theorem FedAt.drewN {L : Nat → Nat} {d : Nat} {w : World} {p : Option Addr} {cap : Nat} {F : List UInt8} (h : FedAt L d w p cap F) (k : Nat) : FedAt L d (w.drewN k) p cap F := ⟨h.rd.drewN k, h.none, h.zero⟩

/-- The rest of what was fed, as Next slices it. -/
def restV (p : Option Addr) (n cap m : Nat) : Value := .slice (if cap = m then p else p.map (·.add m)) (n - m) (cap - m)
theorem FedAt.rest {L : Nat → Nat} {c : Nat} {w : World} {p : Option Addr} {cap : Nat} {F : List UInt8} (h : FedAt L c w p cap F) {m : Nat} (hm : m ≤ F.length) :
    Rd L c w 1 (restV p F.length cap m) (F.drop m).length ((F.drop m).map byt) := by
  have hr := h.rd
  unfold restV
  cases p with
  | none =>
    obtain ⟨h1, h2⟩ := h.none rfl
    have hF : F = [] := List.eq_nil_of_length_eq_zero h1
    subst hF
    obtain rfl : m = 0 := by simpa using hm
    subst h2
    exact (Own.nil L c w 5 1).rd
  | some a =>
    obtain ⟨b, rfl⟩ := h.zero a rfl
    have := Rd.dropz hr hm
    rw [List.length_drop]
    rw [List.length_drop] at this
    simpa [add_lit] using this

/-- What is handed out of what was fed. -/
def Part (p : Option Addr) (F : List UInt8) (v : Value) (bs : List UInt8) : Prop :=
  ∃ q k, v = .slice q bs.length k ∧ bs.length ≤ k ∧ k ≤ maxLen ∧ ∀ j u, bs[j]? = some u → ∃ b off, q = some ⟨b, off, none⟩ ∧ p = some ⟨b, 0, none⟩ ∧ F[off + j]? = some u
theorem Part.nil (p : Option Addr) (F : List UInt8) : Part p F (.slice none 0 0) [] := ⟨none, 0, rfl, Nat.le_refl _, Nat.zero_le _, fun j u h => by simp at h⟩

theorem rnext_last {w : World} {xb lm lb at_ : Nat} {F : List UInt8} {sh : Bool} {pf : Option Addr} {cf : Nat} (h0 : w.heap[xb]? = some (.cells #[.int .i64 lm, .int .i64 lb, .slice pf F.length cf, .bool sh, .int .i64 at_, .bool true] 79 (0, 0)))
    (hn : F.length ≤ cf) (hm : cf ≤ maxLen) (ha : at_ ≤ F.length) (hF : F.length ≤ 10000000000) :
    Calls Try.prog 40 #[.pointer (some ⟨xb, 0, none⟩)] w fun e w' => e = .returned (.tuple #[.agg #[.slice none 0 0, .slice none 0 0], .int .i64 (if F.drop at_ = [] then 3 else 4), .int .i64 (if F.drop at_ = [] then 0 else 74)]) ∧ Below w.heap.size w w' := by
  unfold maxLen at hm
  have c2 : w.cell? ⟨xb, 2, none⟩ = some (.slice pf F.length cf) := by rw [cell_of_heap h0]; rfl
  have c4 : w.cell? ⟨xb, 4, none⟩ = some (.int .i64 at_) := by rw [cell_of_heap h0]; rfl
  have c5 : w.cell? ⟨xb, 5, none⟩ = some (.bool true) := by rw [cell_of_heap h0]; rfl
  have hlt := lt_of_heap h0
  clear h0
  by_cases hd : at_ < F.length
  · have hne : ¬ F.drop at_ = [] := by simp; omega
    rw [if_neg hne, if_neg hne]
    clear hne
    go_enter Try.func40, Try.ntmps40
    go_wp2_with fail
    go_quiet (fail)
    go_wp2_with fail
    refine bodyPost_ret (v := .tuple #[.agg #[.slice none 0 0, .slice none 0 0], .int .i64 4, .int .i64 74]) (by simp [results, Try.results40, go_sem]) rfl ⟨rfl, ?_⟩
    have hb0 := below_drewN_alloc w nq (.cells #[.slice none 0 0, .slice none 0 0] 25)
    exact (hb0.setCell (Nat.le_refl _) _).setCell (Nat.le_refl _) _
  · have hne : F.drop at_ = [] := by simp; omega
    have he : F.length = at_ := by omega
    rw [if_pos hne, if_pos hne]
    clear hne
    go_enter Try.func40, Try.ntmps40
    go_wp2_with fail
    go_quiet (fail)
    all_goals go_wp2_with fail
    all_goals refine bodyPost_ret (v := .tuple #[.agg #[.slice none 0 0, .slice none 0 0], .int .i64 3, .int .i64 0]) (by simp [results, Try.results40, go_sem]) rfl ⟨rfl, ?_⟩
    all_goals have hb0 := below_drewN_alloc w nq (.cells #[.slice none 0 0, .slice none 0 0] 25)
    all_goals exact (hb0.setCell (Nat.le_refl _) _).setCell (Nat.le_refl _) _

theorem fin_res {L L' : Nat → Nat} {c : Nat} {w w' : World} {xb : Nat} {X : Array Value} {v0 v1 : Value} (S : Step (· = c) L w L' w') (hx : w'.heap[xb]? = some (.cells X 79 (0, 0))) (hlt : xb < w.heap.size)
    (hr : w'.heap[w.heap.size]? = some (.cells #[v0, v1] 25 (0, 0))) (u v : Value) :
    Step (· = c) L w L' ((w'.setCell ⟨w.heap.size, 0, none⟩ u).setCell ⟨w.heap.size, 1, none⟩ v) ∧ ((w'.setCell ⟨w.heap.size, 0, none⟩ u).setCell ⟨w.heap.size, 1, none⟩ v).heap[xb]? = some (.cells X 79 (0, 0)) ∧
      ((w'.setCell ⟨w.heap.size, 0, none⟩ u).setCell ⟨w.heap.size, 1, none⟩ v).cell? ⟨w.heap.size, 0, none⟩ = some u ∧ ((w'.setCell ⟨w.heap.size, 0, none⟩ u).setCell ⟨w.heap.size, 1, none⟩ v).cell? ⟨w.heap.size, 1, none⟩ = some v := by
  have q := Mem.heap_setCell_same (o := 1) (Mem.heap_setCell_same (o := 0) hr u) v
  have hne : xb ≠ w.heap.size := by omega
  exact ⟨(S.setNew (Nat.le_refl _)).setNew (Nat.le_refl _), by rw [Below.heap_setCell _ _ _ _ hne, Below.heap_setCell _ _ _ _ hne]; exact hx, by rw [cell_of_heap q]; rfl, by rw [cell_of_heap q]; rfl⟩

/-- What Next tells. -/
def RNext (L : Nat → Nat) (c : Nat) (w : World) (xb lm lb : Nat) (pf : Option Addr) (cf : Nat) (F : List UInt8) (sh : Bool) (at_ : Nat) (r : NextR) (e : Ending) (w' : World) : Prop :=
  ∃ v1 v2, e = .returned (.tuple #[.agg #[v1, v2], .int .i64 r.s, .int .i64 r.e]) ∧ (∃ L', Step (· = c) L w L' w') ∧
    w'.heap[xb]? = some (.cells #[.int .i64 lm, .int .i64 lb, .slice pf F.length cf, .bool sh, .int .i64 ((at_ + r.n : Nat) : Int), .bool r.l] 79 (0, 0)) ∧
    Part pf F v1 (r.p.getD ([], [])).1 ∧ Part pf F v2 (r.p.getD ([], [])).2

set_option maxHeartbeats 4000000 in
theorem rnext_calls {L : Nat → Nat} {c d : Nat} {w : World} {xb lm lb at_ : Nat} {F : List UInt8} {sh last : Bool} {pf : Option Addr} {cf : Nat} (hlm : lm ≤ 65536) (hlb : lb ≤ 4194304) (h0 : w.heap[xb]? = some (.cells #[.int .i64 lm, .int .i64 lb, .slice pf F.length cf, .bool sh, .int .i64 at_, .bool last] 79 (0, 0)))
    (h1 : L xb = c) (hf : FedAt L d w pf cf F) (hdc : d ≠ c) (ha : at_ ≤ F.length) (hF : F.length ≤ 10000000000) :
    Calls Try.prog 40 #[.pointer (some ⟨xb, 0, none⟩)] w (RNext L c w xb lm lb pf cf F sh at_ (nextR lm lb last sh (F.drop at_))) := by
  obtain ⟨_, _, hv, hn, hm⟩ := hf.rd.shape
  cases hv
  have hrest := hf.rest ha
  cases last with
  | true =>
    refine (rnext_last h0 hn hm ha hF).mono ?_
    rintro e w' ⟨rfl, hb⟩
    have hs := Step.of_below (L := L) hb (· = c) c
    have hr : nextR lm lb true sh (F.drop at_) = if F.drop at_ = [] then ⟨none, 3, 0, 0, true⟩ else ⟨none, 4, 74, 0, true⟩ := by unfold nextR; rw [if_pos rfl]
    have hh : w'.heap[xb]? = some (.cells #[.int .i64 lm, .int .i64 lb, .slice pf F.length cf, .bool sh, .int .i64 at_, .bool true] 79 (0, 0)) := by
      rw [hb.block xb (lt_of_heap h0)]; exact h0
    by_cases hd : F.drop at_ = []
    · rw [if_pos hd, if_pos hd]; rw [hr, if_pos hd]
      exact ⟨_, _, rfl, ⟨_, hs⟩, hh, Part.nil _ _, Part.nil _ _⟩
    · rw [if_neg hd, if_neg hd]; rw [hr, if_neg hd]
      exact ⟨_, _, rfl, ⟨_, hs⟩, hh, Part.nil _ _, Part.nil _ _⟩
  | false =>
    unfold maxLen at hm
    have c01 : w.cell? ⟨xb, 0, none⟩ = some (.int .i64 lm) ∧ w.cell? ⟨xb, 1, none⟩ = some (.int .i64 lb) := ⟨by rw [cell_of_heap h0]; rfl, by rw [cell_of_heap h0]; rfl⟩
    obtain ⟨c0, c1⟩ := c01
    have c2 : w.cell? ⟨xb, 2, none⟩ = some (.slice pf F.length cf) := by rw [cell_of_heap h0]; rfl
    have c3 : w.cell? ⟨xb, 3, none⟩ = some (.bool sh) := by rw [cell_of_heap h0]; rfl
    have c4 : w.cell? ⟨xb, 4, none⟩ = some (.int .i64 at_) := by rw [cell_of_heap h0]; rfl
    have c5 : w.cell? ⟨xb, 5, none⟩ = some (.bool false) := by rw [cell_of_heap h0]; rfl
    have hlt := lt_of_heap h0
    obtain ⟨B, hB⟩ : ∃ B, B = F.drop at_ := ⟨_, rfl⟩
    have hBl : B.length = F.length - at_ := by rw [hB]; simp
    rw [← hB] at hrest ⊢
    have HB := Lib.hid hB
    have H0 := Lib.hid h0
    have HFED := Lib.hid hf
    clear hB h0 hf
    have hnx : nextR lm lb false sh B = if lookE B lm lb ≠ 0 then ⟨none, 4, lookE B lm lb, 0, false⟩
      else if judgeN B lm lb = 0 then (if sh = true then ⟨none, 4, 73, 0, false⟩ else ⟨none, 1, 0, 0, false⟩)
      else if B[3]? = some 48 then (if B.drop (judgeN B lm lb) = [] then ⟨none, 3, 0, judgeN B lm lb, true⟩ else ⟨none, 4, 74, judgeN B lm lb, true⟩)
      else ⟨some (seg B 24 (n4 B 4), seg B (fromV B) (n4 B 8)), 2, 0, judgeN B lm lb, false⟩ := by
      unfold nextR; rw [if_neg (by simp)]
    have HNX := Lib.hid hnx
    clear hnx
    unfold restV at hrest
    obtain ⟨R, hR⟩ : ∃ R, R = nextR lm lb false sh B := ⟨_, rfl⟩
    rw [← hR]
    have HR := Lib.hid hR
    clear hR
    by_cases hca : cf = at_
    · rw [if_pos hca] at hrest
      have hB0 : B = [] := List.eq_nil_of_length_eq_zero (by omega)
      have hE : lookE B lm lb = 0 := by rw [hB0]; unfold lookE; rw [if_neg (by simp [markB_iff]), if_pos (by simp)]
      have hJ : judgeN B lm lb = 0 := by unfold judgeN; rw [if_neg]; rw [hB0]; simp
      have hFa : F.length = at_ := by omega
      have hR2 : R = if sh = true then ⟨none, 4, 73, 0, false⟩ else ⟨none, 1, 0, 0, false⟩ := by rw [HR.out, HNX.out, if_neg (by rw [hE]; simp), if_pos hJ]
      have HR2 := Lib.hid hR2
      have HE := Lib.hid hE
      have HJ := Lib.hid hJ
      rw [hB0] at hrest HE HJ
      clear hE hJ hR2 hB0 hBl
      subst hca
      rw [hFa] at hrest
      have HFA := Lib.hid hFa
      rw [Nat.sub_self] at hrest
      go_enter Try.func40, Try.ntmps40
      go_wp2_with fail
      go_quiet (fail)
      go_wp2_with fail
      have st1 := (Step.of_below (L := L) (below_alloc w (.cells #[.slice none 0 0, .slice none 0 0] 25)) (fun _ => False) c).drewN nq
      have hr1 := hrest.step st1 (by simp)
      refine (judge_calls (bs := []) hlm hlb hr1).mono ?_; rintro e w2 ⟨rfl, b2⟩
      rw [HE.out, HJ.out]
      have S2 := (st1.trans (Step.of_below b2 (fun _ => False) c)).mono (D := (· = c)) (fun _ x => x.elim)
      have h02 := (st1.trans (Step.of_below b2 (fun _ => False) c)).heap H0.out (by simp)
      obtain ⟨vr0, vr1, hres⟩ : ∃ v0 v1, w2.heap[w.heap.size]? = some (.cells #[v0, v1] 25 (0, 0)) := ⟨.slice none 0 0, .slice none 0 0, by
        rw [b2.block _ (by simp)]; exact heap_alloc_new w _⟩
      have c3' : w2.cell? ⟨xb, 3, none⟩ = some (.bool sh) := by rw [cell_of_heap h02]; rfl
      have r0 : w2.cell? ⟨w.heap.size, 0, none⟩ = some vr0 := by rw [cell_of_heap hres]; rfl
      have r1 : w2.cell? ⟨w.heap.size, 1, none⟩ = some vr1 := by rw [cell_of_heap hres]; rfl
      have f0 : w2.frozen? ⟨w.heap.size, 0, none⟩ = false := frozen_of_heap hres
      have f1 : w2.frozen? ⟨w.heap.size, 1, none⟩ = false := frozen_of_heap hres
      obtain ⟨g1, g2, y0, y1⟩ := fin_res S2 h02 hlt hres (.slice none 0 0) (.slice none 0 0)
      have G1 := Lib.hid g1
      have G2 := Lib.hid g2
      clear g1 g2 h02 hres S2 st1 hr1 hrest b2 c0 c1 c2 c3 c4 c5
      have hR2 := HR2.out
      cases sh with
      | true =>
        rw [if_pos rfl] at hR2
        subst hR2
        go_wp2_with fail
        refine bodyPost_ret (v := .tuple #[.agg #[.slice none 0 0, .slice none 0 0], .int .i64 4, .int .i64 73]) (by simp [results, Try.results40, go_sem, y0, y1]) rfl ⟨_, _, rfl, ⟨_, G1.out⟩, G2.out, Part.nil _ _, Part.nil _ _⟩
      | false =>
        rw [if_neg (by simp)] at hR2
        subst hR2
        go_wp2_with fail
        refine bodyPost_ret (v := .tuple #[.agg #[.slice none 0 0, .slice none 0 0], .int .i64 1, .int .i64 0]) (by simp [results, Try.results40, go_sem, y0, y1]) rfl ⟨_, _, rfl, ⟨_, G1.out⟩, G2.out, Part.nil _ _, Part.nil _ _⟩
    · rw [if_neg hca] at hrest
      obtain ⟨qb, hqb⟩ : ∃ q, q = pf.map (·.add at_) := ⟨_, rfl⟩
      rw [← hqb] at hrest
      go_enter Try.func40, Try.ntmps40
      go_wp2_with fail
      go_quiet (fail)
      go_wp2_with fail
      rw [← hqb]
      have HQB := Lib.hid hqb
      clear hqb
      have st1 := (Step.of_below (L := L) (below_alloc w (.cells #[.slice none 0 0, .slice none 0 0] 25)) (fun _ => False) (c + 1)).drewN nq
      have hr1 := hrest.step st1 (by simp)
      rw [hBl] at hr1
      clear hrest
      refine (judge_calls hlm hlb hr1).mono ?_; rintro e w2 ⟨rfl, b2⟩
      have S2 := st1.trans (Step.of_below b2 (fun _ => False) c)
      have hr2 := hr1.step (Step.of_below b2 (fun _ => False) c) (by simp)
      have h02 := S2.heap H0.out (by simp)
      have hL2 := (S2.col xb hlt).trans h1
      have hsz := S2.size
      obtain ⟨vr0, vr1, hres⟩ : ∃ v0 v1, w2.heap[w.heap.size]? = some (.cells #[v0, v1] 25 (0, 0)) := ⟨.slice none 0 0, .slice none 0 0, by
        rw [b2.block _ (by simp)]; exact heap_alloc_new w _⟩
      have hLn : ∀ q, (ext (ext L w.heap.size (c + 1)) ((w.alloc (.cells #[.slice none 0 0, .slice none 0 0] 25)).drewN nq).heap.size q) w.heap.size = c + 1 := fun q => (ext_old (by simp)).trans (ext_new (Nat.le_refl _))
      have hLn2 := hLn c
      clear st1 b2 hr1 hLn
      generalize ext (ext L w.heap.size (c + 1)) _ c = L2 at *
      have hLn3 : ¬ L2 w.heap.size = c := by omega
      clear hLn2
      have c3' : w2.cell? ⟨xb, 3, none⟩ = some (.bool sh) := by rw [cell_of_heap h02]; rfl
      have c4' : w2.cell? ⟨xb, 4, none⟩ = some (.int .i64 at_) := by rw [cell_of_heap h02]; rfl
      have d4' : w2.frozen? ⟨xb, 4, none⟩ = false := frozen_of_heap h02
      have r0 : w2.cell? ⟨w.heap.size, 0, none⟩ = some vr0 := by rw [cell_of_heap hres]; rfl
      have r1 : w2.cell? ⟨w.heap.size, 1, none⟩ = some vr1 := by rw [cell_of_heap hres]; rfl
      have f0 : w2.frozen? ⟨w.heap.size, 0, none⟩ = false := frozen_of_heap hres
      have f1 : w2.frozen? ⟨w.heap.size, 1, none⟩ = false := frozen_of_heap hres
      have fin0 : ∀ (u v : Value), Step (· = c) L w L2 ((w2.setCell ⟨w.heap.size, 0, none⟩ u).setCell ⟨w.heap.size, 1, none⟩ v) ∧ ((w2.setCell ⟨w.heap.size, 0, none⟩ u).setCell ⟨w.heap.size, 1, none⟩ v).heap[xb]? = some (.cells #[.int .i64 lm, .int .i64 lb, .slice pf F.length cf, .bool sh, .int .i64 at_, .bool false] 79 (0, 0)) ∧
          ((w2.setCell ⟨w.heap.size, 0, none⟩ u).setCell ⟨w.heap.size, 1, none⟩ v).cell? ⟨w.heap.size, 0, none⟩ = some u ∧ ((w2.setCell ⟨w.heap.size, 0, none⟩ u).setCell ⟨w.heap.size, 1, none⟩ v).cell? ⟨w.heap.size, 1, none⟩ = some v := fun u v => by
        have g := (S2.setNew (j := 0) (v := u) (Nat.le_refl _)).setNew (j := 1) (v := v) (Nat.le_refl _)
        have q := Mem.heap_setCell_same (o := 1) (Mem.heap_setCell_same (o := 0) hres u) v
        exact ⟨g.mono (fun _ x => x.elim), g.heap H0.out (by simp), by rw [cell_of_heap q]; rfl, by rw [cell_of_heap q]; rfl⟩
      have FIN0 := Lib.hid fin0
      have HRES := Lib.hid hres
      have H02 := Lib.hid h02
      clear fin0 hres h02 c0 c1 c2 c3 c4 c5
      obtain ⟨E0, hE0⟩ : ∃ x : Int, x = lookE B lm lb := ⟨_, rfl⟩
      obtain ⟨N0, hN0⟩ : ∃ x : Nat, x = judgeN B lm lb := ⟨_, rfl⟩
      rw [← hE0, ← hN0]
      rw [← hE0, ← hN0] at HNX
      have HE0 := Lib.hid hE0
      have HN0 := Lib.hid hN0
      clear hE0 hN0
      by_cases hE : E0 = 0
      · by_cases hN : N0 = 0
        · have hR2 : R = if sh = true then ⟨none, 4, 73, 0, false⟩ else ⟨none, 1, 0, 0, false⟩ := by rw [HR.out, HNX.out, if_neg (by rw [hE]; simp), if_pos hN]
          subst hE hN
          cases sh with
          | true =>
            rw [if_pos rfl] at hR2
            subst hR2
            obtain ⟨g1, g2, y0, y1⟩ := FIN0.out (.slice none 0 0) (.slice none 0 0)
            have G1 := Lib.hid g1
            have G2 := Lib.hid g2
            clear g1 g2
            go_wp2_with fail
            refine bodyPost_ret (v := .tuple #[.agg #[.slice none 0 0, .slice none 0 0], .int .i64 4, .int .i64 73]) (by simp [results, Try.results40, go_sem, y0, y1]) rfl ⟨_, _, rfl, ⟨_, G1.out⟩, G2.out, Part.nil _ _, Part.nil _ _⟩
          | false =>
            rw [if_neg (by simp)] at hR2
            subst hR2
            obtain ⟨g1, g2, y0, y1⟩ := FIN0.out (.slice none 0 0) (.slice none 0 0)
            have G1 := Lib.hid g1
            have G2 := Lib.hid g2
            clear g1 g2
            go_wp2_with fail
            refine bodyPost_ret (v := .tuple #[.agg #[.slice none 0 0, .slice none 0 0], .int .i64 1, .int .i64 0]) (by simp [results, Try.results40, go_sem, y0, y1]) rfl ⟨_, _, rfl, ⟨_, G1.out⟩, G2.out, Part.nil _ _, Part.nil _ _⟩
        · obtain ⟨j1, j2, j3, j4⟩ := judge_look (b := B) (by rw [← HE0.out]; exact hE) (by rw [← HN0.out]; exact hN)
          rw [← HN0.out] at j1 j2
          rw [if_neg (by rw [hE]; simp), if_neg hN] at HNX
          subst hE
          have z1 : ((N0 : Int) == 0) = false := by simpa using hN
          rw [← hBl] at hr2
          obtain ⟨b0, o0, hq, hLb, e3⟩ := hr2.at (show 3 < B.length by omega)
          subst hq
          obtain ⟨s3, f3⟩ := Step.store (j := 4) (v := .int .i64 ((at_ : Int) + (N0 : Int))) H02.out hL2
          have hN0B : N0 ≤ B.length := by rw [j2]; exact j3
          have e4 := s3.cell e3 (by show ¬ L2 b0 = c; rw [hLb]; exact hdc)
          have hr3 := hr2.step s3 hdc
          have q0 := s3.heap HRES.out (by
            exact hLn3)
          obtain ⟨x3, hx3⟩ : ∃ x : Nat, x = B[3].toNat := ⟨_, rfl⟩
          rw [← hx3] at e4
          have h48 : B[3]? = some 48 ↔ x3 = 48 := by rw [hx3, List.getElem?_eq_getElem (by omega : 3 < B.length), Option.some.injEq, ← UInt8.toNat_inj]; rfl
          have H48 := Lib.hid h48
          rw [← hBl]
          have HBL := Lib.hid hBl
          have hBle : B.length + at_ ≤ F.length := by omega
          have Q0 := Lib.hid q0
          clear e3 hx3 h48 hBl q0
          have HJ1 := Lib.hid j1
          have HJ2 := Lib.hid j2
          have HJ3 := Lib.hid j3
          have F3 := Lib.hid f3
          clear j1 j2 j3 f3 hN
          have c5' : w2.cell? ⟨xb, 5, none⟩ = some (.bool false) := by rw [cell_of_heap H02.out]; rfl
          have d5' : w2.frozen? ⟨xb, 5, none⟩ = false := frozen_of_heap H02.out
          have S3 := (S2.mono (D := (· = c)) (fun _ x => x.elim)).trans s3
          clear s3
          by_cases h3 : x3 = 48
          · rw [if_pos (H48.out.2 h3)] at HNX
            subst h3
            obtain ⟨s5, f5⟩ := Step.store (j := 5) (v := .bool true) F3.out hL2
            have f5' : ((w2.setCell ⟨xb, 4, none⟩ (.int .i64 ((at_ : Int) + (N0 : Int)))).setCell ⟨xb, 5, none⟩ (.bool true)).heap[xb]? = some (.cells #[.int .i64 lm, .int .i64 lb, .slice pf F.length cf, .bool sh, .int .i64 ((at_ + N0 : Nat) : Int), .bool true] 79 (0, 0)) := by
              rw [show ((at_ + N0 : Nat) : Int) = (at_ : Int) + (N0 : Int) from by omega]; exact f5
            have q1 := s5.heap Q0.out hLn3
            have S5 := S3.trans s5
            have F5 := Lib.hid f5'
            have Q1 := Lib.hid q1
            have hle5 : w.heap.size < ((w2.setCell ⟨xb, 4, none⟩ (.int .i64 ((at_ : Int) + (N0 : Int)))).setCell ⟨xb, 5, none⟩ (.bool true)).heap.size := lt_of_heap q1
            clear f5 f5' q1 s5
            go_wp2_with fail
            refine (rnext_last F5.out hn hm (by omega) hF).mono ?_; rintro e w6 ⟨rfl, b6⟩
            have S6 := S5.trans (Step.of_below b6 (· = c) c)
            have f6 : w6.heap[xb]? = _ := (b6.block xb (lt_of_heap F5.out)).trans F5.out
            have q6 : w6.heap[w.heap.size]? = _ := (b6.block _ hle5).trans Q1.out
            have r06 : w6.cell? ⟨w.heap.size, 0, none⟩ = some vr0 := by rw [cell_of_heap q6]; rfl
            have r16 : w6.cell? ⟨w.heap.size, 1, none⟩ = some vr1 := by rw [cell_of_heap q6]; rfl
            have f06 : w6.frozen? ⟨w.heap.size, 0, none⟩ = false := frozen_of_heap q6
            have f16 : w6.frozen? ⟨w.heap.size, 1, none⟩ = false := frozen_of_heap q6
            obtain ⟨g1, g2, y0, y1⟩ := fin_res S6 f6 hlt q6 (.slice none 0 0) (.slice none 0 0)
            have hdr : F.drop (at_ + N0) = B.drop N0 := by rw [HB.out, List.drop_drop]
            rw [hdr]
            have G1 := Lib.hid g1
            have G2 := Lib.hid g2
            clear g1 g2 f6 q6 hdr S6 S5 r0 r1 f0 f1 c4' d4' e4
            by_cases hd : B.drop N0 = []
            · rw [if_pos hd] at HNX ⊢
              rw [if_pos hd]
              have hR2 := HR.out.trans HNX.out
              subst hR2
              clear hd HNX
              go_wp2_with fail
              refine bodyPost_ret (v := .tuple #[.agg #[.slice none 0 0, .slice none 0 0], .int .i64 3, .int .i64 0]) (by simp [results, Try.results40, go_sem, y0, y1]) rfl ⟨_, _, rfl, ⟨_, G1.out⟩, G2.out, Part.nil _ _, Part.nil _ _⟩
            · rw [if_neg hd] at HNX ⊢
              rw [if_neg hd]
              have hR2 := HR.out.trans HNX.out
              subst hR2
              clear hd HNX
              go_wp2_with fail
              refine bodyPost_ret (v := .tuple #[.agg #[.slice none 0 0, .slice none 0 0], .int .i64 4, .int .i64 74]) (by simp [results, Try.results40, go_sem, y0, y1]) rfl ⟨_, _, rfl, ⟨_, G1.out⟩, G2.out, Part.nil _ _, Part.nil _ _⟩
          · have z3 : ((x3 : Int) == 48) = false := by simp; omega
            have hb1 := size_bounds B
            rw [if_neg (fun h => h3 (H48.out.1 h))] at HNX
            have hR2 := HR.out.trans HNX.out
            subst hR2
            have y4 : ¬ (cf - at_) = 4 := by omega
            have y8 : ¬ (cf - at_) = 8 := by omega
            have k4 : (4 : Int) ≤ ((cf - at_ : Nat) : Int) := by omega
            clear h3 HNX H48
            go_wp2_with fail
            refine (rnumber_calls (show 4 ≤ B.length - 4 by omega) (Rd.sub hr3 (a := 4) (m := B.length - 4) (by omega) (cf - at_ - 4) (by omega) (by unfold maxLen; omega))).mono ?_; rintro e w4 ⟨rfl, k4', rfl⟩
            rw [n4_seg (by omega)]
            obtain ⟨M, hM⟩ : ∃ x, x = n4 B 4 := ⟨_, rfl⟩
            obtain ⟨K, hK⟩ : ∃ x, x = n4 B 8 := ⟨_, rfl⟩
            obtain ⟨T, hT⟩ : ∃ x, x = fromV B := ⟨_, rfl⟩
            rw [← hM]
            rw [← hM, ← hK, ← hT] at hb1
            obtain ⟨U, hU⟩ : ∃ U, U = padU M := ⟨_, rfl⟩
            have hTU : T = 24 + U := by rw [hT, fromV, ← hM, hU]
            have hTK : T + K ≤ B.length := by have := HJ2.out; have := hb1.2; omega
            have HMM := Lib.hid hM
            have HKK := Lib.hid hK
            have HTT := Lib.hid hT
            have hMT : 24 + M ≤ T := hb1.1
            clear hM hK hT hb1
            go_wp2_with fail
            refine (up_calls (M : Int) (by omega) (by omega) _).mono ?_; rintro e w6 ⟨rfl, rfl⟩
            rw [pad_int, ← hU]
            have HU := Lib.hid hU
            have HTU := Lib.hid hTU
            obtain ⟨e1, he1⟩ : ∃ e, e = 24 + M := ⟨_, rfl⟩
            obtain ⟨e3, he3⟩ : ∃ e, e = T + K := ⟨_, rfl⟩
            have x0 : IntKind.i64.wrap (24 + (M : Int)) = (e1 : Int) := by rw [IntWalk.i64_in _ (by omega)]; omega
            have x9 : IntKind.i64.wrap ((T : Int) + (K : Int)) = (e3 : Int) := by rw [IntWalk.i64_in _ (by omega)]; omega
            have x10 : (24 : Int) + (U : Int) = (T : Int) := by omega
            have x1 : e1 ≤ cf - at_ := by omega
            have x2 : (24 : Int) ≤ (e1 : Int) := by omega
            have x3' : e3 ≤ cf - at_ := by omega
            have x4 : T ≤ e3 := by omega
            have x5 : e1 - 24 = M := by omega
            have x6 : e3 - T = K := by omega
            have x7 : 24 ≤ e1 := by omega
            have k8 : (8 : Int) ≤ ((cf - at_ : Nat) : Int) := by omega
            have k8' : 8 ≤ cf - at_ := by omega
            have k8b : (8 : Int) ≤ (B.length : Int) := by omega
            have HE1e := Lib.hid he1
            have HE3e := Lib.hid he3
            clear he1 he3 hU hTU
            go_wp2_with fail
            have f3' : (w2.setCell ⟨xb, 4, none⟩ (.int .i64 ((at_ : Int) + (N0 : Int)))).heap[xb]? = some (.cells #[.int .i64 lm, .int .i64 lb, .slice pf F.length cf, .bool sh, .int .i64 ((at_ + N0 : Nat) : Int), .bool false] 79 (0, 0)) := by
              rw [show ((at_ + N0 : Nat) : Int) = (at_ : Int) + (N0 : Int) from by omega]; exact F3.out
            have f7 : ((w2.setCell ⟨xb, 4, none⟩ (.int .i64 ((at_ : Int) + (N0 : Int)))).drewN k4').heap[xb]? = _ := f3'
            have q7 : ((w2.setCell ⟨xb, 4, none⟩ (.int .i64 ((at_ : Int) + (N0 : Int)))).drewN k4').heap[w.heap.size]? = some (.cells #[vr0, vr1] 25 (0, 0)) := Q0.out
            have S7 := S3.drewN k4'
            have hr7 := hr3.drewN k4'
            clear F3 f3' hr3 S3 Q0 e4 r0 r1 f0 f1 c4' d4' c5' d5' c3' H02 HRES FIN0 hr2 S2
            generalize (w2.setCell ⟨xb, 4, none⟩ (.int .i64 ((at_ : Int) + (N0 : Int)))).drewN k4' = w7 at *
            have F7 := Lib.hid f7
            have Q7 := Lib.hid q7
            clear f7 q7
            refine Late.region (fun w' => True) (fun j => decide (12 < j)) (by kernel_rfl) ?_
            refine Late.take (i := 0) (v := ?_) rfl (by kernel_rfl) (by kernel_rfl) (by kernel_rfl) (by kernel_rfl) (fun _ _ _ h => h) (Or.inl ⟨by kernel_rfl, ?_⟩) trivial ?_
            rotate_left
            · intro w' hS
              go_simp
              rfl
            refine Late.take (i := 1) (v := ?_) rfl (by kernel_rfl) (by kernel_rfl) (by kernel_rfl) (by kernel_rfl) (fun _ _ _ h => h) (Or.inl ⟨by kernel_rfl, ?_⟩) trivial ?_
            rotate_left
            · intro w' hS
              go_simp
              rfl
            refine Late.take (i := 2) (v := ?_) rfl (by kernel_rfl) (by kernel_rfl) (by kernel_rfl) (by kernel_rfl) (fun _ _ _ h => h) (Or.inl ⟨by kernel_rfl, ?_⟩) trivial ?_
            rotate_left
            · intro w' hS
              go_simp
              rfl
            refine Late.take (i := 3) (v := ?_) rfl (by kernel_rfl) (by kernel_rfl) (by kernel_rfl) (by kernel_rfl) (fun _ _ _ h => h) (Or.inl ⟨by kernel_rfl, ?_⟩) trivial ?_
            rotate_left
            · intro w' hS
              go_simp
              rfl
            refine Late.take (i := 4) (v := ?_) rfl (by kernel_rfl) (by kernel_rfl) (by kernel_rfl) (by kernel_rfl) (fun _ _ _ h => h) (Or.inl ⟨by kernel_rfl, ?_⟩) trivial ?_
            rotate_left
            · intro w' hS
              go_simp
              rfl
            refine Late.take (i := 5) (v := ?_) rfl (by kernel_rfl) (by kernel_rfl) (by kernel_rfl) (by kernel_rfl) (fun _ _ _ h => h) (Or.inl ⟨by kernel_rfl, ?_⟩) trivial ?_
            rotate_left
            · intro w' hS
              go_simp
              rfl
            refine Late.take (i := 6) (v := ?_) rfl (by kernel_rfl) (by kernel_rfl) (by kernel_rfl) (by kernel_rfl) (fun _ _ _ h => h) (Or.inl ⟨by kernel_rfl, ?_⟩) trivial ?_
            rotate_left
            · intro w' hS
              go_simp
              rfl
            refine Late.take (i := 7) (v := ?_) rfl (by kernel_rfl) (by kernel_rfl) (by kernel_rfl) (by kernel_rfl) (fun _ _ _ h => h) (Or.inl ⟨by kernel_rfl, ?_⟩) trivial ?_
            rotate_left
            · intro w' hS
              go_simp
              rfl
            refine Late.take (i := 8) (v := ?_) rfl (by kernel_rfl) (by kernel_rfl) (by kernel_rfl) (by kernel_rfl) (fun _ _ _ h => h) (Or.inl ⟨by kernel_rfl, ?_⟩) trivial ?_
            rotate_left
            · intro w' hS
              go_simp
              rfl
            refine Late.one (i := 9) (by kernel_rfl) rfl (fun Kc hKc => ?_)
            go_simp
            refine (rnumber_calls (show 4 ≤ B.length - 8 by omega) (Rd.sub (hr7.drewN 1) (a := 8) (m := B.length - 8) (by omega) (cf - at_ - 8) (by omega) (by unfold maxLen; omega))).mono ?_; rintro e w8 ⟨rfl, k8q, hw8⟩
            have S8 : Step (· = c) L w L2 w8 := by rw [hw8]; exact (S7.drewN 1).drewN k8q
            have f8 : w8.heap[xb]? = some (.cells #[.int .i64 lm, .int .i64 lb, .slice pf F.length cf, .bool sh, .int .i64 ((at_ + N0 : Nat) : Int), .bool false] 79 (0, 0)) := by rw [hw8]; exact F7.out
            have q8 : w8.heap[w.heap.size]? = some (.cells #[vr0, vr1] 25 (0, 0)) := by rw [hw8]; exact Q7.out
            clear hw8
            rw [n4_seg (by omega), ← HKK.out]
            refine hKc _ _ (fun _ => trivial) ?_
            clear hKc Kc
            refine Late.take (i := 10) (v := ?_) rfl (by kernel_rfl) (by kernel_rfl) (by kernel_rfl) (by kernel_rfl) (fun _ _ _ h => h) (Or.inl ⟨by kernel_rfl, ?_⟩) trivial ?_
            rotate_left
            · intro w' hS
              go_simp
              rfl
            refine Late.take (i := 11) (v := ?_) rfl (by kernel_rfl) (by kernel_rfl) (by kernel_rfl) (by kernel_rfl) (fun _ _ _ h => h) (Or.inl ⟨by kernel_rfl, ?_⟩) trivial ?_
            rotate_left
            · intro w' hS
              go_simp
              rfl
            refine Late.take (i := 12) (v := ?_) rfl (by kernel_rfl) (by kernel_rfl) (by kernel_rfl) (by kernel_rfl) (fun _ _ _ h => h) (Or.inl ⟨by kernel_rfl, ?_⟩) trivial ?_
            rotate_left
            · intro w' hS
              go_simp
              rfl
            have r08 : w8.cell? ⟨w.heap.size, 0, none⟩ = some vr0 := by rw [cell_of_heap q8]; rfl
            have r18 : w8.cell? ⟨w.heap.size, 1, none⟩ = some vr1 := by rw [cell_of_heap q8]; rfl
            have f08 : w8.frozen? ⟨w.heap.size, 0, none⟩ = false := frozen_of_heap q8
            have f18 : w8.frozen? ⟨w.heap.size, 1, none⟩ = false := frozen_of_heap q8
            obtain ⟨p1, hv1⟩ : ∃ p : Option Addr, p = (if cf - at_ = 24 then some ⟨b0, o0, none⟩ else some ⟨b0, o0 + 24, none⟩) := ⟨_, rfl⟩
            obtain ⟨p2, hv2⟩ : ∃ p : Option Addr, p = (if cf - at_ = T then some ⟨b0, o0, none⟩ else some ⟨b0, o0 + T, none⟩) := ⟨_, rfl⟩
            obtain ⟨g1, g2, y0, y1⟩ := fin_res S8 f8 hlt q8 (.slice p1 M (cf - at_ - 24)) (.slice p2 K (cf - at_ - T))
            have G1 := Lib.hid g1
            have G2 := Lib.hid g2
            rw [← hv1, ← hv2]
            have HV1 := Lib.hid hv1
            have HV2 := Lib.hid hv2
            clear hr7 S7 g1 g2 f8 q8 hv1 hv2 S8
            refine Late.one (i := 13) (by kernel_rfl) rfl (fun Kc hKc => ?_)
            go_simp
            refine hKc _ _ (fun _ => trivial) ?_
            clear hKc Kc
            refine Late.one (i := 14) (by kernel_rfl) rfl (fun Kc hKc => ?_)
            go_simp
            refine hKc _ _ (fun _ => trivial) ?_
            clear hKc Kc
            refine Late.one (i := 15) (by kernel_rfl) rfl (fun Kc hKc => ?_)
            go_simp
            refine hKc _ _ (fun _ => trivial) ?_
            clear hKc Kc
            refine Late.done (by kernel_rfl) ?_ _
            go_wp2_with fail
            have hFB : ∀ (a m : Nat) (q : Option Addr) (k : Nat), a + m ≤ B.length → m ≤ k → k ≤ maxLen → q = (if cf - at_ = a then some ⟨b0, o0, none⟩ else some ⟨b0, o0 + a, none⟩) → k = cf - at_ - a → Part pf F (.slice q m k) (seg B a m) := fun a m q k h1 h2 h3 h4 h5 => by
              have hl : (seg B a m).length = m := by unfold seg; rw [List.length_take, List.length_drop]; omega
              refine ⟨q, k, by rw [hl], by omega, h3, fun j u hj => ?_⟩
              have hjm : j < m := by rw [← hl]; exact (List.getElem?_eq_some_iff.1 hj).1
              obtain ⟨bz, hbz⟩ : ∃ bz, pf = some ⟨bz, 0, none⟩ := by
                cases hpf : pf with
                | none => have := HQB.out; rw [hpf] at this; cases this
                | some a => obtain ⟨bz, rfl⟩ := HFED.out.zero a hpf; exact ⟨bz, rfl⟩
              have hq := HQB.out
              rw [hbz] at hq
              simp only [Option.map_some, add_lit, Option.some.injEq, Addr.mk.injEq] at hq
              obtain ⟨rfl, rfl, _⟩ := hq
              refine ⟨b0, 0 + at_ + a, ?_, hbz, ?_⟩
              · rw [h4, if_neg (by omega)]
              · rw [← hj, HB.out]
                unfold seg
                rw [List.getElem?_take_of_lt hjm, List.getElem?_drop, List.getElem?_drop]
                congr 1; omega
            refine bodyPost_ret (v := .tuple #[.agg #[.slice p1 M (cf - at_ - 24), .slice p2 K (cf - at_ - T)], .int .i64 2, .int .i64 0]) (by simp [results, Try.results40, go_sem, y0, y1]) rfl ⟨_, _, rfl, ⟨_, G1.out⟩, G2.out, ?_, ?_⟩
            · have := hFB 24 M p1 (cf - at_ - 24) (by omega) (by omega) (by unfold maxLen; omega) HV1.out rfl
              rw [HMM.out] at this ⊢; exact this
            · have := hFB T K p2 (cf - at_ - T) (by omega) (by omega) (by unfold maxLen; omega) HV2.out rfl
              rw [HTT.out, HKK.out] at this ⊢; exact this
      · have hR2 : R = ⟨none, 4, E0, 0, false⟩ := by rw [HR.out, HNX.out, if_pos hE]
        have z1 : (E0 != 0) = true := by simpa using hE
        subst hR2
        obtain ⟨g1, g2, y0, y1⟩ := FIN0.out (.slice none 0 0) (.slice none 0 0)
        have G1 := Lib.hid g1
        have G2 := Lib.hid g2
        clear g1 g2
        go_wp2_with fail
        refine bodyPost_ret (v := .tuple #[.agg #[.slice none 0 0, .slice none 0 0], .int .i64 4, .int .i64 E0]) (by simp [results, Try.results40, go_sem, y0, y1]) rfl ⟨_, _, rfl, ⟨_, G1.out⟩, G2.out, Part.nil _ _, Part.nil _ _⟩

end Go.Proofs.Ytcebdodogbpglaa.Rdr
