import Derived.Test.YtajaonnpekdklaaVwC
set_option linter.unusedVariables false
set_option maxRecDepth 100000
namespace Go.Proofs.Ytajaonnpekdklaa.Vw
open Go.ChangeShapes Go.WideShapes Go.ChangeAt Go.RowKit Mem

theorem rdCells_oneCell (l : List (Int × Int)) : ∀ u ∈ rdCells l, u.oneCell' = true := by
  intro u hu
  simp [rdCells] at hu
  obtain ⟨a, b, _, h⟩ := hu
  rcases h with rfl | rfl <;> rfl

theorem cloneR_calls (L : Nat → Nat) (c d : Nat) (w : World) (v : Value) (l : List (Int × Int)) (hv : Rd L d w 2 v l.length (rdCells l)) (hbig : l.length ≤ 1000000000000) :
    Calls Try.prog 49 #[v] w (Ink.SomeVal fun v' w' => Step (fun _ => False) L w (ext L w.heap.size c) w' ∧ Own (ext L w.heap.size c) c w' 62 2 v' l.length (rdCells l)) := by
  have hst : Step (fun _ => False) L w (ext L w.heap.size c) (w.alloc (.cells #[] 62)) := Step.of_below (below_alloc w _) _ c
  have hsrc := Rd.src (P := Try.prog) (hv.step hst (by simp)) (tx := 57) Try.underlying57 (rdCells_oneCell l)
  have hrow : (w.alloc (.cells #[] 62)).ownsRow 0 62 2 (.slice (some ⟨w.heap.size, 0, none⟩) 0 0) 0 [] := World.ownsRow_made w #[] 0 (Nat.zero_le _) (Nat.zero_le _) rfl
  obtain ⟨hl, p, cap, rfl, hn, hm, hcells⟩ := hv
  cases p with
  | none =>
    have hb0 : l = [] := by
      cases l with
      | nil => rfl
      | cons b r => obtain ⟨_, _, e, _⟩ := hcells 0 (.int .i64 b.1) (by simp [rdCells]); cases e
    subst hb0
    have hnil := Lib.run_eql_slice_nil (P := Try.prog) w 57 62 none 0 cap 0 0 Try.underlying57
    have hM : Step (fun _ => False) L w (ext L w.heap.size c) w := (Step.refl _ _ _).toExt c
    clear hcells hsrc
    go_enter Try.func49, Try.ntmps49
    go_wp2_with fail
    go_ret
    exact ⟨_, rfl, hM, Own.nil _ _ _ _ _⟩
  | some a =>
    have hnil := Lib.run_eql_slice_nil (P := Try.prog) w 57 62 (some a) l.length cap 0 0 Try.underlying57
    clear hcells
    go_enter Try.func49, Try.ntmps49
    go_wp2_with (at_builtin; refine wpList_append rfl (.tmp 5) (.tmp 6) 57 57 rfl 62 Try.underlying57 infoRead rfl (by decide) _ 0 [] rfl hrow _ l.length (rdCells l) rfl hsrc (by unfold maxLen; omega) (by omega) ?_)
    intro v2 w2 hown2 hg2 hblk _
    go_wp2_with fail
    go_ret
    have hcol : ∀ g, v2.ownBlock = some g → ext L w.heap.size c g = c := by
      intro g hg
      rcases hblk with h | h <;> rw [h] at hg
      · cases hg; exact ext_new (Nat.le_refl _)
      · cases hg; exact ext_new (by simp)
    refine ⟨v2, rfl, Step.of_below ((below_alloc w _).grown hg2 (by simp) (by intro k hk; cases hk; exact Nat.le_refl _)) _ c, by simpa using hown2, hcol⟩

theorem reads_calls (L : Nat → Nat) (c c' : Nat) (w : World) {wb : Nat} {l : List (Int × Int)} (hI : WatchAt L c w wb l) (hbig : l.length ≤ 1000000000000) :
    Calls Try.prog 30 #[.pointer (some ⟨wb, 0, none⟩)] w (Ink.SomeVal fun v' w' => Step (fun _ => False) L w (ext L w.heap.size c') w' ∧ Own (ext L w.heap.size c') c' w' 62 2 v' l.length (rdCells l)) := by
  obtain ⟨v, k1, k2, k3, k4⟩ := hI
  obtain ⟨p, cap, hv, _⟩ := ownsRow_shape k3.1
  subst hv
  have c0 : w.cell? ⟨wb, 0, none⟩ = some (.slice p l.length cap) := by rw [cell_of_heap k1]; rfl
  go_enter Try.func30, Try.ntmps30
  go_wp2_with fail
  refine (cloneR_calls L c' c w _ l k3.rd hbig).mono ?_; rintro e w1 ⟨v', rfl, h1, h2⟩
  go_wp2_with fail
  go_ret
  exact ⟨v', rfl, h1, h2⟩

theorem newwatch_calls (L : Nat → Nat) (c : Nat) (w : World) :
    Calls Try.prog 25 #[] w fun e w' => e = .returned (.pointer (some ⟨w.heap.size, 0, none⟩)) ∧ Step (fun _ => False) L w (ext L w.heap.size c) w' ∧ WatchAt (ext L w.heap.size c) c w' w.heap.size [] := by
  have h1 : (w.alloc (.cells #[.slice none 0 0] 88)).heap[w.heap.size]? = some (.cells #[.slice none 0 0] 88 (0, 0)) := by unfold World.alloc; simp only [Array.getElem?_push_size]
  have hM : WatchAt (ext L w.heap.size c) c (w.alloc (.cells #[.slice none 0 0] 88)) w.heap.size [] := ⟨.slice none 0 0, h1, ext_new (Nat.le_refl _), Own.nil _ _ _ _ _, by simp [Value.ownBlock]⟩
  have hS : Step (fun _ => False) L w (ext L w.heap.size c) (w.alloc (.cells #[.slice none 0 0] 88)) := Step.of_below (below_alloc w _) _ c
  clear h1
  go_enter Try.func25, Try.ntmps25
  go_wp2_with fail
  go_ret
  exact ⟨rfl, hS, hM⟩

end Go.Proofs.Ytajaonnpekdklaa.Vw
