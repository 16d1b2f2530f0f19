import Derived.Test.YtajaonnpekdklaaVwA
import Derived.Test.YtajaonnpekdklaaLate
import Derived.Test.YtajaonnpekdklaaMemB
import Derived.Deep.AppendLies
set_option linter.unusedVariables false
set_option maxRecDepth 100000
namespace Go.Proofs.Ytajaonnpekdklaa.Vw
open Go.ChangeShapes Go.WideShapes Go.ChangeAt Go.RowKit Mem

def rdCells (l : List (Int × Int)) : List Value := l.flatMap fun x => [.int .i64 x.1, .int .i64 x.2]
theorem rdCells_length (l : List (Int × Int)) : (rdCells l).length = l.length * 2 := by
  induction l with
  | nil => rfl
  | cons a l ih => simp [rdCells] at ih ⊢; omega
theorem rdCells_append (l : List (Int × Int)) (x : Int × Int) : rdCells (l ++ [x]) = rdCells l ++ [.int .i64 x.1, .int .i64 x.2] := by simp [rdCells]

/-- A watch: what it was told. -/
def WatchAt (L : Nat → Nat) (c : Nat) (w : World) (wb : Nat) (l : List (Int × Int)) : Prop :=
  ∃ v, w.heap[wb]? = some (.cells #[v] 88 (0, 0)) ∧ L wb = c ∧ Own L c w 62 2 v l.length (rdCells l) ∧ v.ownBlock ≠ some wb

theorem WatchAt.step {L L' : Nat → Nat} {w w' : World} {C : Nat → Prop} {c wb : Nat} {l : List (Int × Int)} (h : WatchAt L c w wb l) (st : Step C L w L' w') (hc : ¬ C c) : WatchAt L' c w' wb l := by
  obtain ⟨v, h1, h2, h3, h4⟩ := h
  exact ⟨v, st.heap h1 (by rw [h2]; exact hc), (st.col wb (lt_of_heap h1)).trans h2, h3.step st hc, h4⟩

/-- A read that no watch is told of. -/
theorem read_quiet {w : World} (q : Option Addr) (n cap : Nat) (p : Int) (u : Option Addr) (a m : Nat) (hn : n ≤ cap) (hc : cap ≤ 9223372036854775807) (hm : a + m ≤ n) (hu : u = none ∨ m = 0) :
    Calls Try.prog 51 #[.agg #[.slice q n cap, .int .i64 p, .pointer u], .int .i64 a, .int .i64 m] w fun e w' => e = .returned (.slice (cutAt q a m) m m) ∧ Below w.heap.size w w' := by
  have hb := below_alloc w (.cells #[.slice q n cap, .int .i64 p, .pointer u] 51)
  by_cases hm0 : m = 0
  · subst hm0
    have hcut : cutAt q a 0 = q := by simp [cutAt]
    rw [hcut]
    cases u with
    | none =>
      go_enter Try.func51, Try.ntmps51
      go_wp2_with fail
      go_ret
      exact ⟨rfl, hb⟩
    | some ua =>
      go_enter Try.func51, Try.ntmps51
      go_wp2_with fail
      go_ret
      exact ⟨rfl, hb⟩
  · obtain rfl : u = none := by rcases hu with h | h; exact h; exact absurd h hm0
    have hcut : cutAt q a m = q.map (·.add a) := by unfold cutAt; rw [if_neg (by omega)]
    have HC := Lib.hid hcut
    clear hcut
    go_enter Try.func51, Try.ntmps51
    go_wp2_with fail
    go_ret
    exact ⟨by rw [HC.out]; rfl, hb⟩

/-- A read that a watch is told of. -/
theorem read_told {L : Nat → Nat} {c : Nat} {w : World} {wb : Nat} {l : List (Int × Int)} (hW : WatchAt L c w wb l) (hl : l.length ≤ 1000000000000) (q : Option Addr) (n cap : Nat) (p : Int) (a m : Nat) (hn : n ≤ cap) (hc : cap ≤ 9223372036854775807) (hm : a + m ≤ n) (hm0 : 0 < m)
    (hp : 0 ≤ p) (hp2 : p + n ≤ 9223372036854775807) :
    Calls Try.prog 51 #[.agg #[.slice q n cap, .int .i64 p, .pointer (some ⟨wb, 0, none⟩)], .int .i64 a, .int .i64 m] w fun e w' => e = .returned (.slice (cutAt q a m) m m) ∧ ∃ L', Step (· = c) L w L' w' ∧ WatchAt L' c w' wb (l ++ [(p + a, p + a + m)]) := by
  have hcut : cutAt q a m = q.map (·.add a) := by unfold cutAt; rw [if_neg (by omega)]
  have HC := Lib.hid hcut
  clear hcut
  obtain ⟨v, k1, k2, k3, k4⟩ := hW
  obtain ⟨p0, cap0, rfl, _⟩ := ownsRow_shape k3.1
  obtain ⟨i0, hi, hz0, hz1, hz2⟩ := info_parts infoRead
  have hwl := lt_of_heap k1
  have c0 : w.cell? ⟨wb, 0, none⟩ = some (.slice p0 l.length cap0) := by rw [cell_of_heap k1]; rfl
  have c1 : w.frozen? ⟨wb, 0, none⟩ = false := frozen_of_heap k1
  obtain ⟨wB, hwB⟩ : ∃ wB, wB = w.alloc (Obj.cells #[.slice q n cap, .int .i64 p, .pointer (some ⟨wb, 0, none⟩)] 51) := ⟨_, rfl⟩
  have facts : wB.cell? ⟨w.heap.size, 0, none⟩ = some (.slice q n cap) ∧ wB.cell? ⟨w.heap.size, 1, none⟩ = some (.int .i64 p) ∧ wB.cell? ⟨w.heap.size, 2, none⟩ = some (.pointer (some ⟨wb, 0, none⟩)) ∧
      wB.cell? ⟨wb, 0, none⟩ = some (.slice p0 l.length cap0) ∧ wB.frozen? ⟨wb, 0, none⟩ = false ∧ wB.heap.size = w.heap.size + 1 := by
    rw [hwB]; simp
    exact ⟨by rw [World.cell?_alloc_lt _ _ _ hwl]; exact c0, by rw [World.frozen?_alloc_old _ _ _ (Nat.ne_of_lt hwl)]; exact c1⟩
  obtain ⟨d0, d1, d2, d3, d4, hsz⟩ := facts
  have HSZ := Lib.hid hsz
  have hownB : wB.ownsRow 0 62 2 (.slice p0 l.length cap0) l.length (rdCells l) := by rw [hwB]; exact k3.1.alloc _
  have hbB : Below w.heap.size w wB := by rw [hwB]; exact below_alloc w _
  have HB := Lib.hid hbB
  have HW := Lib.hid hwB
  have hne1 : some w.heap.size ≠ (Value.slice p0 l.length cap0).ownBlock := by
    intro e; have := (k3.1.lt _ e.symm).2; omega
  have hne2 : some wb ≠ (Value.slice p0 l.length cap0).ownBlock := fun e => k4 e.symm
  have hs1 : w.heap.size < wB.heap.size := by omega
  have hs2 : wb < wB.heap.size := by omega
  have fz : ∀ o, (wB.alloc o).frozen? ⟨wb, 0, none⟩ = false := fun o => by rw [World.frozen?_alloc_old _ _ _ (Nat.ne_of_lt hs2)]; exact d4
  have fc : ∀ o, (wB.alloc o).cell? ⟨wb, 0, none⟩ = some (.slice p0 l.length cap0) := fun o => by rw [World.cell?_alloc_lt _ _ _ hs2]; exact d3
  have fe0 : ∀ o, (wB.alloc o).cell? ⟨w.heap.size, 0, none⟩ = some (.slice q n cap) := fun o => by rw [World.cell?_alloc_lt _ _ _ hs1]; exact d0
  have fe2 : ∀ o, (wB.alloc o).cell? ⟨w.heap.size, 2, none⟩ = some (.pointer (some ⟨wb, 0, none⟩)) := fun o => by rw [World.cell?_alloc_lt _ _ _ hs1]; exact d2
  have fe1 : ∀ o, (wB.alloc o).cell? ⟨w.heap.size, 1, none⟩ = some (.int .i64 p) := fun o => by rw [World.cell?_alloc_lt _ _ _ hs1]; exact d1
  clear hbB hsz c0 c1 hwB
  go_enter Try.func51, Try.ntmps51
  go_wp2_with fail
  rw [← HW.out]
  go_wp2_with fail
  refine Late.region (fun w' => w'.cell? ⟨w.heap.size, 2, none⟩ = some (.pointer (some ⟨wb, 0, none⟩)) ∧ w'.cell? ⟨w.heap.size, 1, none⟩ = some (.int .i64 p) ∧ w'.cell? ⟨wb, 0, none⟩ = some (.slice p0 l.length cap0)) (fun j => decide (21 < j)) (by kernel_rfl) ?_
  refine Late.take (i := 0) (v := ?_) rfl (by kernel_rfl) (by kernel_rfl) (by kernel_rfl) (by kernel_rfl) (fun _ _ _ h => h) (Or.inl ⟨by rfl, ?_⟩) ⟨d2, d1, d3⟩ ?_
  rotate_left
  · intro w' hS
    obtain ⟨s1, s2, s3⟩ := hS
    go_simp
    rfl
  refine Late.take (i := 1) (v := ?_) rfl (by kernel_rfl) (by kernel_rfl) (by kernel_rfl) (by kernel_rfl) (fun _ _ _ h => h) (Or.inl ⟨by rfl, ?_⟩) ⟨d2, d1, d3⟩ ?_
  rotate_left
  · intro w' hS
    obtain ⟨s1, s2, s3⟩ := hS
    go_simp
    rfl
  refine Late.take (i := 2) (v := ?_) rfl (by kernel_rfl) (by kernel_rfl) (by kernel_rfl) (by kernel_rfl) (fun _ _ _ h => h) (Or.inl ⟨by rfl, ?_⟩) ⟨d2, d1, d3⟩ ?_
  rotate_left
  · intro w' hS
    obtain ⟨s1, s2, s3⟩ := hS
    go_simp
    rfl
  refine Late.take (i := 3) (v := ?_) rfl (by kernel_rfl) (by kernel_rfl) (by kernel_rfl) (by kernel_rfl) (fun _ _ _ h => h) (Or.inl ⟨by rfl, ?_⟩) ⟨d2, d1, d3⟩ ?_
  rotate_left
  · intro w' hS
    obtain ⟨s1, s2, s3⟩ := hS
    go_simp
    rfl
  refine Late.take (i := 4) (v := ?_) rfl (by kernel_rfl) (by kernel_rfl) (by kernel_rfl) (by kernel_rfl) (fun _ _ _ h => h) (Or.inl ⟨by rfl, ?_⟩) ⟨d2, d1, d3⟩ ?_
  rotate_left
  · intro w' hS
    obtain ⟨s1, s2, s3⟩ := hS
    go_simp
    rfl
  refine Late.take (i := 5) (v := ?_) rfl (by kernel_rfl) (by kernel_rfl) (by kernel_rfl) (by kernel_rfl) (fun _ _ _ h => h) (Or.inl ⟨by rfl, ?_⟩) ⟨d2, d1, d3⟩ ?_
  rotate_left
  · intro w' hS
    obtain ⟨s1, s2, s3⟩ := hS
    go_simp
    rfl
  refine Late.take (i := 6) (v := ?_) rfl (by kernel_rfl) (by kernel_rfl) (by kernel_rfl) (by kernel_rfl) (fun _ _ _ h => h) (Or.inl ⟨by rfl, ?_⟩) ⟨d2, d1, d3⟩ ?_
  rotate_left
  · intro w' hS
    obtain ⟨s1, s2, s3⟩ := hS
    go_simp
    rfl
  refine Late.take (i := 7) (v := ?_) rfl (by kernel_rfl) (by kernel_rfl) (by kernel_rfl) (by kernel_rfl) (fun _ _ _ h => h) (Or.inl ⟨by rfl, ?_⟩) ⟨d2, d1, d3⟩ ?_
  rotate_left
  · intro w' hS
    obtain ⟨s1, s2, s3⟩ := hS
    go_simp
    rfl
  refine Late.take (i := 8) (v := ?_) rfl (by kernel_rfl) (by kernel_rfl) (by kernel_rfl) (by kernel_rfl) (fun _ _ _ h => h) (Or.inl ⟨by rfl, ?_⟩) ⟨d2, d1, d3⟩ ?_
  rotate_left
  · intro w' hS
    obtain ⟨s1, s2, s3⟩ := hS
    go_simp
    rfl
  refine Late.take (i := 9) (v := ?_) rfl (by kernel_rfl) (by kernel_rfl) (by kernel_rfl) (by kernel_rfl) (fun _ _ _ h => h) (Or.inl ⟨by rfl, ?_⟩) ⟨d2, d1, d3⟩ ?_
  rotate_left
  · intro w' hS
    obtain ⟨s1, s2, s3⟩ := hS
    go_simp
    rfl
  refine Late.take (i := 10) (v := ?_) rfl (by kernel_rfl) (by kernel_rfl) (by kernel_rfl) (by kernel_rfl) (fun _ _ _ h => h) (Or.inl ⟨by rfl, ?_⟩) ⟨d2, d1, d3⟩ ?_
  rotate_left
  · intro w' hS
    obtain ⟨s1, s2, s3⟩ := hS
    go_simp
    rfl
  refine Late.take (i := 11) (v := ?_) rfl (by kernel_rfl) (by kernel_rfl) (by kernel_rfl) (by kernel_rfl) (fun _ _ _ h => h) (Or.inl ⟨by rfl, ?_⟩) ⟨d2, d1, d3⟩ ?_
  rotate_left
  · intro w' hS
    obtain ⟨s1, s2, s3⟩ := hS
    go_simp
    rfl
  refine Late.take (i := 12) (v := ?_) rfl (by kernel_rfl) (by kernel_rfl) (by kernel_rfl) (by kernel_rfl) (fun _ _ _ h => h) (Or.inl ⟨by rfl, ?_⟩) ⟨d2, d1, d3⟩ ?_
  rotate_left
  · intro w' hS
    obtain ⟨s1, s2, s3⟩ := hS
    go_simp
    rfl
  refine Late.take (i := 13) (v := ?_) rfl (by kernel_rfl) (by kernel_rfl) (by kernel_rfl) (by kernel_rfl) (fun _ _ _ h => h) (Or.inl ⟨by rfl, ?_⟩) ⟨d2, d1, d3⟩ ?_
  rotate_left
  · intro w' hS
    obtain ⟨s1, s2, s3⟩ := hS
    go_simp
    rfl
  refine Late.take (i := 14) (v := ?_) rfl (by kernel_rfl) (by kernel_rfl) (by kernel_rfl) (by kernel_rfl) (fun _ _ _ h => h) (Or.inl ⟨by rfl, ?_⟩) ⟨d2, d1, d3⟩ ?_
  rotate_left
  · intro w' hS
    obtain ⟨s1, s2, s3⟩ := hS
    go_simp
    rfl
  refine Late.take (i := 15) (v := ?_) rfl (by kernel_rfl) (by kernel_rfl) (by kernel_rfl) (by kernel_rfl) (fun _ _ _ h => h) (Or.inl ⟨by rfl, ?_⟩) ⟨d2, d1, d3⟩ ?_
  rotate_left
  · intro w' hS
    obtain ⟨s1, s2, s3⟩ := hS
    go_simp
    rfl
  refine Late.take (i := 16) (v := ?_) rfl (by kernel_rfl) (by kernel_rfl) (by kernel_rfl) (by kernel_rfl) (fun _ _ _ h => h) (Or.inl ⟨by rfl, ?_⟩) ⟨d2, d1, d3⟩ ?_
  rotate_left
  · intro w' hS
    obtain ⟨s1, s2, s3⟩ := hS
    go_simp
    rfl
  refine Late.take (i := 17) (v := ?_) rfl (by kernel_rfl) (by kernel_rfl) (by kernel_rfl) (by kernel_rfl) (fun _ _ _ h => h) (Or.inl ⟨by rfl, ?_⟩) ⟨d2, d1, d3⟩ ?_
  rotate_left
  · intro w' hS
    obtain ⟨s1, s2, s3⟩ := hS
    go_simp
    rfl
  refine Late.one (i := 18) (by kernel_rfl) rfl (fun K hK => ?_)
  go_simp
  refine hK _ _ (fun _ => ⟨fe2 _, fe1 _, fc _⟩) ?_
  clear hK K
  refine Late.one (i := 19) (by kernel_rfl) rfl (fun K hK => ?_)
  refine step_append_lies _ (by rfl) _ _ _ (by rfl) 0 62 i0 _ 2 16 Try.underlying57 hi hz0 hz1 hz2 rfl (by omega) (.slice p0 l.length cap0) l.length (rdCells l) (by rfl) ((hownB.alloc _).drew) ⟨wB.heap.size, 0, none⟩ 1 1 [.int .i64 (IntKind.i64.wrap (p + a)), .int .i64 (IntKind.i64.wrap (IntKind.i64.wrap (p + a) + m))] (by rfl) (by rfl) (World.news_of_block (cs := #[.int .i64 (IntKind.i64.wrap (p + a)), .int .i64 (IntKind.i64.wrap (IntKind.i64.wrap (p + a) + m))]) (t := 62) (fr := (0, 0)) (heap_alloc_new wB _)) (by simp [Value.oneCell']) (by omega) (by unfold maxLen; omega) (by omega) (by omega) (wB.heap.size + 1) (by simp) ?_
  intro gg cap1 w1 hown1 hgrow hat hlt
  have e4 : w1.frozen? ⟨wb, 0, none⟩ = false := (hgrow.frozen_far _ (by simp; omega) hne2).trans (fz _)
  have e3 : w1.cell? ⟨wb, 0, none⟩ = some (.slice p0 l.length cap0) := (hgrow.cell_far _ (by simp; omega) hne2).trans (fc _)
  have e2 : w1.cell? ⟨w.heap.size, 2, none⟩ = some (.pointer (some ⟨wb, 0, none⟩)) := (hgrow.cell_far _ (by simp; omega) hne1).trans (fe2 _)
  have e1 : w1.cell? ⟨w.heap.size, 1, none⟩ = some (.int .i64 p) := (hgrow.cell_far _ (by simp; omega) hne1).trans (fe1 _)
  have e0 : w1.cell? ⟨w.heap.size, 0, none⟩ = some (.slice q n cap) := (hgrow.cell_far _ (by simp; omega) hne1).trans (fe0 _)
  refine hK _ _ (fun _ => ⟨e2, e1, e3⟩) ?_
  clear hK K
  refine Late.one (i := 20) (by kernel_rfl) rfl (fun K hK => ?_)
  go_simp
  refine hK _ _ (fun _ => ⟨e2, e1, e3⟩) ?_
  clear hK K
  refine Late.one (i := 21) (by kernel_rfl) rfl (fun K hK => ?_)
  go_simp
  refine hK _ _ (fun _ => ⟨e2, e1, e3⟩) ?_
  clear hK K
  refine Late.one (i := 22) (by kernel_rfl) rfl (fun K hK => ?_)
  go_simp
  refine hK _ _ (fun h => by cases h) ?_
  clear hK K
  refine Late.done (by kernel_rfl) ?_ _
  go_wp2_with fail
  go_ret
  have x1 : IntKind.i64.wrap (p + a) = p + a := IntWalk.i64_in _ (by constructor <;> omega)
  have x2 : IntKind.i64.wrap (p + a + m) = p + a + m := IntWalk.i64_in _ (by omega)
  rw [x1, x2] at hown1 hgrow
  have hown2 : w1.ownsRow 0 62 2 (.slice (some ⟨gg, 0, none⟩) (l.length + 1) cap1) (l ++ [(p + a, p + a + m)]).length (rdCells (l ++ [(p + a, p + a + m)])) := by
    rw [rdCells_append, List.length_append]; exact hown1
  have hb1 : Below w.heap.size w (wB.alloc (Obj.cells #[.int .i64 (p + a), .int .i64 (p + a + m)] 62)).drew := (HB.out.alloc (by omega) _).drew
  obtain ⟨L'', st, o1, o2, o3, o4, _⟩ := obj_grown (j := 0) (Step.refl _ L w) k1 k2 k3 (fun e => hne2 e.symm) hb1 hown2 hgrow (by
    intro g hg
    have hg' : gg = g := by simpa [Value.ownBlock] using hg
    rw [← hg']
    rcases hat with h | h
    · exact .inl h
    · right; have g1 := HSZ.out; show w.heap.size ≤ gg; omega)
  refine ⟨?_, L'', st, _, o1, o2, o3, o4⟩
  rw [HC.out]
  show Ending.returned (Value.slice (q.map fun x => x.add a) (a + m - a) (a + m - a)) = _
  rw [Nat.add_sub_cancel_left]

end Go.Proofs.Ytajaonnpekdklaa.Vw
