import Derived.Test.YtajaonnpekdklaaVrD
import Derived.Test.YtajaonnpekdklaaLateC
set_option linter.unusedVariables false
set_option maxRecDepth 100000
/-! room.reads (printed by wip/tools/vre.py). -/
namespace Go.Proofs.Ytajaonnpekdklaa.Vr
open Go.ChangeShapes Go.WideShapes Go.ChangeAt Go.RowKit Mem Vw

def enVal (e : En) : Value := .agg #[e.v, .int .i64 (e.a : Int), wat e.p, e.r, .int .i64 (e.a : Int), .int .i64 (e.who : Int)]

def Rm.u (s : Rm) (who : Nat) : List (Int × Int) := if who = 1 then s.u1 else if who = 2 then s.u2 else []
def Rm.t (s : Rm) (who : Nat) : List (Int × Int) := if who = 1 then s.t1 else if who = 2 then s.t2 else []
def Rm.setT (s : Rm) (who : Nat) (v : Value) (l : List (Int × Int)) : Rm := if who = 1 then { s with t1v := v, t1 := l } else if who = 2 then { s with t2v := v, t2 := l } else s
def Rm.setU (s : Rm) (who : Nat) (l : List (Int × Int)) : Rm := if who = 1 then { s with u1 := l } else if who = 2 then { s with u2 := l } else s

theorem reads_quiet {w0 : World} {mb : Nat} {L : Nat → Nat} {w : World} {s : Rm} (h : Room w0 mb L w s) (v r : Value) (a : Int) (who : Nat) (p : Option Nat) (fr n : Nat) (hq : who = 0 ∨ n = 0) :
    Calls Try.prog 55 #[.pointer (some ⟨mb, 0, none⟩), .agg #[v, .int .i64 a, wat p, r, .int .i64 a, .int .i64 (who : Int)], .int .i64 (fr : Int), .int .i64 (n : Int)] w fun e w' => e = .returned (.tuple #[]) ∧ Below w.heap.size w w' := by
  have hb : Below w.heap.size w (w.alloc (Obj.cells #[v, .int .i64 a, wat p, r, .int .i64 a, .int .i64 (who : Int)] 108)) := below_alloc w _
  rcases hq with rfl | rfl
  · go_enter Try.func55, Try.ntmps55
    go_wp2_with fail
    exact bodyPost_end (v := .tuple #[]) (by simp [results, Try.results55, go_sem]) rfl ⟨rfl, hb⟩
  · by_cases hw : (who : Int) > 0
    · go_enter Try.func55, Try.ntmps55
      go_wp2_with fail
      exact bodyPost_end (v := .tuple #[]) (by simp [results, Try.results55, go_sem]) rfl ⟨rfl, hb⟩
    · go_enter Try.func55, Try.ntmps55
      go_wp2_with fail
      exact bodyPost_end (v := .tuple #[]) (by simp [results, Try.results55, go_sem]) rfl ⟨rfl, hb⟩

theorem tell_pos {l : List (Int × Int)} {p : Int} {a m : Nat} (h : 0 < m) : tell l p a m = l ++ [(p + a, p + a + m)] := if_pos h
theorem tell_zero {l : List (Int × Int)} {p : Int} {a : Nat} : tell l p a 0 = l := if_neg (by decide)

theorem reads_told1 {w0 : World} {mb : Nat} {L : Nat → Nat} {w : World} {s : Rm} (h : Room w0 mb L w s) (hl : s.t1.length ≤ 1000000000000) (v r : Value) (a : Int) (p : Option Nat) (fr n : Nat) (hn0 : 0 < n)
    (ha : 0 ≤ a) (ha2 : a + fr + n ≤ 9223372036854775807) :
    Calls Try.prog 55 #[.pointer (some ⟨mb, 0, none⟩), .agg #[v, .int .i64 a, wat p, r, .int .i64 a, .int .i64 1], .int .i64 (fr : Int), .int .i64 (n : Int)] w fun e w' => e = .returned (.tuple #[]) ∧ ∃ L' v', Step Rc L w L' w' ∧ Room w0 mb L' w' { s with t1v := v', t1 := s.t1 ++ [(a + fr, a + fr + n)] } := by
  obtain ⟨p0, cap0, hv0, _⟩ := ownsRow_shape h.told1.1
  obtain ⟨i0, hi, hz0, hz1, hz2⟩ := info_parts infoRead
  have hml := lt_of_heap h.obj
  have c0 : w.cell? ⟨mb, 7, none⟩ = some (.slice p0 s.t1.length cap0) := by rw [cell_of_heap h.obj, ← hv0]; rfl
  have c1 : w.frozen? ⟨mb, 7, none⟩ = false := frozen_of_heap h.obj
  obtain ⟨wB, hwB⟩ : ∃ wB, wB = w.alloc (Obj.cells #[v, .int .i64 a, wat p, r, .int .i64 a, .int .i64 1] 108) := ⟨_, rfl⟩
  have facts : wB.cell? ⟨w.heap.size, 5, none⟩ = some (.int .i64 1) ∧ wB.cell? ⟨w.heap.size, 4, none⟩ = some (.int .i64 a) ∧ wB.cell? ⟨mb, 7, none⟩ = some (.slice p0 s.t1.length cap0) ∧ wB.frozen? ⟨mb, 7, none⟩ = false ∧ wB.heap.size = w.heap.size + 1 := by
    rw [hwB]; simp
    exact ⟨by rw [World.cell?_alloc_lt _ _ _ hml]; exact c0, by rw [World.frozen?_alloc_old _ _ _ (Nat.ne_of_lt hml)]; exact c1⟩
  obtain ⟨d5, d4, dt, df, hsz⟩ := facts
  have HSZ := Lib.hid hsz
  have hownB : wB.ownsRow 0 62 2 (.slice p0 s.t1.length cap0) s.t1.length (rdCells s.t1) := by rw [hwB, ← hv0]; exact h.told1.1.alloc _
  have hbB : Below w.heap.size w wB := by rw [hwB]; exact below_alloc w _
  have HB := Lib.hid hbB
  have HW := Lib.hid hwB
  have HV := Lib.hid hv0
  have hne1 : some w.heap.size ≠ (Value.slice p0 s.t1.length cap0).ownBlock := by
    intro e; have := (h.told1.1.lt _ (by rw [hv0]; exact e.symm)).2; omega
  have hne2 : some mb ≠ (Value.slice p0 s.t1.length cap0).ownBlock := by
    intro e; have := h.told1.2 mb (by rw [hv0]; exact e.symm); rw [h.objc] at this; cases this
  have hs1 : w.heap.size < wB.heap.size := by omega
  have hs2 : mb < wB.heap.size := by omega
  have fz : ∀ o, (wB.alloc o).frozen? ⟨mb, 7, none⟩ = false := fun o => by rw [World.frozen?_alloc_old _ _ _ (Nat.ne_of_lt hs2)]; exact df
  have fc : ∀ o, (wB.alloc o).cell? ⟨mb, 7, none⟩ = some (.slice p0 s.t1.length cap0) := fun o => by rw [World.cell?_alloc_lt _ _ _ hs2]; exact dt
  have fe5 : ∀ o, (wB.alloc o).cell? ⟨w.heap.size, 5, none⟩ = some (.int .i64 1) := fun o => by rw [World.cell?_alloc_lt _ _ _ hs1]; exact d5
  have fe4 : ∀ o, (wB.alloc o).cell? ⟨w.heap.size, 4, none⟩ = some (.int .i64 a) := fun o => by rw [World.cell?_alloc_lt _ _ _ hs1]; exact d4
  clear hbB hsz c0 c1 hwB hv0
  have hR := Lib.hid h
  clear h
  go_enter Try.func55, Try.ntmps55
  go_wp2_with fail
  rw [← HW.out]
  go_wp2_with fail
  refine Late.region (fun w' => w'.cell? ⟨w.heap.size, 5, none⟩ = some (.int .i64 1) ∧ w'.cell? ⟨w.heap.size, 4, none⟩ = some (.int .i64 a) ∧ w'.cell? ⟨mb, 7, none⟩ = some (.slice p0 s.t1.length cap0)) (fun j => decide (27 < j)) (by kernel_rfl) ?_
  refine Late.takeC (i := 0) (v := ?_) rfl (by kernel_rfl) (by kernel_rfl) (by kernel_rfl) (by kernel_rfl) (fun _ _ _ h => h) (Or.inl ⟨by rfl, ?_⟩) ⟨d5, d4, dt⟩ ?_
  rotate_left
  · intro w' hS
    obtain ⟨s1, s2, s3⟩ := hS
    go_simp
    rfl
  refine Late.takeC (i := 1) (v := ?_) rfl (by kernel_rfl) (by kernel_rfl) (by kernel_rfl) (by kernel_rfl) (fun _ _ _ h => h) (Or.inl ⟨by rfl, ?_⟩) ⟨d5, d4, dt⟩ ?_
  rotate_left
  · intro w' hS
    obtain ⟨s1, s2, s3⟩ := hS
    go_simp
    rfl
  refine Late.takeC (i := 2) (v := ?_) rfl (by kernel_rfl) (by kernel_rfl) (by kernel_rfl) (by kernel_rfl) (fun _ _ _ h => h) (Or.inl ⟨by rfl, ?_⟩) ⟨d5, d4, dt⟩ ?_
  rotate_left
  · intro w' hS
    obtain ⟨s1, s2, s3⟩ := hS
    go_simp
    rfl
  refine Late.takeC (i := 3) (v := ?_) rfl (by kernel_rfl) (by kernel_rfl) (by kernel_rfl) (by kernel_rfl) (fun _ _ _ h => h) (Or.inl ⟨by rfl, ?_⟩) ⟨d5, d4, dt⟩ ?_
  rotate_left
  · intro w' hS
    obtain ⟨s1, s2, s3⟩ := hS
    go_simp
    rfl
  refine Late.takeC (i := 4) (v := ?_) rfl (by kernel_rfl) (by kernel_rfl) (by kernel_rfl) (by kernel_rfl) (fun _ _ _ h => h) (Or.inl ⟨by rfl, ?_⟩) ⟨d5, d4, dt⟩ ?_
  rotate_left
  · intro w' hS
    obtain ⟨s1, s2, s3⟩ := hS
    go_simp
    rfl
  refine Late.takeC (i := 5) (v := ?_) rfl (by kernel_rfl) (by kernel_rfl) (by kernel_rfl) (by kernel_rfl) (fun _ _ _ h => h) (Or.inl ⟨by rfl, ?_⟩) ⟨d5, d4, dt⟩ ?_
  rotate_left
  · intro w' hS
    obtain ⟨s1, s2, s3⟩ := hS
    go_simp
    rfl
  refine Late.takeC (i := 6) (v := ?_) rfl (by kernel_rfl) (by kernel_rfl) (by kernel_rfl) (by kernel_rfl) (fun _ _ _ h => h) (Or.inl ⟨by rfl, ?_⟩) ⟨d5, d4, dt⟩ ?_
  rotate_left
  · intro w' hS
    obtain ⟨s1, s2, s3⟩ := hS
    go_simp
    rfl
  refine Late.takeC (i := 7) (v := ?_) rfl (by kernel_rfl) (by kernel_rfl) (by kernel_rfl) (by kernel_rfl) (fun _ _ _ h => h) (Or.inl ⟨by rfl, ?_⟩) ⟨d5, d4, dt⟩ ?_
  rotate_left
  · intro w' hS
    obtain ⟨s1, s2, s3⟩ := hS
    go_simp
    rfl
  refine Late.takeC (i := 8) (v := ?_) rfl (by kernel_rfl) (by kernel_rfl) (by kernel_rfl) (by kernel_rfl) (fun _ _ _ h => h) (Or.inl ⟨by rfl, ?_⟩) ⟨d5, d4, dt⟩ ?_
  rotate_left
  · intro w' hS
    obtain ⟨s1, s2, s3⟩ := hS
    go_simp
    rfl
  refine Late.takeC (i := 9) (v := ?_) rfl (by kernel_rfl) (by kernel_rfl) (by kernel_rfl) (by kernel_rfl) (fun _ _ _ h => h) (Or.inl ⟨by rfl, ?_⟩) ⟨d5, d4, dt⟩ ?_
  rotate_left
  · intro w' hS
    obtain ⟨s1, s2, s3⟩ := hS
    go_simp
    rfl
  refine Late.takeC (i := 10) (v := ?_) rfl (by kernel_rfl) (by kernel_rfl) (by kernel_rfl) (by kernel_rfl) (fun _ _ _ h => h) (Or.inl ⟨by rfl, ?_⟩) ⟨d5, d4, dt⟩ ?_
  rotate_left
  · intro w' hS
    obtain ⟨s1, s2, s3⟩ := hS
    go_simp
    rfl
  refine Late.takeC (i := 11) (v := ?_) rfl (by kernel_rfl) (by kernel_rfl) (by kernel_rfl) (by kernel_rfl) (fun _ _ _ h => h) (Or.inl ⟨by rfl, ?_⟩) ⟨d5, d4, dt⟩ ?_
  rotate_left
  · intro w' hS
    obtain ⟨s1, s2, s3⟩ := hS
    go_simp
    rfl
  refine Late.takeC (i := 12) (v := ?_) rfl (by kernel_rfl) (by kernel_rfl) (by kernel_rfl) (by kernel_rfl) (fun _ _ _ h => h) (Or.inl ⟨by rfl, ?_⟩) ⟨d5, d4, dt⟩ ?_
  rotate_left
  · intro w' hS
    obtain ⟨s1, s2, s3⟩ := hS
    go_simp
    rfl
  refine Late.takeC (i := 13) (v := ?_) rfl (by kernel_rfl) (by kernel_rfl) (by kernel_rfl) (by kernel_rfl) (fun _ _ _ h => h) (Or.inl ⟨by rfl, ?_⟩) ⟨d5, d4, dt⟩ ?_
  rotate_left
  · intro w' hS
    obtain ⟨s1, s2, s3⟩ := hS
    go_simp
    rfl
  refine Late.takeC (i := 14) (v := ?_) rfl (by kernel_rfl) (by kernel_rfl) (by kernel_rfl) (by kernel_rfl) (fun _ _ _ h => h) (Or.inl ⟨by rfl, ?_⟩) ⟨d5, d4, dt⟩ ?_
  rotate_left
  · intro w' hS
    obtain ⟨s1, s2, s3⟩ := hS
    go_simp
    rfl
  refine Late.takeC (i := 15) (v := ?_) rfl (by kernel_rfl) (by kernel_rfl) (by kernel_rfl) (by kernel_rfl) (fun _ _ _ h => h) (Or.inl ⟨by rfl, ?_⟩) ⟨d5, d4, dt⟩ ?_
  rotate_left
  · intro w' hS
    obtain ⟨s1, s2, s3⟩ := hS
    go_simp
    rfl
  refine Late.takeC (i := 16) (v := ?_) rfl (by kernel_rfl) (by kernel_rfl) (by kernel_rfl) (by kernel_rfl) (fun _ _ _ h => h) (Or.inl ⟨by rfl, ?_⟩) ⟨d5, d4, dt⟩ ?_
  rotate_left
  · intro w' hS
    obtain ⟨s1, s2, s3⟩ := hS
    go_simp
    rfl
  refine Late.takeC (i := 17) (v := ?_) rfl (by kernel_rfl) (by kernel_rfl) (by kernel_rfl) (by kernel_rfl) (fun _ _ _ h => h) (Or.inl ⟨by rfl, ?_⟩) ⟨d5, d4, dt⟩ ?_
  rotate_left
  · intro w' hS
    obtain ⟨s1, s2, s3⟩ := hS
    go_simp
    rfl
  refine Late.takeC (i := 18) (v := ?_) rfl (by kernel_rfl) (by kernel_rfl) (by kernel_rfl) (by kernel_rfl) (fun _ _ _ h => h) (Or.inl ⟨by rfl, ?_⟩) ⟨d5, d4, dt⟩ ?_
  rotate_left
  · intro w' hS
    obtain ⟨s1, s2, s3⟩ := hS
    go_simp
    rfl
  refine Late.takeC (i := 19) (v := ?_) rfl (by kernel_rfl) (by kernel_rfl) (by kernel_rfl) (by kernel_rfl) (fun _ _ _ h => h) (Or.inl ⟨by rfl, ?_⟩) ⟨d5, d4, dt⟩ ?_
  rotate_left
  · intro w' hS
    obtain ⟨s1, s2, s3⟩ := hS
    go_simp
    rfl
  refine Late.takeC (i := 20) (v := ?_) rfl (by kernel_rfl) (by kernel_rfl) (by kernel_rfl) (by kernel_rfl) (fun _ _ _ h => h) (Or.inl ⟨by rfl, ?_⟩) ⟨d5, d4, dt⟩ ?_
  rotate_left
  · intro w' hS
    obtain ⟨s1, s2, s3⟩ := hS
    go_simp
    rfl
  refine Late.takeC (i := 21) (v := ?_) rfl (by kernel_rfl) (by kernel_rfl) (by kernel_rfl) (by kernel_rfl) (fun _ _ _ h => h) (Or.inl ⟨by rfl, ?_⟩) ⟨d5, d4, dt⟩ ?_
  rotate_left
  · intro w' hS
    obtain ⟨s1, s2, s3⟩ := hS
    go_simp
    rfl
  refine Late.takeC (i := 22) (v := ?_) rfl (by kernel_rfl) (by kernel_rfl) (by kernel_rfl) (by kernel_rfl) (fun _ _ _ h => h) (Or.inl ⟨by rfl, ?_⟩) ⟨d5, d4, dt⟩ ?_
  rotate_left
  · intro w' hS
    obtain ⟨s1, s2, s3⟩ := hS
    go_simp
    rfl
  refine Late.takeC (i := 25) (v := ?_) rfl (by kernel_rfl) (by kernel_rfl) (by kernel_rfl) (by kernel_rfl) (fun _ _ _ h => h) (Or.inl ⟨by rfl, ?_⟩) ⟨d5, d4, dt⟩ ?_
  rotate_left
  · intro w' hS
    obtain ⟨s1, s2, s3⟩ := hS
    go_simp
    rfl
  refine Late.takeC (i := 26) (v := ?_) rfl (by kernel_rfl) (by kernel_rfl) (by kernel_rfl) (by kernel_rfl) (fun _ _ _ h => h) (Or.inl ⟨by rfl, ?_⟩) ⟨d5, d4, dt⟩ ?_
  rotate_left
  · intro w' hS
    obtain ⟨s1, s2, s3⟩ := hS
    go_simp
    rfl
  refine Late.one (i := 23) (by kernel_rfl) rfl (fun K hK => ?_)
  go_simp
  refine hK _ _ (fun _ => ⟨fe5 _, fe4 _, fc _⟩) ?_
  clear hK K
  refine Late.one (i := 24) (by kernel_rfl) rfl (fun K hK => ?_)
  refine step_append_lies _ (by rfl) _ _ _ (by rfl) 0 62 i0 _ 2 16 Try.underlying57 hi hz0 hz1 hz2 rfl (by omega) (.slice p0 s.t1.length cap0) s.t1.length (rdCells s.t1) (by rfl) ((hownB.alloc _).drew) ⟨wB.heap.size, 0, none⟩ 1 1 [.int .i64 (IntKind.i64.wrap (a + fr)), .int .i64 (IntKind.i64.wrap (IntKind.i64.wrap (a + fr) + n))] (by rfl) (by rfl) (World.news_of_block (cs := #[.int .i64 (IntKind.i64.wrap (a + fr)), .int .i64 (IntKind.i64.wrap (IntKind.i64.wrap (a + fr) + n))]) (t := 62) (fr := (0, 0)) (heap_alloc_new wB _)) (by simp [Value.oneCell']) (by omega) (by unfold maxLen; omega) (by omega) (by omega) (wB.heap.size + 1) (by simp) ?_
  intro gg cap1 w1 hown1 hgrow hat hlt
  have e3 : w1.frozen? ⟨mb, 7, none⟩ = false := (hgrow.frozen_far _ (by simp; omega) hne2).trans (fz _)
  have e2 : w1.cell? ⟨mb, 7, none⟩ = some (.slice p0 s.t1.length cap0) := (hgrow.cell_far _ (by simp; omega) hne2).trans (fc _)
  have e5 : w1.cell? ⟨w.heap.size, 5, none⟩ = some (.int .i64 1) := (hgrow.cell_far _ (by simp; omega) hne1).trans (fe5 _)
  have e4 : w1.cell? ⟨w.heap.size, 4, none⟩ = some (.int .i64 a) := (hgrow.cell_far _ (by simp; omega) hne1).trans (fe4 _)
  refine hK _ _ (fun _ => ⟨e5, e4, e2⟩) ?_
  clear hK K
  refine Late.one (i := 27) (by kernel_rfl) rfl (fun K hK => ?_)
  go_simp
  refine hK _ _ (fun _ => ⟨e5, e4, e2⟩) ?_
  clear hK K
  refine Late.one (i := 28) (by kernel_rfl) rfl (fun K hK => ?_)
  go_simp
  refine hK _ _ (fun h => by cases h) ?_
  clear hK K
  refine Late.done (by kernel_rfl) ?_ _
  have x1 : IntKind.i64.wrap (a + fr) = a + fr := IntWalk.i64_in _ (by constructor <;> omega)
  have x2 : IntKind.i64.wrap (a + fr + n) = a + fr + n := IntWalk.i64_in _ (by omega)
  rw [x1, x2] at hown1 hgrow
  have hown2 : w1.ownsRow 0 62 2 (.slice (some ⟨gg, 0, none⟩) (s.t1.length + 1) cap1) (s.t1 ++ [(a + fr, a + fr + n)]).length (rdCells (s.t1 ++ [(a + fr, a + fr + n)])) := by
    rw [rdCells_append, List.length_append]; exact hown1
  have hb1 : Below w.heap.size w (wB.alloc (Obj.cells #[.int .i64 (a + fr), .int .i64 (a + fr + n)] 62)).drew := (HB.out.alloc (by have := HSZ.out; omega) _).drew
  obtain ⟨L'', st, o1, o2⟩ := list_grown (j := 7) hR.out.obj hR.out.objc (c := 7) (by decide) hR.out.told1 hb1 hown2 (by rw [HV.out]; exact hgrow) (by
    intro g hg
    have hg' : gg = g := by simpa [Value.ownBlock] using hg
    rw [← hg', HV.out]
    rcases hat with h | h
    · exact .inl h
    · right; have g1 := HSZ.out; show w.heap.size ≤ gg; omega)
  have HF := Lib.hid (And.intro (st.mono (D := Rc) (by rintro d (rfl | rfl) <;> unfold Rc <;> omega)) (hR.out.put_t1v st (fun d hd => hd) (by simpa [Rm.cells] using o1) o2))
  clear st o1 o2 hown1 hown2 hgrow hb1 x1 x2 hat hlt e2 e3 e4 e5
  go_wp2_with fail
  exact bodyPost_end (v := .tuple #[]) (by simp [results, Try.results55, go_sem]) rfl ⟨rfl, L'', _, HF.out⟩

theorem reads_told2 {w0 : World} {mb : Nat} {L : Nat → Nat} {w : World} {s : Rm} (h : Room w0 mb L w s) (hl : s.t2.length ≤ 1000000000000) (v r : Value) (a : Int) (p : Option Nat) (fr n : Nat) (hn0 : 0 < n)
    (ha : 0 ≤ a) (ha2 : a + fr + n ≤ 9223372036854775807) :
    Calls Try.prog 55 #[.pointer (some ⟨mb, 0, none⟩), .agg #[v, .int .i64 a, wat p, r, .int .i64 a, .int .i64 2], .int .i64 (fr : Int), .int .i64 (n : Int)] w fun e w' => e = .returned (.tuple #[]) ∧ ∃ L' v', Step Rc L w L' w' ∧ Room w0 mb L' w' { s with t2v := v', t2 := s.t2 ++ [(a + fr, a + fr + n)] } := by
  obtain ⟨p0, cap0, hv0, _⟩ := ownsRow_shape h.told2.1
  obtain ⟨i0, hi, hz0, hz1, hz2⟩ := info_parts infoRead
  have hml := lt_of_heap h.obj
  have c0 : w.cell? ⟨mb, 8, none⟩ = some (.slice p0 s.t2.length cap0) := by rw [cell_of_heap h.obj, ← hv0]; rfl
  have c1 : w.frozen? ⟨mb, 8, none⟩ = false := frozen_of_heap h.obj
  obtain ⟨wB, hwB⟩ : ∃ wB, wB = w.alloc (Obj.cells #[v, .int .i64 a, wat p, r, .int .i64 a, .int .i64 2] 108) := ⟨_, rfl⟩
  have facts : wB.cell? ⟨w.heap.size, 5, none⟩ = some (.int .i64 2) ∧ wB.cell? ⟨w.heap.size, 4, none⟩ = some (.int .i64 a) ∧ wB.cell? ⟨mb, 8, none⟩ = some (.slice p0 s.t2.length cap0) ∧ wB.frozen? ⟨mb, 8, none⟩ = false ∧ wB.heap.size = w.heap.size + 1 := by
    rw [hwB]; simp
    exact ⟨by rw [World.cell?_alloc_lt _ _ _ hml]; exact c0, by rw [World.frozen?_alloc_old _ _ _ (Nat.ne_of_lt hml)]; exact c1⟩
  obtain ⟨d5, d4, dt, df, hsz⟩ := facts
  have HSZ := Lib.hid hsz
  have hownB : wB.ownsRow 0 62 2 (.slice p0 s.t2.length cap0) s.t2.length (rdCells s.t2) := by rw [hwB, ← hv0]; exact h.told2.1.alloc _
  have hbB : Below w.heap.size w wB := by rw [hwB]; exact below_alloc w _
  have HB := Lib.hid hbB
  have HW := Lib.hid hwB
  have HV := Lib.hid hv0
  have hne1 : some w.heap.size ≠ (Value.slice p0 s.t2.length cap0).ownBlock := by
    intro e; have := (h.told2.1.lt _ (by rw [hv0]; exact e.symm)).2; omega
  have hne2 : some mb ≠ (Value.slice p0 s.t2.length cap0).ownBlock := by
    intro e; have := h.told2.2 mb (by rw [hv0]; exact e.symm); rw [h.objc] at this; cases this
  have hs1 : w.heap.size < wB.heap.size := by omega
  have hs2 : mb < wB.heap.size := by omega
  have fz : ∀ o, (wB.alloc o).frozen? ⟨mb, 8, none⟩ = false := fun o => by rw [World.frozen?_alloc_old _ _ _ (Nat.ne_of_lt hs2)]; exact df
  have fc : ∀ o, (wB.alloc o).cell? ⟨mb, 8, none⟩ = some (.slice p0 s.t2.length cap0) := fun o => by rw [World.cell?_alloc_lt _ _ _ hs2]; exact dt
  have fe5 : ∀ o, (wB.alloc o).cell? ⟨w.heap.size, 5, none⟩ = some (.int .i64 2) := fun o => by rw [World.cell?_alloc_lt _ _ _ hs1]; exact d5
  have fe4 : ∀ o, (wB.alloc o).cell? ⟨w.heap.size, 4, none⟩ = some (.int .i64 a) := fun o => by rw [World.cell?_alloc_lt _ _ _ hs1]; exact d4
  clear hbB hsz c0 c1 hwB hv0
  have hR := Lib.hid h
  clear h
  go_enter Try.func55, Try.ntmps55
  go_wp2_with fail
  rw [← HW.out]
  go_wp2_with fail
  refine Late.region (fun w' => w'.cell? ⟨w.heap.size, 5, none⟩ = some (.int .i64 2) ∧ w'.cell? ⟨w.heap.size, 4, none⟩ = some (.int .i64 a) ∧ w'.cell? ⟨mb, 8, none⟩ = some (.slice p0 s.t2.length cap0)) (fun j => decide (27 < j)) (by kernel_rfl) ?_
  refine Late.takeC (i := 0) (v := ?_) rfl (by kernel_rfl) (by kernel_rfl) (by kernel_rfl) (by kernel_rfl) (fun _ _ _ h => h) (Or.inl ⟨by rfl, ?_⟩) ⟨d5, d4, dt⟩ ?_
  rotate_left
  · intro w' hS
    obtain ⟨s1, s2, s3⟩ := hS
    go_simp
    rfl
  refine Late.takeC (i := 1) (v := ?_) rfl (by kernel_rfl) (by kernel_rfl) (by kernel_rfl) (by kernel_rfl) (fun _ _ _ h => h) (Or.inl ⟨by rfl, ?_⟩) ⟨d5, d4, dt⟩ ?_
  rotate_left
  · intro w' hS
    obtain ⟨s1, s2, s3⟩ := hS
    go_simp
    rfl
  refine Late.takeC (i := 2) (v := ?_) rfl (by kernel_rfl) (by kernel_rfl) (by kernel_rfl) (by kernel_rfl) (fun _ _ _ h => h) (Or.inl ⟨by rfl, ?_⟩) ⟨d5, d4, dt⟩ ?_
  rotate_left
  · intro w' hS
    obtain ⟨s1, s2, s3⟩ := hS
    go_simp
    rfl
  refine Late.takeC (i := 3) (v := ?_) rfl (by kernel_rfl) (by kernel_rfl) (by kernel_rfl) (by kernel_rfl) (fun _ _ _ h => h) (Or.inl ⟨by rfl, ?_⟩) ⟨d5, d4, dt⟩ ?_
  rotate_left
  · intro w' hS
    obtain ⟨s1, s2, s3⟩ := hS
    go_simp
    rfl
  refine Late.takeC (i := 4) (v := ?_) rfl (by kernel_rfl) (by kernel_rfl) (by kernel_rfl) (by kernel_rfl) (fun _ _ _ h => h) (Or.inl ⟨by rfl, ?_⟩) ⟨d5, d4, dt⟩ ?_
  rotate_left
  · intro w' hS
    obtain ⟨s1, s2, s3⟩ := hS
    go_simp
    rfl
  refine Late.takeC (i := 5) (v := ?_) rfl (by kernel_rfl) (by kernel_rfl) (by kernel_rfl) (by kernel_rfl) (fun _ _ _ h => h) (Or.inl ⟨by rfl, ?_⟩) ⟨d5, d4, dt⟩ ?_
  rotate_left
  · intro w' hS
    obtain ⟨s1, s2, s3⟩ := hS
    go_simp
    rfl
  refine Late.takeC (i := 6) (v := ?_) rfl (by kernel_rfl) (by kernel_rfl) (by kernel_rfl) (by kernel_rfl) (fun _ _ _ h => h) (Or.inl ⟨by rfl, ?_⟩) ⟨d5, d4, dt⟩ ?_
  rotate_left
  · intro w' hS
    obtain ⟨s1, s2, s3⟩ := hS
    go_simp
    rfl
  refine Late.takeC (i := 7) (v := ?_) rfl (by kernel_rfl) (by kernel_rfl) (by kernel_rfl) (by kernel_rfl) (fun _ _ _ h => h) (Or.inl ⟨by rfl, ?_⟩) ⟨d5, d4, dt⟩ ?_
  rotate_left
  · intro w' hS
    obtain ⟨s1, s2, s3⟩ := hS
    go_simp
    rfl
  refine Late.takeC (i := 8) (v := ?_) rfl (by kernel_rfl) (by kernel_rfl) (by kernel_rfl) (by kernel_rfl) (fun _ _ _ h => h) (Or.inl ⟨by rfl, ?_⟩) ⟨d5, d4, dt⟩ ?_
  rotate_left
  · intro w' hS
    obtain ⟨s1, s2, s3⟩ := hS
    go_simp
    rfl
  refine Late.takeC (i := 9) (v := ?_) rfl (by kernel_rfl) (by kernel_rfl) (by kernel_rfl) (by kernel_rfl) (fun _ _ _ h => h) (Or.inl ⟨by rfl, ?_⟩) ⟨d5, d4, dt⟩ ?_
  rotate_left
  · intro w' hS
    obtain ⟨s1, s2, s3⟩ := hS
    go_simp
    rfl
  refine Late.takeC (i := 10) (v := ?_) rfl (by kernel_rfl) (by kernel_rfl) (by kernel_rfl) (by kernel_rfl) (fun _ _ _ h => h) (Or.inl ⟨by rfl, ?_⟩) ⟨d5, d4, dt⟩ ?_
  rotate_left
  · intro w' hS
    obtain ⟨s1, s2, s3⟩ := hS
    go_simp
    rfl
  refine Late.takeC (i := 11) (v := ?_) rfl (by kernel_rfl) (by kernel_rfl) (by kernel_rfl) (by kernel_rfl) (fun _ _ _ h => h) (Or.inl ⟨by rfl, ?_⟩) ⟨d5, d4, dt⟩ ?_
  rotate_left
  · intro w' hS
    obtain ⟨s1, s2, s3⟩ := hS
    go_simp
    rfl
  refine Late.takeC (i := 12) (v := ?_) rfl (by kernel_rfl) (by kernel_rfl) (by kernel_rfl) (by kernel_rfl) (fun _ _ _ h => h) (Or.inl ⟨by rfl, ?_⟩) ⟨d5, d4, dt⟩ ?_
  rotate_left
  · intro w' hS
    obtain ⟨s1, s2, s3⟩ := hS
    go_simp
    rfl
  refine Late.takeC (i := 13) (v := ?_) rfl (by kernel_rfl) (by kernel_rfl) (by kernel_rfl) (by kernel_rfl) (fun _ _ _ h => h) (Or.inl ⟨by rfl, ?_⟩) ⟨d5, d4, dt⟩ ?_
  rotate_left
  · intro w' hS
    obtain ⟨s1, s2, s3⟩ := hS
    go_simp
    rfl
  refine Late.takeC (i := 14) (v := ?_) rfl (by kernel_rfl) (by kernel_rfl) (by kernel_rfl) (by kernel_rfl) (fun _ _ _ h => h) (Or.inl ⟨by rfl, ?_⟩) ⟨d5, d4, dt⟩ ?_
  rotate_left
  · intro w' hS
    obtain ⟨s1, s2, s3⟩ := hS
    go_simp
    rfl
  refine Late.takeC (i := 15) (v := ?_) rfl (by kernel_rfl) (by kernel_rfl) (by kernel_rfl) (by kernel_rfl) (fun _ _ _ h => h) (Or.inl ⟨by rfl, ?_⟩) ⟨d5, d4, dt⟩ ?_
  rotate_left
  · intro w' hS
    obtain ⟨s1, s2, s3⟩ := hS
    go_simp
    rfl
  refine Late.takeC (i := 16) (v := ?_) rfl (by kernel_rfl) (by kernel_rfl) (by kernel_rfl) (by kernel_rfl) (fun _ _ _ h => h) (Or.inl ⟨by rfl, ?_⟩) ⟨d5, d4, dt⟩ ?_
  rotate_left
  · intro w' hS
    obtain ⟨s1, s2, s3⟩ := hS
    go_simp
    rfl
  refine Late.takeC (i := 17) (v := ?_) rfl (by kernel_rfl) (by kernel_rfl) (by kernel_rfl) (by kernel_rfl) (fun _ _ _ h => h) (Or.inl ⟨by rfl, ?_⟩) ⟨d5, d4, dt⟩ ?_
  rotate_left
  · intro w' hS
    obtain ⟨s1, s2, s3⟩ := hS
    go_simp
    rfl
  refine Late.takeC (i := 18) (v := ?_) rfl (by kernel_rfl) (by kernel_rfl) (by kernel_rfl) (by kernel_rfl) (fun _ _ _ h => h) (Or.inl ⟨by rfl, ?_⟩) ⟨d5, d4, dt⟩ ?_
  rotate_left
  · intro w' hS
    obtain ⟨s1, s2, s3⟩ := hS
    go_simp
    rfl
  refine Late.takeC (i := 19) (v := ?_) rfl (by kernel_rfl) (by kernel_rfl) (by kernel_rfl) (by kernel_rfl) (fun _ _ _ h => h) (Or.inl ⟨by rfl, ?_⟩) ⟨d5, d4, dt⟩ ?_
  rotate_left
  · intro w' hS
    obtain ⟨s1, s2, s3⟩ := hS
    go_simp
    rfl
  refine Late.takeC (i := 20) (v := ?_) rfl (by kernel_rfl) (by kernel_rfl) (by kernel_rfl) (by kernel_rfl) (fun _ _ _ h => h) (Or.inl ⟨by rfl, ?_⟩) ⟨d5, d4, dt⟩ ?_
  rotate_left
  · intro w' hS
    obtain ⟨s1, s2, s3⟩ := hS
    go_simp
    rfl
  refine Late.takeC (i := 21) (v := ?_) rfl (by kernel_rfl) (by kernel_rfl) (by kernel_rfl) (by kernel_rfl) (fun _ _ _ h => h) (Or.inl ⟨by rfl, ?_⟩) ⟨d5, d4, dt⟩ ?_
  rotate_left
  · intro w' hS
    obtain ⟨s1, s2, s3⟩ := hS
    go_simp
    rfl
  refine Late.takeC (i := 22) (v := ?_) rfl (by kernel_rfl) (by kernel_rfl) (by kernel_rfl) (by kernel_rfl) (fun _ _ _ h => h) (Or.inl ⟨by rfl, ?_⟩) ⟨d5, d4, dt⟩ ?_
  rotate_left
  · intro w' hS
    obtain ⟨s1, s2, s3⟩ := hS
    go_simp
    rfl
  refine Late.takeC (i := 25) (v := ?_) rfl (by kernel_rfl) (by kernel_rfl) (by kernel_rfl) (by kernel_rfl) (fun _ _ _ h => h) (Or.inl ⟨by rfl, ?_⟩) ⟨d5, d4, dt⟩ ?_
  rotate_left
  · intro w' hS
    obtain ⟨s1, s2, s3⟩ := hS
    go_simp
    rfl
  refine Late.takeC (i := 26) (v := ?_) rfl (by kernel_rfl) (by kernel_rfl) (by kernel_rfl) (by kernel_rfl) (fun _ _ _ h => h) (Or.inl ⟨by rfl, ?_⟩) ⟨d5, d4, dt⟩ ?_
  rotate_left
  · intro w' hS
    obtain ⟨s1, s2, s3⟩ := hS
    go_simp
    rfl
  refine Late.one (i := 23) (by kernel_rfl) rfl (fun K hK => ?_)
  go_simp
  refine hK _ _ (fun _ => ⟨fe5 _, fe4 _, fc _⟩) ?_
  clear hK K
  refine Late.one (i := 24) (by kernel_rfl) rfl (fun K hK => ?_)
  refine step_append_lies _ (by rfl) _ _ _ (by rfl) 0 62 i0 _ 2 16 Try.underlying57 hi hz0 hz1 hz2 rfl (by omega) (.slice p0 s.t2.length cap0) s.t2.length (rdCells s.t2) (by rfl) ((hownB.alloc _).drew) ⟨wB.heap.size, 0, none⟩ 1 1 [.int .i64 (IntKind.i64.wrap (a + fr)), .int .i64 (IntKind.i64.wrap (IntKind.i64.wrap (a + fr) + n))] (by rfl) (by rfl) (World.news_of_block (cs := #[.int .i64 (IntKind.i64.wrap (a + fr)), .int .i64 (IntKind.i64.wrap (IntKind.i64.wrap (a + fr) + n))]) (t := 62) (fr := (0, 0)) (heap_alloc_new wB _)) (by simp [Value.oneCell']) (by omega) (by unfold maxLen; omega) (by omega) (by omega) (wB.heap.size + 1) (by simp) ?_
  intro gg cap1 w1 hown1 hgrow hat hlt
  have e3 : w1.frozen? ⟨mb, 8, none⟩ = false := (hgrow.frozen_far _ (by simp; omega) hne2).trans (fz _)
  have e2 : w1.cell? ⟨mb, 8, none⟩ = some (.slice p0 s.t2.length cap0) := (hgrow.cell_far _ (by simp; omega) hne2).trans (fc _)
  have e5 : w1.cell? ⟨w.heap.size, 5, none⟩ = some (.int .i64 2) := (hgrow.cell_far _ (by simp; omega) hne1).trans (fe5 _)
  have e4 : w1.cell? ⟨w.heap.size, 4, none⟩ = some (.int .i64 a) := (hgrow.cell_far _ (by simp; omega) hne1).trans (fe4 _)
  refine hK _ _ (fun _ => ⟨e5, e4, e2⟩) ?_
  clear hK K
  refine Late.one (i := 27) (by kernel_rfl) rfl (fun K hK => ?_)
  go_simp
  refine hK _ _ (fun _ => ⟨e5, e4, e2⟩) ?_
  clear hK K
  refine Late.one (i := 28) (by kernel_rfl) rfl (fun K hK => ?_)
  go_simp
  refine hK _ _ (fun h => by cases h) ?_
  clear hK K
  refine Late.done (by kernel_rfl) ?_ _
  have x1 : IntKind.i64.wrap (a + fr) = a + fr := IntWalk.i64_in _ (by constructor <;> omega)
  have x2 : IntKind.i64.wrap (a + fr + n) = a + fr + n := IntWalk.i64_in _ (by omega)
  rw [x1, x2] at hown1 hgrow
  have hown2 : w1.ownsRow 0 62 2 (.slice (some ⟨gg, 0, none⟩) (s.t2.length + 1) cap1) (s.t2 ++ [(a + fr, a + fr + n)]).length (rdCells (s.t2 ++ [(a + fr, a + fr + n)])) := by
    rw [rdCells_append, List.length_append]; exact hown1
  have hb1 : Below w.heap.size w (wB.alloc (Obj.cells #[.int .i64 (a + fr), .int .i64 (a + fr + n)] 62)).drew := (HB.out.alloc (by have := HSZ.out; omega) _).drew
  obtain ⟨L'', st, o1, o2⟩ := list_grown (j := 8) hR.out.obj hR.out.objc (c := 8) (by decide) hR.out.told2 hb1 hown2 (by rw [HV.out]; exact hgrow) (by
    intro g hg
    have hg' : gg = g := by simpa [Value.ownBlock] using hg
    rw [← hg', HV.out]
    rcases hat with h | h
    · exact .inl h
    · right; have g1 := HSZ.out; show w.heap.size ≤ gg; omega)
  have HF := Lib.hid (And.intro (st.mono (D := Rc) (by rintro d (rfl | rfl) <;> unfold Rc <;> omega)) (hR.out.put_t2v st (fun d hd => hd) (by simpa [Rm.cells] using o1) o2))
  clear st o1 o2 hown1 hown2 hgrow hb1 x1 x2 hat hlt e2 e3 e4 e5
  go_wp2_with fail
  exact bodyPost_end (v := .tuple #[]) (by simp [results, Try.results55, go_sem]) rfl ⟨rfl, L'', _, HF.out⟩


/-- room.reads. -/
theorem reads_calls {w0 : World} {mb : Nat} {L : Nat → Nat} {w : World} {s : Rm} (h : Room w0 mb L w s) (e : En) (he : e.who < 3) (hl : (s.t e.who).length ≤ 1000000000000) (fr n : Nat) (ha2 : (e.a : Int) + fr + n ≤ 9223372036854775807) :
    Calls Try.prog 55 #[.pointer (some ⟨mb, 0, none⟩), enVal e, .int .i64 (fr : Int), .int .i64 (n : Int)] w fun x w' => x = .returned (.tuple #[]) ∧ ∃ L' v, Step Rc L w L' w' ∧ Room w0 mb L' w' (s.setT e.who v (tell (s.t e.who) e.a fr n)) := by
  by_cases hq : e.who = 0 ∨ n = 0
  · refine (reads_quiet h e.v e.r e.a e.who e.p fr n hq).mono fun x w' ⟨hx, hb⟩ => ⟨hx, ext L w.heap.size 30, (if e.who = 1 then s.t1v else s.t2v), ?_⟩
    have : s.setT e.who (if e.who = 1 then s.t1v else s.t2v) (tell (s.t e.who) e.a fr n) = s := by
      rcases hq with h0 | rfl
      · rw [h0]; simp [Rm.setT]
      · rw [tell_zero]
        have hw : e.who = 0 ∨ e.who = 1 ∨ e.who = 2 := by omega
        rcases hw with hw | hw | hw <;> simp [Rm.setT, Rm.t, hw]
    rw [this]; exact ⟨Step.of_below hb _ 30, h.below hb⟩
  · obtain ⟨h0, hn0⟩ := not_or.1 hq
    have hw : e.who = 1 ∨ e.who = 2 := by omega
    rw [tell_pos (by omega)]
    rcases hw with hw | hw
    · have := reads_told1 h (by simpa [Rm.t, hw] using hl) e.v e.r e.a e.p fr n (by omega) (by omega) (by omega)
      rw [enVal, hw]
      refine this.mono fun x w' ⟨hx, L', v, st, hr⟩ => ⟨hx, L', v, st, by simpa [Rm.setT, Rm.t] using hr⟩
    · have := reads_told2 h (by simpa [Rm.t, hw] using hl) e.v e.r e.a e.p fr n (by omega) (by omega) (by omega)
      rw [enVal, hw]
      refine this.mono fun x w' ⟨hx, L', v, st, hr⟩ => ⟨hx, L', v, st, by simpa [Rm.setT, Rm.t] using hr⟩

end Go.Proofs.Ytajaonnpekdklaa.Vr
