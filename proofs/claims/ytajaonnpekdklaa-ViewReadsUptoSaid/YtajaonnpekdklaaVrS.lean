import Derived.Test.YtajaonnpekdklaaVrO0
import Derived.Test.YtajaonnpekdklaaVrJ
import Derived.IntWalk
set_option linter.unusedVariables false
set_option maxRecDepth 100000
/-! room.apart (printed by wip/tools/vrs.py). -/
namespace Go.Proofs.Ytajaonnpekdklaa.Vr
open Go.ChangeShapes Go.WideShapes Go.ChangeAt Go.RowKit Mem Vw

structure ApB (s : Rm) (M : Nat) : Prop where
  l0 : s.n0.length ≤ 1000000002
  l1 : s.n1.length ≤ 1000000002
  l2 : s.n2.length ≤ 1000000002
  l3 : s.n3.length ≤ 1000000002
  m0 : ∀ x ∈ s.n0, x.2 ≤ M
  m1 : ∀ x ∈ s.n1, x.2 ≤ M
  m2 : ∀ x ∈ s.n2, x.2 ≤ M
  m3 : ∀ x ∈ s.n3, x.2 ≤ M

theorem ApB.mono {s : Rm} {M M' : Nat} (h : ApB s M) (hM : M ≤ M') : ApB s M' :=
  ⟨h.l0, h.l1, h.l2, h.l3, fun x hx => Nat.le_trans (h.m0 x hx) hM, fun x hx => Nat.le_trans (h.m1 x hx) hM, fun x hx => Nat.le_trans (h.m2 x hx) hM, fun x hx => Nat.le_trans (h.m3 x hx) hM⟩
theorem mem_set_le {l : List (Value × Nat)} {i : Nat} {x : Value} {m M : Nat} (h : ∀ y ∈ l, y.2 ≤ M) (hm : m ≤ M + 1) : ∀ y ∈ l.set i (x, m), y.2 ≤ M + 1 := by
  intro y hy
  rcases List.mem_or_eq_of_mem_set hy with h1 | h1
  · exact Nat.le_succ_of_le (h y h1)
  · rw [h1]; exact hm

theorem ApB.grow0 {s : Rm} {M i : Nat} {x : Value} {m : Nat} (h : ApB s M) (hm : m ≤ M + 1) : ApB { s with n0 := s.n0.set i (x, m) } (M + 1) := by
  have g := h.mono (Nat.le_succ M)
  exact ⟨by rw [List.length_set]; exact g.l0, g.l1, g.l2, g.l3, mem_set_le h.m0 hm, g.m1, g.m2, g.m3⟩
theorem mark_sp0 (i : Nat) (hi : i ≤ 1000000002) : Value.int .u8 (IntKind.u8.wrap (IntKind.i64.wrap (((i : Nat) : Int) + 1))) = mark0 i := by
  rw [IntWalk.i64_in _ (by omega)]
  unfold mark0; congr 1
theorem mark_so0 (i : Nat) (hi : i ≤ 1000000002) : Value.int .u8 ((((i : Nat) : Int) + 1) % 256) = mark0 i := by unfold mark0; congr 1
theorem ApB.grow1 {s : Rm} {M i : Nat} {x : Value} {m : Nat} (h : ApB s M) (hm : m ≤ M + 1) : ApB { s with n1 := s.n1.set i (x, m) } (M + 1) := by
  have g := h.mono (Nat.le_succ M)
  exact ⟨g.l0, by rw [List.length_set]; exact g.l1, g.l2, g.l3, g.m0, mem_set_le h.m1 hm, g.m2, g.m3⟩
theorem mark_sp1 (i : Nat) (hi : i ≤ 1000000002) : Value.int .u16 (IntKind.u16.wrap (IntKind.i64.wrap (((i : Nat) : Int) + 1))) = mark1 i := by
  rw [IntWalk.i64_in _ (by omega)]
  unfold mark1; congr 1
theorem mark_so1 (i : Nat) (hi : i ≤ 1000000002) : Value.int .u16 (IntKind.u16.wrap (((i : Nat) : Int) + 1)) = mark1 i := by unfold mark1; congr 1
theorem ApB.grow2 {s : Rm} {M i : Nat} {x : Value} {m : Nat} (h : ApB s M) (hm : m ≤ M + 1) : ApB { s with n2 := s.n2.set i (x, m) } (M + 1) := by
  have g := h.mono (Nat.le_succ M)
  exact ⟨g.l0, g.l1, by rw [List.length_set]; exact g.l2, g.l3, g.m0, g.m1, mem_set_le h.m2 hm, g.m3⟩
theorem mark_sp2 (i : Nat) (hi : i ≤ 1000000002) : Value.int .u32 (IntKind.u32.wrap (IntKind.i64.wrap (((i : Nat) : Int) + 1))) = mark2 i := by
  rw [IntWalk.i64_in _ (by omega)]
  unfold mark2; congr 1
theorem mark_so2 (i : Nat) (hi : i ≤ 1000000002) : Value.int .u32 (((i : Nat) : Int) + 1) = mark2 i := by unfold mark2; congr 1; omega
theorem ApB.grow3 {s : Rm} {M i : Nat} {x : Value} {m : Nat} (h : ApB s M) (hm : m ≤ M + 1) : ApB { s with n3 := s.n3.set i (x, m) } (M + 1) := by
  have g := h.mono (Nat.le_succ M)
  exact ⟨g.l0, g.l1, g.l2, by rw [List.length_set]; exact g.l3, g.m0, g.m1, g.m2, mem_set_le h.m3 hm⟩
theorem mark_sp3 (i : Nat) (hi : i ≤ 1000000002) : Value.int .u64 (IntKind.u64.wrap (IntKind.i64.wrap (((i : Nat) : Int) + 1))) = mark3 i := by
  rw [IntWalk.i64_in _ (by omega)]
  unfold mark3; congr 1
theorem mark_so3 (i : Nat) (hi : i ≤ 1000000002) : Value.int .u64 (((i : Nat) : Int) + 1) = mark3 i := by unfold mark3; congr 1; omega

set_option maxHeartbeats 8000000 in
theorem apart_calls {w0 : World} {mb : Nat} {L : Nat → Nat} {w : World} {s0 : Rm} (hR : Room w0 mb L w s0) (b : ApB s0 1048576) :
    Calls Try.prog 37 #[.pointer (some ⟨mb, 0, none⟩)] w fun r w' => r = .returned (.bool true) ∧ ∃ L' s', Room w0 mb L' w' s' := by
  go_enter Try.func37, Try.ntmps37
  go_wp2_with fail
  go_loopw [3] (fun i wr => ∃ (j : Nat) (L' : Nat → Nat) (s' : Rm), j ≤ s0.n0.length ∧ i = .int .i64 (j : Int) ∧ Room w0 mb L' wr s' ∧ ApB s' (1048576 + j + 0000000000 + 0) ∧ s'.n0.length = s0.n0.length) (fun i _ => s0.n0.length - (intOf i).toNat)
  case atStart => exact ⟨0, _, s0, by omega, rfl, hR, b.mono (by omega), rfl⟩
  case round =>
    obtain ⟨j, LX, s1, hj, rfl, hRX, bX, hlX⟩ := hrel
    obtain ⟨pq, kq, hvq, _⟩ := ownsRow_shape hRX.outer0.1
    have x9 : wr.cell? ⟨mb, 11, none⟩ = some (.slice pq s1.n0.length kq) := by rw [cell_of_heap hRX.obj, ← hvq]; rfl
    rw [hlX] at x9
    have hlb := bX.l0
    rw [hlX] at hlb
    clear b hR
    by_cases hjl : j < s0.n0.length
    · have hji : j < s1.n0.length := by rw [hlX]; exact hjl
      obtain ⟨ob, ko, hvo, hLo, d0, d1, _, _⟩ := Own.set hRX.outer0 (j := j) (by simpa using hji) (Value.bool true)
      rw [hvq] at hvo
      cases hvo
      have hin := hRX.inner0 j hji
      have hmb := bX.m0 s1.n0[j] (List.getElem_mem hji)
      have hvm : (s1.n0.map (·.1))[j]'(by simpa using hji) = s1.n0[j].1 := by simp
      rw [hvm] at d0
      clear hvm
      obtain ⟨X, hX⟩ : ∃ X, X = s1.n0[j] := ⟨_, rfl⟩
      rw [← hX] at hin hmb d0
      obtain ⟨vi, m⟩ := X
      simp only at hin hmb d0
      obtain ⟨pi, ki, hvi, _⟩ := ownsRow_shape hin.1
      subst hvi
      obtain ⟨i0, hi, hz0, hz1, hz2⟩ := info_parts Ink.infoByte
      have hnemb : some mb ≠ (Value.slice pi m ki).ownBlock := by
        intro e; have := hin.2 mb e.symm; rw [hRX.objc] at this; omega
      have hneob : some ob ≠ (Value.slice pi m ki).ownBlock := by
        intro e; have := hin.2 ob e.symm; rw [hLo] at this; omega
      have hown := hin.1
      have hbi := bX.mono (Nat.le_refl _)
      have fa : ∀ (bb oo : Nat) (u : Value) (o : Obj), wr.cell? ⟨bb, oo, none⟩ = some u → (wr.alloc o).cell? ⟨bb, oo, none⟩ = some u := fun bb oo u o hu => by rw [World.cell?_alloc_lt _ _ _ (World.block_lt_of_cell? _ _ hu)]; exact hu
      have hlo := World.block_lt_of_cell? _ _ d0
      have fz : ∀ o, (wr.alloc o).frozen? ⟨ob, j, none⟩ = false := fun o => by rw [World.frozen?_alloc_old _ _ _ (Nat.ne_of_lt hlo)]; exact d1
      have HRX := Lib.hid hRX
      have HIN := Lib.hid hin
      have HX := Lib.hid hX
      have HVQ := Lib.hid hvq
      have HLX := Lib.hid hlX
      have HFA := Lib.hid fa
      have HLo := Lib.hid hLo
      have HB := Lib.hid bX
      have hmk := Lib.hid (mark_sp0 j (by omega))
      clear hRX hin hX hvq hlX fa hLo bX hbi
      go_wp2_with fail
      refine Late.region (fun w' => w'.cell? ⟨mb, 11, none⟩ = some (.slice (some ⟨ob, 0, none⟩) s0.n0.length kq) ∧ w'.cell? ⟨ob, j, none⟩ = some (.slice pi m ki)) (fun q => decide (16 < q)) (by kernel_rfl) ?_
      refine Late.takeC (i := 0) (v := ?_) rfl (by kernel_rfl) (by kernel_rfl) (by kernel_rfl) (by kernel_rfl) (fun _ _ _ h => h) (Or.inl ⟨by rfl, ?_⟩) ⟨x9, d0⟩ ?_
      rotate_left
      · intro w' hS
        obtain ⟨s1, s2⟩ := hS
        go_simp
        rfl
      refine Late.takeC (i := 1) (v := ?_) rfl (by kernel_rfl) (by kernel_rfl) (by kernel_rfl) (by kernel_rfl) (fun _ _ _ h => h) (Or.inl ⟨by rfl, ?_⟩) ⟨x9, d0⟩ ?_
      rotate_left
      · intro w' hS
        obtain ⟨s1, s2⟩ := hS
        go_simp
        rfl
      refine Late.takeC (i := 2) (v := ?_) rfl (by kernel_rfl) (by kernel_rfl) (by kernel_rfl) (by kernel_rfl) (fun _ _ _ h => h) (Or.inl ⟨by rfl, ?_⟩) ⟨x9, d0⟩ ?_
      rotate_left
      · intro w' hS
        obtain ⟨s1, s2⟩ := hS
        go_simp
        rfl
      refine Late.takeC (i := 3) (v := ?_) rfl (by kernel_rfl) (by kernel_rfl) (by kernel_rfl) (by kernel_rfl) (fun _ _ _ h => h) (Or.inl ⟨by rfl, ?_⟩) ⟨x9, d0⟩ ?_
      rotate_left
      · intro w' hS
        obtain ⟨s1, s2⟩ := hS
        go_simp
        rfl
      refine Late.takeC (i := 4) (v := ?_) rfl (by kernel_rfl) (by kernel_rfl) (by kernel_rfl) (by kernel_rfl) (fun _ _ _ h => h) (Or.inl ⟨by rfl, ?_⟩) ⟨x9, d0⟩ ?_
      rotate_left
      · intro w' hS
        obtain ⟨s1, s2⟩ := hS
        go_simp
        rfl
      refine Late.takeC (i := 5) (v := ?_) rfl (by kernel_rfl) (by kernel_rfl) (by kernel_rfl) (by kernel_rfl) (fun _ _ _ h => h) (Or.inl ⟨by rfl, ?_⟩) ⟨x9, d0⟩ ?_
      rotate_left
      · intro w' hS
        obtain ⟨s1, s2⟩ := hS
        go_simp
        rfl
      refine Late.takeC (i := 6) (v := ?_) rfl (by kernel_rfl) (by kernel_rfl) (by kernel_rfl) (by kernel_rfl) (fun _ _ _ h => h) (Or.inl ⟨by rfl, ?_⟩) ⟨x9, d0⟩ ?_
      rotate_left
      · intro w' hS
        obtain ⟨s1, s2⟩ := hS
        go_simp
        rfl
      refine Late.takeC (i := 7) (v := ?_) rfl (by kernel_rfl) (by kernel_rfl) (by kernel_rfl) (by kernel_rfl) (fun _ _ _ h => h) (Or.inl ⟨by rfl, ?_⟩) ⟨x9, d0⟩ ?_
      rotate_left
      · intro w' hS
        obtain ⟨s1, s2⟩ := hS
        go_simp
        rfl
      refine Late.takeC (i := 8) (v := ?_) rfl (by kernel_rfl) (by kernel_rfl) (by kernel_rfl) (by kernel_rfl) (fun _ _ _ h => h) (Or.inl ⟨by rfl, ?_⟩) ⟨x9, d0⟩ ?_
      rotate_left
      · intro w' hS
        obtain ⟨s1, s2⟩ := hS
        go_simp
        rfl
      refine Late.takeC (i := 9) (v := ?_) rfl (by kernel_rfl) (by kernel_rfl) (by kernel_rfl) (by kernel_rfl) (fun _ _ _ h => h) (Or.inl ⟨by rfl, ?_⟩) ⟨x9, d0⟩ ?_
      rotate_left
      · intro w' hS
        obtain ⟨s1, s2⟩ := hS
        go_simp
        rfl
      refine Late.takeC (i := 10) (v := ?_) rfl (by kernel_rfl) (by kernel_rfl) (by kernel_rfl) (by kernel_rfl) (fun _ _ _ h => h) (Or.inl ⟨by rfl, ?_⟩) ⟨x9, d0⟩ ?_
      rotate_left
      · intro w' hS
        obtain ⟨s1, s2⟩ := hS
        go_simp
        rfl
      refine Late.takeC (i := 11) (v := ?_) rfl (by kernel_rfl) (by kernel_rfl) (by kernel_rfl) (by kernel_rfl) (fun _ _ _ h => h) (Or.inl ⟨by rfl, ?_⟩) ⟨x9, d0⟩ ?_
      rotate_left
      · intro w' hS
        obtain ⟨s1, s2⟩ := hS
        go_simp
        rfl
      refine Late.takeC (i := 12) (v := ?_) rfl (by kernel_rfl) (by kernel_rfl) (by kernel_rfl) (by kernel_rfl) (fun _ _ _ h => h) (Or.inl ⟨by rfl, ?_⟩) ⟨x9, d0⟩ ?_
      rotate_left
      · intro w' hS
        obtain ⟨s1, s2⟩ := hS
        go_simp
        rfl
      refine Late.takeC (i := 13) (v := ?_) rfl (by kernel_rfl) (by kernel_rfl) (by kernel_rfl) (by kernel_rfl) (fun _ _ _ h => h) (Or.inl ⟨by rfl, ?_⟩) ⟨x9, d0⟩ ?_
      rotate_left
      · intro w' hS
        obtain ⟨s1, s2⟩ := hS
        go_simp
        rfl
      refine Late.takeC (i := 14) (v := ?_) rfl (by kernel_rfl) (by kernel_rfl) (by kernel_rfl) (by kernel_rfl) (fun _ _ _ h => h) (Or.inl ⟨by rfl, ?_⟩) ⟨x9, d0⟩ ?_
      rotate_left
      · intro w' hS
        obtain ⟨s1, s2⟩ := hS
        go_simp
        rfl
      refine Late.one (i := 15) (by kernel_rfl) rfl (fun K hK => ?_)
      go_simp
      refine hK _ _ (fun _ => ⟨HFA.out _ _ _ _ x9, HFA.out _ _ _ _ d0⟩) ?_
      clear hK K
      refine Late.one (i := 16) (by kernel_rfl) rfl (fun K hK => ?_)
      refine step_append_lies _ (by rfl) _ _ _ (by rfl) 0 5 i0 _ 1 1 Try.underlying35 hi hz0 hz1 hz2 rfl (by omega) (.slice pi m ki) m (List.replicate m (mark0 j)) (by rfl) ((hown.alloc _).drew) ⟨wr.heap.size, 0, none⟩ 1 1 [.int .u8 (IntKind.u8.wrap (IntKind.i64.wrap (((j : Nat) : Int) + 1)))] (by rfl) (by rfl) (World.news_of_block (cs := #[.int .u8 (IntKind.u8.wrap (IntKind.i64.wrap (((j : Nat) : Int) + 1)))]) (t := 5) (fr := (0, 0)) (heap_alloc_new wr _)) (by simp [Value.oneCell']) (by omega) (by unfold maxLen; omega) (by omega) (by omega) (wr.heap.size + 1) (by simp) ?_
      intro gg cap1 wG hown1 hgrow hat hlt
      have far : ∀ {bb oo u}, wr.cell? ⟨bb, oo, none⟩ = some u → some bb ≠ (Value.slice pi m ki).ownBlock → wG.cell? ⟨bb, oo, none⟩ = some u := fun hu hn =>
        (hgrow.cell_far _ (by have := World.block_lt_of_cell? _ _ hu; simp at this ⊢; omega) hn).trans (HFA.out _ _ _ _ hu)
      have e0 : wG.frozen? ⟨ob, j, none⟩ = false := (hgrow.frozen_far _ (by simp; omega) hneob).trans (fz _)
      have x9 := far x9 hnemb
      have d0 := far d0 hneob
      refine hK _ _ (fun _ => ⟨x9, d0⟩) ?_
      clear hK K far
      refine Late.one (i := 17) (by kernel_rfl) rfl (fun K hK => ?_)
      go_simp
      refine hK _ _ (fun _ => ⟨x9, d0⟩) ?_
      clear hK K
      refine Late.one (i := 18) (by kernel_rfl) rfl (fun K hK => ?_)
      go_simp
      refine hK _ _ (fun h => by cases h) ?_
      clear hK K
      refine Late.done (by kernel_rfl) ?_ _
      have hown2 : wG.ownsRow 0 5 1 (.slice (some ⟨gg, 0, none⟩) (m + 1) cap1) (m + 1) (List.replicate (m + 1) (mark0 j)) := by
        rw [List.replicate_succ', ← hmk.out]; rw [← hmk.out] at hown1; exact hown1
      obtain ⟨LI, _, ow5, st5⟩ := Own.grown (Step.refl (· = 100 + 4 * j) LX wr) rfl HIN.out (below_alloc wr (Obj.cells #[.int .u8 (IntKind.u8.wrap (IntKind.i64.wrap (((j : Nat) : Int) + 1)))] 5)).drew hown2 hgrow (by
        rcases hat with h | h
        · exact .inl h.symm
        · right; simp [Value.ownBlock, h])
      have oo5 := HRX.out.outer0.step st5 (by omega)
      obtain ⟨ob2, ko2, hv2, hLo2, _, _, oo6, st6⟩ := Own.set oo5 (j := j) (by simp [HLX.out]; omega) (.slice (some ⟨gg, 0, none⟩) (m + 1) cap1)
      rw [HVQ.out] at hv2
      cases hv2
      have hRI := HRX.out.grow_k0 (i := j) (by rw [HLX.out]; exact hjl) (x := .slice (some ⟨gg, 0, none⟩) (m + 1) cap1) (m := m + 1) ((st5.mono (fun d hd => .inr hd)).trans (st6.mono (fun d hd => .inl hd))) (fun d hd => hd) oo6 (ow5.step st6 (by omega))
      have bI := HB.out.grow0 (i := j) (x := .slice (some ⟨gg, 0, none⟩) (m + 1) cap1) (m := m + 1) (by omega)
      have HF := Lib.hid (And.intro hRI bI)
      clear hRI bI oo5 oo6 st5 st6 ow5 hown2 hown1 hgrow hat hlt x9 d0 e0
      go_wp2_with fail
      go_roundw
      case rel => exact ⟨j + 1, LI, _, by omega, by go_num, HF.out.1, HF.out.2.mono (by omega), by rw [List.length_set]; exact HLX.out⟩
      case measure => simp [intOf]; omega
    · have hR := hRX
      have b := bX
      clear hRX bX hlX hvq
      go_wp2_with fail
      clear x9
      go_loopw [4] (fun i wr => ∃ (j : Nat) (L' : Nat → Nat) (s' : Rm), j ≤ s1.n1.length ∧ i = .int .i64 (j : Int) ∧ Room w0 mb L' wr s' ∧ ApB s' (1048576 + j + 1000000000 + 2) ∧ s'.n1.length = s1.n1.length) (fun i _ => s1.n1.length - (intOf i).toNat)
      case atStart => exact ⟨0, _, s1, by omega, rfl, hR, b.mono (by omega), rfl⟩
      case round =>
        obtain ⟨j, LX, s2, hj, rfl, hRX, bX, hlX⟩ := hrel
        obtain ⟨pq, kq, hvq, _⟩ := ownsRow_shape hRX.outer1.1
        have x9 : wr.cell? ⟨mb, 12, none⟩ = some (.slice pq s2.n1.length kq) := by rw [cell_of_heap hRX.obj, ← hvq]; rfl
        rw [hlX] at x9
        have hlb := bX.l1
        rw [hlX] at hlb
        clear b hR
        by_cases hjl : j < s1.n1.length
        · have hji : j < s2.n1.length := by rw [hlX]; exact hjl
          obtain ⟨ob, ko, hvo, hLo, d0, d1, _, _⟩ := Own.set hRX.outer1 (j := j) (by simpa using hji) (Value.bool true)
          rw [hvq] at hvo
          cases hvo
          have hin := hRX.inner1 j hji
          have hmb := bX.m1 s2.n1[j] (List.getElem_mem hji)
          have hvm : (s2.n1.map (·.1))[j]'(by simpa using hji) = s2.n1[j].1 := by simp
          rw [hvm] at d0
          clear hvm
          obtain ⟨X, hX⟩ : ∃ X, X = s2.n1[j] := ⟨_, rfl⟩
          rw [← hX] at hin hmb d0
          obtain ⟨vi, m⟩ := X
          simp only at hin hmb d0
          obtain ⟨pi, ki, hvi, _⟩ := ownsRow_shape hin.1
          subst hvi
          obtain ⟨i0, hi, hz0, hz1, hz2⟩ := info_parts (Go.Proofs.Ytajaonnpekdklaa.Vr.infoNum1)
          have hnemb : some mb ≠ (Value.slice pi m ki).ownBlock := by
            intro e; have := hin.2 mb e.symm; rw [hRX.objc] at this; omega
          have hneob : some ob ≠ (Value.slice pi m ki).ownBlock := by
            intro e; have := hin.2 ob e.symm; rw [hLo] at this; omega
          have hown := hin.1
          have hbi := bX.mono (Nat.le_refl _)
          have fa : ∀ (bb oo : Nat) (u : Value) (o : Obj), wr.cell? ⟨bb, oo, none⟩ = some u → (wr.alloc o).cell? ⟨bb, oo, none⟩ = some u := fun bb oo u o hu => by rw [World.cell?_alloc_lt _ _ _ (World.block_lt_of_cell? _ _ hu)]; exact hu
          have hlo := World.block_lt_of_cell? _ _ d0
          have fz : ∀ o, (wr.alloc o).frozen? ⟨ob, j, none⟩ = false := fun o => by rw [World.frozen?_alloc_old _ _ _ (Nat.ne_of_lt hlo)]; exact d1
          have HRX := Lib.hid hRX
          have HIN := Lib.hid hin
          have HX := Lib.hid hX
          have HVQ := Lib.hid hvq
          have HLX := Lib.hid hlX
          have HFA := Lib.hid fa
          have HLo := Lib.hid hLo
          have HB := Lib.hid bX
          have hmk := Lib.hid (mark_sp1 j (by omega))
          clear hRX hin hX hvq hlX fa hLo bX hbi
          go_wp2_with fail
          refine Late.region (fun w' => w'.cell? ⟨mb, 12, none⟩ = some (.slice (some ⟨ob, 0, none⟩) s1.n1.length kq) ∧ w'.cell? ⟨ob, j, none⟩ = some (.slice pi m ki)) (fun q => decide (16 < q)) (by kernel_rfl) ?_
          refine Late.takeC (i := 0) (v := ?_) rfl (by kernel_rfl) (by kernel_rfl) (by kernel_rfl) (by kernel_rfl) (fun _ _ _ h => h) (Or.inl ⟨by rfl, ?_⟩) ⟨x9, d0⟩ ?_
          rotate_left
          · intro w' hS
            obtain ⟨s1, s2⟩ := hS
            go_simp
            rfl
          refine Late.takeC (i := 1) (v := ?_) rfl (by kernel_rfl) (by kernel_rfl) (by kernel_rfl) (by kernel_rfl) (fun _ _ _ h => h) (Or.inl ⟨by rfl, ?_⟩) ⟨x9, d0⟩ ?_
          rotate_left
          · intro w' hS
            obtain ⟨s1, s2⟩ := hS
            go_simp
            rfl
          refine Late.takeC (i := 2) (v := ?_) rfl (by kernel_rfl) (by kernel_rfl) (by kernel_rfl) (by kernel_rfl) (fun _ _ _ h => h) (Or.inl ⟨by rfl, ?_⟩) ⟨x9, d0⟩ ?_
          rotate_left
          · intro w' hS
            obtain ⟨s1, s2⟩ := hS
            go_simp
            rfl
          refine Late.takeC (i := 3) (v := ?_) rfl (by kernel_rfl) (by kernel_rfl) (by kernel_rfl) (by kernel_rfl) (fun _ _ _ h => h) (Or.inl ⟨by rfl, ?_⟩) ⟨x9, d0⟩ ?_
          rotate_left
          · intro w' hS
            obtain ⟨s1, s2⟩ := hS
            go_simp
            rfl
          refine Late.takeC (i := 4) (v := ?_) rfl (by kernel_rfl) (by kernel_rfl) (by kernel_rfl) (by kernel_rfl) (fun _ _ _ h => h) (Or.inl ⟨by rfl, ?_⟩) ⟨x9, d0⟩ ?_
          rotate_left
          · intro w' hS
            obtain ⟨s1, s2⟩ := hS
            go_simp
            rfl
          refine Late.takeC (i := 5) (v := ?_) rfl (by kernel_rfl) (by kernel_rfl) (by kernel_rfl) (by kernel_rfl) (fun _ _ _ h => h) (Or.inl ⟨by rfl, ?_⟩) ⟨x9, d0⟩ ?_
          rotate_left
          · intro w' hS
            obtain ⟨s1, s2⟩ := hS
            go_simp
            rfl
          refine Late.takeC (i := 6) (v := ?_) rfl (by kernel_rfl) (by kernel_rfl) (by kernel_rfl) (by kernel_rfl) (fun _ _ _ h => h) (Or.inl ⟨by rfl, ?_⟩) ⟨x9, d0⟩ ?_
          rotate_left
          · intro w' hS
            obtain ⟨s1, s2⟩ := hS
            go_simp
            rfl
          refine Late.takeC (i := 7) (v := ?_) rfl (by kernel_rfl) (by kernel_rfl) (by kernel_rfl) (by kernel_rfl) (fun _ _ _ h => h) (Or.inl ⟨by rfl, ?_⟩) ⟨x9, d0⟩ ?_
          rotate_left
          · intro w' hS
            obtain ⟨s1, s2⟩ := hS
            go_simp
            rfl
          refine Late.takeC (i := 8) (v := ?_) rfl (by kernel_rfl) (by kernel_rfl) (by kernel_rfl) (by kernel_rfl) (fun _ _ _ h => h) (Or.inl ⟨by rfl, ?_⟩) ⟨x9, d0⟩ ?_
          rotate_left
          · intro w' hS
            obtain ⟨s1, s2⟩ := hS
            go_simp
            rfl
          refine Late.takeC (i := 9) (v := ?_) rfl (by kernel_rfl) (by kernel_rfl) (by kernel_rfl) (by kernel_rfl) (fun _ _ _ h => h) (Or.inl ⟨by rfl, ?_⟩) ⟨x9, d0⟩ ?_
          rotate_left
          · intro w' hS
            obtain ⟨s1, s2⟩ := hS
            go_simp
            rfl
          refine Late.takeC (i := 10) (v := ?_) rfl (by kernel_rfl) (by kernel_rfl) (by kernel_rfl) (by kernel_rfl) (fun _ _ _ h => h) (Or.inl ⟨by rfl, ?_⟩) ⟨x9, d0⟩ ?_
          rotate_left
          · intro w' hS
            obtain ⟨s1, s2⟩ := hS
            go_simp
            rfl
          refine Late.takeC (i := 11) (v := ?_) rfl (by kernel_rfl) (by kernel_rfl) (by kernel_rfl) (by kernel_rfl) (fun _ _ _ h => h) (Or.inl ⟨by rfl, ?_⟩) ⟨x9, d0⟩ ?_
          rotate_left
          · intro w' hS
            obtain ⟨s1, s2⟩ := hS
            go_simp
            rfl
          refine Late.takeC (i := 12) (v := ?_) rfl (by kernel_rfl) (by kernel_rfl) (by kernel_rfl) (by kernel_rfl) (fun _ _ _ h => h) (Or.inl ⟨by rfl, ?_⟩) ⟨x9, d0⟩ ?_
          rotate_left
          · intro w' hS
            obtain ⟨s1, s2⟩ := hS
            go_simp
            rfl
          refine Late.takeC (i := 13) (v := ?_) rfl (by kernel_rfl) (by kernel_rfl) (by kernel_rfl) (by kernel_rfl) (fun _ _ _ h => h) (Or.inl ⟨by rfl, ?_⟩) ⟨x9, d0⟩ ?_
          rotate_left
          · intro w' hS
            obtain ⟨s1, s2⟩ := hS
            go_simp
            rfl
          refine Late.takeC (i := 14) (v := ?_) rfl (by kernel_rfl) (by kernel_rfl) (by kernel_rfl) (by kernel_rfl) (fun _ _ _ h => h) (Or.inl ⟨by rfl, ?_⟩) ⟨x9, d0⟩ ?_
          rotate_left
          · intro w' hS
            obtain ⟨s1, s2⟩ := hS
            go_simp
            rfl
          refine Late.one (i := 15) (by kernel_rfl) rfl (fun K hK => ?_)
          go_simp
          refine hK _ _ (fun _ => ⟨HFA.out _ _ _ _ x9, HFA.out _ _ _ _ d0⟩) ?_
          clear hK K
          refine Late.one (i := 16) (by kernel_rfl) rfl (fun K hK => ?_)
          refine step_append_lies _ (by rfl) _ _ _ (by rfl) 0 118 i0 _ 1 2 Try.underlying117 hi hz0 hz1 hz2 rfl (by omega) (.slice pi m ki) m (List.replicate m (mark1 j)) (by rfl) ((hown.alloc _).drew) ⟨wr.heap.size, 0, none⟩ 1 1 [.int .u16 (IntKind.u16.wrap (IntKind.i64.wrap (((j : Nat) : Int) + 1)))] (by rfl) (by rfl) (World.news_of_block (cs := #[.int .u16 (IntKind.u16.wrap (IntKind.i64.wrap (((j : Nat) : Int) + 1)))]) (t := 118) (fr := (0, 0)) (heap_alloc_new wr _)) (by simp [Value.oneCell']) (by omega) (by unfold maxLen; omega) (by omega) (by omega) (wr.heap.size + 1) (by simp) ?_
          intro gg cap1 wG hown1 hgrow hat hlt
          have far : ∀ {bb oo u}, wr.cell? ⟨bb, oo, none⟩ = some u → some bb ≠ (Value.slice pi m ki).ownBlock → wG.cell? ⟨bb, oo, none⟩ = some u := fun hu hn =>
            (hgrow.cell_far _ (by have := World.block_lt_of_cell? _ _ hu; simp at this ⊢; omega) hn).trans (HFA.out _ _ _ _ hu)
          have e0 : wG.frozen? ⟨ob, j, none⟩ = false := (hgrow.frozen_far _ (by simp; omega) hneob).trans (fz _)
          have x9 := far x9 hnemb
          have d0 := far d0 hneob
          refine hK _ _ (fun _ => ⟨x9, d0⟩) ?_
          clear hK K far
          refine Late.one (i := 17) (by kernel_rfl) rfl (fun K hK => ?_)
          go_simp
          refine hK _ _ (fun _ => ⟨x9, d0⟩) ?_
          clear hK K
          refine Late.one (i := 18) (by kernel_rfl) rfl (fun K hK => ?_)
          go_simp
          refine hK _ _ (fun h => by cases h) ?_
          clear hK K
          refine Late.done (by kernel_rfl) ?_ _
          have hown2 : wG.ownsRow 0 118 1 (.slice (some ⟨gg, 0, none⟩) (m + 1) cap1) (m + 1) (List.replicate (m + 1) (mark1 j)) := by
            rw [List.replicate_succ', ← hmk.out]; rw [← hmk.out] at hown1; exact hown1
          obtain ⟨LI, _, ow5, st5⟩ := Own.grown (Step.refl (· = 101 + 4 * j) LX wr) rfl HIN.out (below_alloc wr (Obj.cells #[.int .u16 (IntKind.u16.wrap (IntKind.i64.wrap (((j : Nat) : Int) + 1)))] 118)).drew hown2 hgrow (by
            rcases hat with h | h
            · exact .inl h.symm
            · right; simp [Value.ownBlock, h])
          have oo5 := HRX.out.outer1.step st5 (by omega)
          obtain ⟨ob2, ko2, hv2, hLo2, _, _, oo6, st6⟩ := Own.set oo5 (j := j) (by simp [HLX.out]; omega) (.slice (some ⟨gg, 0, none⟩) (m + 1) cap1)
          rw [HVQ.out] at hv2
          cases hv2
          have hRI := HRX.out.grow_k1 (i := j) (by rw [HLX.out]; exact hjl) (x := .slice (some ⟨gg, 0, none⟩) (m + 1) cap1) (m := m + 1) ((st5.mono (fun d hd => .inr hd)).trans (st6.mono (fun d hd => .inl hd))) (fun d hd => hd) oo6 (ow5.step st6 (by omega))
          have bI := HB.out.grow1 (i := j) (x := .slice (some ⟨gg, 0, none⟩) (m + 1) cap1) (m := m + 1) (by omega)
          have HF := Lib.hid (And.intro hRI bI)
          clear hRI bI oo5 oo6 st5 st6 ow5 hown2 hown1 hgrow hat hlt x9 d0 e0
          go_wp2_with fail
          go_roundw
          case rel => exact ⟨j + 1, LI, _, by omega, by go_num, HF.out.1, HF.out.2.mono (by omega), by rw [List.length_set]; exact HLX.out⟩
          case measure => simp [intOf]; omega
        · have hR := hRX
          have b := bX
          clear hRX bX hlX hvq
          go_wp2_with fail
          clear x9
          go_loopw [5] (fun i wr => ∃ (j : Nat) (L' : Nat → Nat) (s' : Rm), j ≤ s2.n2.length ∧ i = .int .i64 (j : Int) ∧ Room w0 mb L' wr s' ∧ ApB s' (1048576 + j + 2000000000 + 4) ∧ s'.n2.length = s2.n2.length) (fun i _ => s2.n2.length - (intOf i).toNat)
          case atStart => exact ⟨0, _, s2, by omega, rfl, hR, b.mono (by omega), rfl⟩
          case round =>
            obtain ⟨j, LX, s3, hj, rfl, hRX, bX, hlX⟩ := hrel
            obtain ⟨pq, kq, hvq, _⟩ := ownsRow_shape hRX.outer2.1
            have x9 : wr.cell? ⟨mb, 13, none⟩ = some (.slice pq s3.n2.length kq) := by rw [cell_of_heap hRX.obj, ← hvq]; rfl
            rw [hlX] at x9
            have hlb := bX.l2
            rw [hlX] at hlb
            clear b hR
            by_cases hjl : j < s2.n2.length
            · have hji : j < s3.n2.length := by rw [hlX]; exact hjl
              obtain ⟨ob, ko, hvo, hLo, d0, d1, _, _⟩ := Own.set hRX.outer2 (j := j) (by simpa using hji) (Value.bool true)
              rw [hvq] at hvo
              cases hvo
              have hin := hRX.inner2 j hji
              have hmb := bX.m2 s3.n2[j] (List.getElem_mem hji)
              have hvm : (s3.n2.map (·.1))[j]'(by simpa using hji) = s3.n2[j].1 := by simp
              rw [hvm] at d0
              clear hvm
              obtain ⟨X, hX⟩ : ∃ X, X = s3.n2[j] := ⟨_, rfl⟩
              rw [← hX] at hin hmb d0
              obtain ⟨vi, m⟩ := X
              simp only at hin hmb d0
              obtain ⟨pi, ki, hvi, _⟩ := ownsRow_shape hin.1
              subst hvi
              obtain ⟨i0, hi, hz0, hz1, hz2⟩ := info_parts (Go.Proofs.Ytajaonnpekdklaa.Vr.infoNum2)
              have hnemb : some mb ≠ (Value.slice pi m ki).ownBlock := by
                intro e; have := hin.2 mb e.symm; rw [hRX.objc] at this; omega
              have hneob : some ob ≠ (Value.slice pi m ki).ownBlock := by
                intro e; have := hin.2 ob e.symm; rw [hLo] at this; omega
              have hown := hin.1
              have hbi := bX.mono (Nat.le_refl _)
              have fa : ∀ (bb oo : Nat) (u : Value) (o : Obj), wr.cell? ⟨bb, oo, none⟩ = some u → (wr.alloc o).cell? ⟨bb, oo, none⟩ = some u := fun bb oo u o hu => by rw [World.cell?_alloc_lt _ _ _ (World.block_lt_of_cell? _ _ hu)]; exact hu
              have hlo := World.block_lt_of_cell? _ _ d0
              have fz : ∀ o, (wr.alloc o).frozen? ⟨ob, j, none⟩ = false := fun o => by rw [World.frozen?_alloc_old _ _ _ (Nat.ne_of_lt hlo)]; exact d1
              have HRX := Lib.hid hRX
              have HIN := Lib.hid hin
              have HX := Lib.hid hX
              have HVQ := Lib.hid hvq
              have HLX := Lib.hid hlX
              have HFA := Lib.hid fa
              have HLo := Lib.hid hLo
              have HB := Lib.hid bX
              have hmk := Lib.hid (mark_sp2 j (by omega))
              clear hRX hin hX hvq hlX fa hLo bX hbi
              go_wp2_with fail
              refine Late.region (fun w' => w'.cell? ⟨mb, 13, none⟩ = some (.slice (some ⟨ob, 0, none⟩) s2.n2.length kq) ∧ w'.cell? ⟨ob, j, none⟩ = some (.slice pi m ki)) (fun q => decide (16 < q)) (by kernel_rfl) ?_
              refine Late.takeC (i := 0) (v := ?_) rfl (by kernel_rfl) (by kernel_rfl) (by kernel_rfl) (by kernel_rfl) (fun _ _ _ h => h) (Or.inl ⟨by rfl, ?_⟩) ⟨x9, d0⟩ ?_
              rotate_left
              · intro w' hS
                obtain ⟨s1, s2⟩ := hS
                go_simp
                rfl
              refine Late.takeC (i := 1) (v := ?_) rfl (by kernel_rfl) (by kernel_rfl) (by kernel_rfl) (by kernel_rfl) (fun _ _ _ h => h) (Or.inl ⟨by rfl, ?_⟩) ⟨x9, d0⟩ ?_
              rotate_left
              · intro w' hS
                obtain ⟨s1, s2⟩ := hS
                go_simp
                rfl
              refine Late.takeC (i := 2) (v := ?_) rfl (by kernel_rfl) (by kernel_rfl) (by kernel_rfl) (by kernel_rfl) (fun _ _ _ h => h) (Or.inl ⟨by rfl, ?_⟩) ⟨x9, d0⟩ ?_
              rotate_left
              · intro w' hS
                obtain ⟨s1, s2⟩ := hS
                go_simp
                rfl
              refine Late.takeC (i := 3) (v := ?_) rfl (by kernel_rfl) (by kernel_rfl) (by kernel_rfl) (by kernel_rfl) (fun _ _ _ h => h) (Or.inl ⟨by rfl, ?_⟩) ⟨x9, d0⟩ ?_
              rotate_left
              · intro w' hS
                obtain ⟨s1, s2⟩ := hS
                go_simp
                rfl
              refine Late.takeC (i := 4) (v := ?_) rfl (by kernel_rfl) (by kernel_rfl) (by kernel_rfl) (by kernel_rfl) (fun _ _ _ h => h) (Or.inl ⟨by rfl, ?_⟩) ⟨x9, d0⟩ ?_
              rotate_left
              · intro w' hS
                obtain ⟨s1, s2⟩ := hS
                go_simp
                rfl
              refine Late.takeC (i := 5) (v := ?_) rfl (by kernel_rfl) (by kernel_rfl) (by kernel_rfl) (by kernel_rfl) (fun _ _ _ h => h) (Or.inl ⟨by rfl, ?_⟩) ⟨x9, d0⟩ ?_
              rotate_left
              · intro w' hS
                obtain ⟨s1, s2⟩ := hS
                go_simp
                rfl
              refine Late.takeC (i := 6) (v := ?_) rfl (by kernel_rfl) (by kernel_rfl) (by kernel_rfl) (by kernel_rfl) (fun _ _ _ h => h) (Or.inl ⟨by rfl, ?_⟩) ⟨x9, d0⟩ ?_
              rotate_left
              · intro w' hS
                obtain ⟨s1, s2⟩ := hS
                go_simp
                rfl
              refine Late.takeC (i := 7) (v := ?_) rfl (by kernel_rfl) (by kernel_rfl) (by kernel_rfl) (by kernel_rfl) (fun _ _ _ h => h) (Or.inl ⟨by rfl, ?_⟩) ⟨x9, d0⟩ ?_
              rotate_left
              · intro w' hS
                obtain ⟨s1, s2⟩ := hS
                go_simp
                rfl
              refine Late.takeC (i := 8) (v := ?_) rfl (by kernel_rfl) (by kernel_rfl) (by kernel_rfl) (by kernel_rfl) (fun _ _ _ h => h) (Or.inl ⟨by rfl, ?_⟩) ⟨x9, d0⟩ ?_
              rotate_left
              · intro w' hS
                obtain ⟨s1, s2⟩ := hS
                go_simp
                rfl
              refine Late.takeC (i := 9) (v := ?_) rfl (by kernel_rfl) (by kernel_rfl) (by kernel_rfl) (by kernel_rfl) (fun _ _ _ h => h) (Or.inl ⟨by rfl, ?_⟩) ⟨x9, d0⟩ ?_
              rotate_left
              · intro w' hS
                obtain ⟨s1, s2⟩ := hS
                go_simp
                rfl
              refine Late.takeC (i := 10) (v := ?_) rfl (by kernel_rfl) (by kernel_rfl) (by kernel_rfl) (by kernel_rfl) (fun _ _ _ h => h) (Or.inl ⟨by rfl, ?_⟩) ⟨x9, d0⟩ ?_
              rotate_left
              · intro w' hS
                obtain ⟨s1, s2⟩ := hS
                go_simp
                rfl
              refine Late.takeC (i := 11) (v := ?_) rfl (by kernel_rfl) (by kernel_rfl) (by kernel_rfl) (by kernel_rfl) (fun _ _ _ h => h) (Or.inl ⟨by rfl, ?_⟩) ⟨x9, d0⟩ ?_
              rotate_left
              · intro w' hS
                obtain ⟨s1, s2⟩ := hS
                go_simp
                rfl
              refine Late.takeC (i := 12) (v := ?_) rfl (by kernel_rfl) (by kernel_rfl) (by kernel_rfl) (by kernel_rfl) (fun _ _ _ h => h) (Or.inl ⟨by rfl, ?_⟩) ⟨x9, d0⟩ ?_
              rotate_left
              · intro w' hS
                obtain ⟨s1, s2⟩ := hS
                go_simp
                rfl
              refine Late.takeC (i := 13) (v := ?_) rfl (by kernel_rfl) (by kernel_rfl) (by kernel_rfl) (by kernel_rfl) (fun _ _ _ h => h) (Or.inl ⟨by rfl, ?_⟩) ⟨x9, d0⟩ ?_
              rotate_left
              · intro w' hS
                obtain ⟨s1, s2⟩ := hS
                go_simp
                rfl
              refine Late.takeC (i := 14) (v := ?_) rfl (by kernel_rfl) (by kernel_rfl) (by kernel_rfl) (by kernel_rfl) (fun _ _ _ h => h) (Or.inl ⟨by rfl, ?_⟩) ⟨x9, d0⟩ ?_
              rotate_left
              · intro w' hS
                obtain ⟨s1, s2⟩ := hS
                go_simp
                rfl
              refine Late.one (i := 15) (by kernel_rfl) rfl (fun K hK => ?_)
              go_simp
              refine hK _ _ (fun _ => ⟨HFA.out _ _ _ _ x9, HFA.out _ _ _ _ d0⟩) ?_
              clear hK K
              refine Late.one (i := 16) (by kernel_rfl) rfl (fun K hK => ?_)
              refine step_append_lies _ (by rfl) _ _ _ (by rfl) 0 120 i0 _ 1 4 Try.underlying119 hi hz0 hz1 hz2 rfl (by omega) (.slice pi m ki) m (List.replicate m (mark2 j)) (by rfl) ((hown.alloc _).drew) ⟨wr.heap.size, 0, none⟩ 1 1 [.int .u32 (IntKind.u32.wrap (IntKind.i64.wrap (((j : Nat) : Int) + 1)))] (by rfl) (by rfl) (World.news_of_block (cs := #[.int .u32 (IntKind.u32.wrap (IntKind.i64.wrap (((j : Nat) : Int) + 1)))]) (t := 120) (fr := (0, 0)) (heap_alloc_new wr _)) (by simp [Value.oneCell']) (by omega) (by unfold maxLen; omega) (by omega) (by omega) (wr.heap.size + 1) (by simp) ?_
              intro gg cap1 wG hown1 hgrow hat hlt
              have far : ∀ {bb oo u}, wr.cell? ⟨bb, oo, none⟩ = some u → some bb ≠ (Value.slice pi m ki).ownBlock → wG.cell? ⟨bb, oo, none⟩ = some u := fun hu hn =>
                (hgrow.cell_far _ (by have := World.block_lt_of_cell? _ _ hu; simp at this ⊢; omega) hn).trans (HFA.out _ _ _ _ hu)
              have e0 : wG.frozen? ⟨ob, j, none⟩ = false := (hgrow.frozen_far _ (by simp; omega) hneob).trans (fz _)
              have x9 := far x9 hnemb
              have d0 := far d0 hneob
              refine hK _ _ (fun _ => ⟨x9, d0⟩) ?_
              clear hK K far
              refine Late.one (i := 17) (by kernel_rfl) rfl (fun K hK => ?_)
              go_simp
              refine hK _ _ (fun _ => ⟨x9, d0⟩) ?_
              clear hK K
              refine Late.one (i := 18) (by kernel_rfl) rfl (fun K hK => ?_)
              go_simp
              refine hK _ _ (fun h => by cases h) ?_
              clear hK K
              refine Late.done (by kernel_rfl) ?_ _
              have hown2 : wG.ownsRow 0 120 1 (.slice (some ⟨gg, 0, none⟩) (m + 1) cap1) (m + 1) (List.replicate (m + 1) (mark2 j)) := by
                rw [List.replicate_succ', ← hmk.out]; rw [← hmk.out] at hown1; exact hown1
              obtain ⟨LI, _, ow5, st5⟩ := Own.grown (Step.refl (· = 102 + 4 * j) LX wr) rfl HIN.out (below_alloc wr (Obj.cells #[.int .u32 (IntKind.u32.wrap (IntKind.i64.wrap (((j : Nat) : Int) + 1)))] 120)).drew hown2 hgrow (by
                rcases hat with h | h
                · exact .inl h.symm
                · right; simp [Value.ownBlock, h])
              have oo5 := HRX.out.outer2.step st5 (by omega)
              obtain ⟨ob2, ko2, hv2, hLo2, _, _, oo6, st6⟩ := Own.set oo5 (j := j) (by simp [HLX.out]; omega) (.slice (some ⟨gg, 0, none⟩) (m + 1) cap1)
              rw [HVQ.out] at hv2
              cases hv2
              have hRI := HRX.out.grow_k2 (i := j) (by rw [HLX.out]; exact hjl) (x := .slice (some ⟨gg, 0, none⟩) (m + 1) cap1) (m := m + 1) ((st5.mono (fun d hd => .inr hd)).trans (st6.mono (fun d hd => .inl hd))) (fun d hd => hd) oo6 (ow5.step st6 (by omega))
              have bI := HB.out.grow2 (i := j) (x := .slice (some ⟨gg, 0, none⟩) (m + 1) cap1) (m := m + 1) (by omega)
              have HF := Lib.hid (And.intro hRI bI)
              clear hRI bI oo5 oo6 st5 st6 ow5 hown2 hown1 hgrow hat hlt x9 d0 e0
              go_wp2_with fail
              go_roundw
              case rel => exact ⟨j + 1, LI, _, by omega, by go_num, HF.out.1, HF.out.2.mono (by omega), by rw [List.length_set]; exact HLX.out⟩
              case measure => simp [intOf]; omega
            · have hR := hRX
              have b := bX
              clear hRX bX hlX hvq
              go_wp2_with fail
              clear x9
              go_loopw [6] (fun i wr => ∃ (j : Nat) (L' : Nat → Nat) (s' : Rm), j ≤ s3.n3.length ∧ i = .int .i64 (j : Int) ∧ Room w0 mb L' wr s' ∧ ApB s' (1048576 + j + 3000000000 + 6) ∧ s'.n3.length = s3.n3.length) (fun i _ => s3.n3.length - (intOf i).toNat)
              case atStart => exact ⟨0, _, s3, by omega, rfl, hR, b.mono (by omega), rfl⟩
              case round =>
                obtain ⟨j, LX, s4, hj, rfl, hRX, bX, hlX⟩ := hrel
                obtain ⟨pq, kq, hvq, _⟩ := ownsRow_shape hRX.outer3.1
                have x9 : wr.cell? ⟨mb, 14, none⟩ = some (.slice pq s4.n3.length kq) := by rw [cell_of_heap hRX.obj, ← hvq]; rfl
                rw [hlX] at x9
                have hlb := bX.l3
                rw [hlX] at hlb
                clear b hR
                by_cases hjl : j < s3.n3.length
                · have hji : j < s4.n3.length := by rw [hlX]; exact hjl
                  obtain ⟨ob, ko, hvo, hLo, d0, d1, _, _⟩ := Own.set hRX.outer3 (j := j) (by simpa using hji) (Value.bool true)
                  rw [hvq] at hvo
                  cases hvo
                  have hin := hRX.inner3 j hji
                  have hmb := bX.m3 s4.n3[j] (List.getElem_mem hji)
                  have hvm : (s4.n3.map (·.1))[j]'(by simpa using hji) = s4.n3[j].1 := by simp
                  rw [hvm] at d0
                  clear hvm
                  obtain ⟨X, hX⟩ : ∃ X, X = s4.n3[j] := ⟨_, rfl⟩
                  rw [← hX] at hin hmb d0
                  obtain ⟨vi, m⟩ := X
                  simp only at hin hmb d0
                  obtain ⟨pi, ki, hvi, _⟩ := ownsRow_shape hin.1
                  subst hvi
                  obtain ⟨i0, hi, hz0, hz1, hz2⟩ := info_parts infoNum3
                  have hnemb : some mb ≠ (Value.slice pi m ki).ownBlock := by
                    intro e; have := hin.2 mb e.symm; rw [hRX.objc] at this; omega
                  have hneob : some ob ≠ (Value.slice pi m ki).ownBlock := by
                    intro e; have := hin.2 ob e.symm; rw [hLo] at this; omega
                  have hown := hin.1
                  have hbi := bX.mono (Nat.le_refl _)
                  have fa : ∀ (bb oo : Nat) (u : Value) (o : Obj), wr.cell? ⟨bb, oo, none⟩ = some u → (wr.alloc o).cell? ⟨bb, oo, none⟩ = some u := fun bb oo u o hu => by rw [World.cell?_alloc_lt _ _ _ (World.block_lt_of_cell? _ _ hu)]; exact hu
                  have hlo := World.block_lt_of_cell? _ _ d0
                  have fz : ∀ o, (wr.alloc o).frozen? ⟨ob, j, none⟩ = false := fun o => by rw [World.frozen?_alloc_old _ _ _ (Nat.ne_of_lt hlo)]; exact d1
                  have HRX := Lib.hid hRX
                  have HIN := Lib.hid hin
                  have HX := Lib.hid hX
                  have HVQ := Lib.hid hvq
                  have HLX := Lib.hid hlX
                  have HFA := Lib.hid fa
                  have HLo := Lib.hid hLo
                  have HB := Lib.hid bX
                  have hmk := Lib.hid (mark_sp3 j (by omega))
                  clear hRX hin hX hvq hlX fa hLo bX hbi
                  go_wp2_with fail
                  refine Late.region (fun w' => w'.cell? ⟨mb, 14, none⟩ = some (.slice (some ⟨ob, 0, none⟩) s3.n3.length kq) ∧ w'.cell? ⟨ob, j, none⟩ = some (.slice pi m ki)) (fun q => decide (16 < q)) (by kernel_rfl) ?_
                  refine Late.takeC (i := 0) (v := ?_) rfl (by kernel_rfl) (by kernel_rfl) (by kernel_rfl) (by kernel_rfl) (fun _ _ _ h => h) (Or.inl ⟨by rfl, ?_⟩) ⟨x9, d0⟩ ?_
                  rotate_left
                  · intro w' hS
                    obtain ⟨s1, s2⟩ := hS
                    go_simp
                    rfl
                  refine Late.takeC (i := 1) (v := ?_) rfl (by kernel_rfl) (by kernel_rfl) (by kernel_rfl) (by kernel_rfl) (fun _ _ _ h => h) (Or.inl ⟨by rfl, ?_⟩) ⟨x9, d0⟩ ?_
                  rotate_left
                  · intro w' hS
                    obtain ⟨s1, s2⟩ := hS
                    go_simp
                    rfl
                  refine Late.takeC (i := 2) (v := ?_) rfl (by kernel_rfl) (by kernel_rfl) (by kernel_rfl) (by kernel_rfl) (fun _ _ _ h => h) (Or.inl ⟨by rfl, ?_⟩) ⟨x9, d0⟩ ?_
                  rotate_left
                  · intro w' hS
                    obtain ⟨s1, s2⟩ := hS
                    go_simp
                    rfl
                  refine Late.takeC (i := 3) (v := ?_) rfl (by kernel_rfl) (by kernel_rfl) (by kernel_rfl) (by kernel_rfl) (fun _ _ _ h => h) (Or.inl ⟨by rfl, ?_⟩) ⟨x9, d0⟩ ?_
                  rotate_left
                  · intro w' hS
                    obtain ⟨s1, s2⟩ := hS
                    go_simp
                    rfl
                  refine Late.takeC (i := 4) (v := ?_) rfl (by kernel_rfl) (by kernel_rfl) (by kernel_rfl) (by kernel_rfl) (fun _ _ _ h => h) (Or.inl ⟨by rfl, ?_⟩) ⟨x9, d0⟩ ?_
                  rotate_left
                  · intro w' hS
                    obtain ⟨s1, s2⟩ := hS
                    go_simp
                    rfl
                  refine Late.takeC (i := 5) (v := ?_) rfl (by kernel_rfl) (by kernel_rfl) (by kernel_rfl) (by kernel_rfl) (fun _ _ _ h => h) (Or.inl ⟨by rfl, ?_⟩) ⟨x9, d0⟩ ?_
                  rotate_left
                  · intro w' hS
                    obtain ⟨s1, s2⟩ := hS
                    go_simp
                    rfl
                  refine Late.takeC (i := 6) (v := ?_) rfl (by kernel_rfl) (by kernel_rfl) (by kernel_rfl) (by kernel_rfl) (fun _ _ _ h => h) (Or.inl ⟨by rfl, ?_⟩) ⟨x9, d0⟩ ?_
                  rotate_left
                  · intro w' hS
                    obtain ⟨s1, s2⟩ := hS
                    go_simp
                    rfl
                  refine Late.takeC (i := 7) (v := ?_) rfl (by kernel_rfl) (by kernel_rfl) (by kernel_rfl) (by kernel_rfl) (fun _ _ _ h => h) (Or.inl ⟨by rfl, ?_⟩) ⟨x9, d0⟩ ?_
                  rotate_left
                  · intro w' hS
                    obtain ⟨s1, s2⟩ := hS
                    go_simp
                    rfl
                  refine Late.takeC (i := 8) (v := ?_) rfl (by kernel_rfl) (by kernel_rfl) (by kernel_rfl) (by kernel_rfl) (fun _ _ _ h => h) (Or.inl ⟨by rfl, ?_⟩) ⟨x9, d0⟩ ?_
                  rotate_left
                  · intro w' hS
                    obtain ⟨s1, s2⟩ := hS
                    go_simp
                    rfl
                  refine Late.takeC (i := 9) (v := ?_) rfl (by kernel_rfl) (by kernel_rfl) (by kernel_rfl) (by kernel_rfl) (fun _ _ _ h => h) (Or.inl ⟨by rfl, ?_⟩) ⟨x9, d0⟩ ?_
                  rotate_left
                  · intro w' hS
                    obtain ⟨s1, s2⟩ := hS
                    go_simp
                    rfl
                  refine Late.takeC (i := 10) (v := ?_) rfl (by kernel_rfl) (by kernel_rfl) (by kernel_rfl) (by kernel_rfl) (fun _ _ _ h => h) (Or.inl ⟨by rfl, ?_⟩) ⟨x9, d0⟩ ?_
                  rotate_left
                  · intro w' hS
                    obtain ⟨s1, s2⟩ := hS
                    go_simp
                    rfl
                  refine Late.takeC (i := 11) (v := ?_) rfl (by kernel_rfl) (by kernel_rfl) (by kernel_rfl) (by kernel_rfl) (fun _ _ _ h => h) (Or.inl ⟨by rfl, ?_⟩) ⟨x9, d0⟩ ?_
                  rotate_left
                  · intro w' hS
                    obtain ⟨s1, s2⟩ := hS
                    go_simp
                    rfl
                  refine Late.takeC (i := 12) (v := ?_) rfl (by kernel_rfl) (by kernel_rfl) (by kernel_rfl) (by kernel_rfl) (fun _ _ _ h => h) (Or.inl ⟨by rfl, ?_⟩) ⟨x9, d0⟩ ?_
                  rotate_left
                  · intro w' hS
                    obtain ⟨s1, s2⟩ := hS
                    go_simp
                    rfl
                  refine Late.takeC (i := 13) (v := ?_) rfl (by kernel_rfl) (by kernel_rfl) (by kernel_rfl) (by kernel_rfl) (fun _ _ _ h => h) (Or.inl ⟨by rfl, ?_⟩) ⟨x9, d0⟩ ?_
                  rotate_left
                  · intro w' hS
                    obtain ⟨s1, s2⟩ := hS
                    go_simp
                    rfl
                  refine Late.takeC (i := 14) (v := ?_) rfl (by kernel_rfl) (by kernel_rfl) (by kernel_rfl) (by kernel_rfl) (fun _ _ _ h => h) (Or.inl ⟨by rfl, ?_⟩) ⟨x9, d0⟩ ?_
                  rotate_left
                  · intro w' hS
                    obtain ⟨s1, s2⟩ := hS
                    go_simp
                    rfl
                  refine Late.one (i := 15) (by kernel_rfl) rfl (fun K hK => ?_)
                  go_simp
                  refine hK _ _ (fun _ => ⟨HFA.out _ _ _ _ x9, HFA.out _ _ _ _ d0⟩) ?_
                  clear hK K
                  refine Late.one (i := 16) (by kernel_rfl) rfl (fun K hK => ?_)
                  refine step_append_lies _ (by rfl) _ _ _ (by rfl) 0 34 i0 _ 1 8 Try.underlying121 hi hz0 hz1 hz2 rfl (by omega) (.slice pi m ki) m (List.replicate m (mark3 j)) (by rfl) ((hown.alloc _).drew) ⟨wr.heap.size, 0, none⟩ 1 1 [.int .u64 (IntKind.u64.wrap (IntKind.i64.wrap (((j : Nat) : Int) + 1)))] (by rfl) (by rfl) (World.news_of_block (cs := #[.int .u64 (IntKind.u64.wrap (IntKind.i64.wrap (((j : Nat) : Int) + 1)))]) (t := 34) (fr := (0, 0)) (heap_alloc_new wr _)) (by simp [Value.oneCell']) (by omega) (by unfold maxLen; omega) (by omega) (by omega) (wr.heap.size + 1) (by simp) ?_
                  intro gg cap1 wG hown1 hgrow hat hlt
                  have far : ∀ {bb oo u}, wr.cell? ⟨bb, oo, none⟩ = some u → some bb ≠ (Value.slice pi m ki).ownBlock → wG.cell? ⟨bb, oo, none⟩ = some u := fun hu hn =>
                    (hgrow.cell_far _ (by have := World.block_lt_of_cell? _ _ hu; simp at this ⊢; omega) hn).trans (HFA.out _ _ _ _ hu)
                  have e0 : wG.frozen? ⟨ob, j, none⟩ = false := (hgrow.frozen_far _ (by simp; omega) hneob).trans (fz _)
                  have x9 := far x9 hnemb
                  have d0 := far d0 hneob
                  refine hK _ _ (fun _ => ⟨x9, d0⟩) ?_
                  clear hK K far
                  refine Late.one (i := 17) (by kernel_rfl) rfl (fun K hK => ?_)
                  go_simp
                  refine hK _ _ (fun _ => ⟨x9, d0⟩) ?_
                  clear hK K
                  refine Late.one (i := 18) (by kernel_rfl) rfl (fun K hK => ?_)
                  go_simp
                  refine hK _ _ (fun h => by cases h) ?_
                  clear hK K
                  refine Late.done (by kernel_rfl) ?_ _
                  have hown2 : wG.ownsRow 0 34 1 (.slice (some ⟨gg, 0, none⟩) (m + 1) cap1) (m + 1) (List.replicate (m + 1) (mark3 j)) := by
                    rw [List.replicate_succ', ← hmk.out]; rw [← hmk.out] at hown1; exact hown1
                  obtain ⟨LI, _, ow5, st5⟩ := Own.grown (Step.refl (· = 103 + 4 * j) LX wr) rfl HIN.out (below_alloc wr (Obj.cells #[.int .u64 (IntKind.u64.wrap (IntKind.i64.wrap (((j : Nat) : Int) + 1)))] 34)).drew hown2 hgrow (by
                    rcases hat with h | h
                    · exact .inl h.symm
                    · right; simp [Value.ownBlock, h])
                  have oo5 := HRX.out.outer3.step st5 (by omega)
                  obtain ⟨ob2, ko2, hv2, hLo2, _, _, oo6, st6⟩ := Own.set oo5 (j := j) (by simp [HLX.out]; omega) (.slice (some ⟨gg, 0, none⟩) (m + 1) cap1)
                  rw [HVQ.out] at hv2
                  cases hv2
                  have hRI := HRX.out.grow_k3 (i := j) (by rw [HLX.out]; exact hjl) (x := .slice (some ⟨gg, 0, none⟩) (m + 1) cap1) (m := m + 1) ((st5.mono (fun d hd => .inr hd)).trans (st6.mono (fun d hd => .inl hd))) (fun d hd => hd) oo6 (ow5.step st6 (by omega))
                  have bI := HB.out.grow3 (i := j) (x := .slice (some ⟨gg, 0, none⟩) (m + 1) cap1) (m := m + 1) (by omega)
                  have HF := Lib.hid (And.intro hRI bI)
                  clear hRI bI oo5 oo6 st5 st6 ow5 hown2 hown1 hgrow hat hlt x9 d0 e0
                  go_wp2_with fail
                  go_roundw
                  case rel => exact ⟨j + 1, LI, _, by omega, by go_num, HF.out.1, HF.out.2.mono (by omega), by rw [List.length_set]; exact HLX.out⟩
                  case measure => simp [intOf]; omega
                · have hR := hRX
                  have b := bX
                  clear hRX bX hlX hvq
                  go_wp2_with fail
                  clear x9
                  obtain ⟨pq, kq, hvq, _⟩ := ownsRow_shape hR.outer0.1
                  have x9 : wr.cell? ⟨mb, 11, none⟩ = some (.slice pq s4.n0.length kq) := by rw [cell_of_heap hR.obj, ← hvq]; rfl
                  have hlb := b.l0
                  have HVQ := Lib.hid hvq
                  have HRC := Lib.hid hR
                  have HBC := Lib.hid b
                  clear hvq hR b
                  go_wp2_with fail
                  go_loop [7, 8] (fun i _ => ∃ j : Nat, j ≤ s4.n0.length ∧ i = .int .i64 (j : Int)) (fun i _ => s4.n0.length - (intOf i).toNat)
                  case atStart => exact ⟨0, by omega, rfl⟩
                  case round =>
                    obtain ⟨j, hj, rfl⟩ := hrel
                    by_cases hjl : j < s4.n0.length
                    · obtain ⟨ob, ko, hvo, hLo, d0, d1, _, _⟩ := Own.set HRC.out.outer0 (j := j) (by simpa using hjl) (Value.bool true)
                      rw [HVQ.out] at hvo
                      cases hvo
                      have hin := HRC.out.inner0 j hjl
                      have hvm : (s4.n0.map (·.1))[j]'(by simpa using hjl) = s4.n0[j].1 := by simp
                      rw [hvm] at d0
                      clear hvm d1 hLo
                      obtain ⟨X, hX⟩ : ∃ X, X = s4.n0[j] := ⟨_, rfl⟩
                      rw [← hX] at hin d0
                      clear hX
                      obtain ⟨vi, m⟩ := X
                      simp only at hin d0
                      obtain ⟨pi, ki, hvi, hk1, hk2, _, hcells⟩ := ownsRow_shape hin.1
                      subst hvi
                      unfold maxLen at hk2
                      rw [← mark_so0 j (by omega)] at hcells
                      have HC := Lib.hid hcells
                      clear hcells hin
                      go_wp2_with fail
                      go_loop [8] (fun i => ∃ q : Nat, q ≤ m ∧ i = .int .i64 (q : Int)) (fun i => m - (intOf i).toNat)
                      case atStart => exact ⟨0, by omega, rfl⟩
                      case round =>
                        obtain ⟨q, hq, rfl⟩ := hrel
                        by_cases hql : q < m
                        · obtain ⟨b1, rfl, _, e1⟩ := HC.out q _ (by simp [hql]; rfl)
                          go_wp2_with fail
                          go_round
                          case rel => exact ⟨q + 1, by omega, by go_num⟩
                          case measure => simp [intOf]; omega
                        · go_wp2_with fail
                          go_round
                          case rel => exact ⟨j + 1, by omega, by go_num⟩
                          case measure => simp [intOf]; omega
                    · have hR := HRC.out
                      have b := HBC.out
                      clear HRC HBC HVQ
                      go_wp2_with fail
                      obtain ⟨pq, kq, hvq, _⟩ := ownsRow_shape hR.outer1.1
                      have x9 : wr.cell? ⟨mb, 12, none⟩ = some (.slice pq s4.n1.length kq) := by rw [cell_of_heap hR.obj, ← hvq]; rfl
                      have hlb := b.l1
                      have HVQ := Lib.hid hvq
                      have HRC := Lib.hid hR
                      have HBC := Lib.hid b
                      clear hvq hR b
                      go_wp2_with fail
                      go_loop [9, 10] (fun i _ => ∃ j : Nat, j ≤ s4.n1.length ∧ i = .int .i64 (j : Int)) (fun i _ => s4.n1.length - (intOf i).toNat)
                      case atStart => exact ⟨0, by omega, rfl⟩
                      case round =>
                        obtain ⟨j, hj, rfl⟩ := hrel
                        by_cases hjl : j < s4.n1.length
                        · obtain ⟨ob, ko, hvo, hLo, d0, d1, _, _⟩ := Own.set HRC.out.outer1 (j := j) (by simpa using hjl) (Value.bool true)
                          rw [HVQ.out] at hvo
                          cases hvo
                          have hin := HRC.out.inner1 j hjl
                          have hvm : (s4.n1.map (·.1))[j]'(by simpa using hjl) = s4.n1[j].1 := by simp
                          rw [hvm] at d0
                          clear hvm d1 hLo
                          obtain ⟨X, hX⟩ : ∃ X, X = s4.n1[j] := ⟨_, rfl⟩
                          rw [← hX] at hin d0
                          clear hX
                          obtain ⟨vi, m⟩ := X
                          simp only at hin d0
                          obtain ⟨pi, ki, hvi, hk1, hk2, _, hcells⟩ := ownsRow_shape hin.1
                          subst hvi
                          unfold maxLen at hk2
                          rw [← mark_so1 j (by omega)] at hcells
                          have HC := Lib.hid hcells
                          clear hcells hin
                          go_wp2_with fail
                          go_loop [10] (fun i => ∃ q : Nat, q ≤ m ∧ i = .int .i64 (q : Int)) (fun i => m - (intOf i).toNat)
                          case atStart => exact ⟨0, by omega, rfl⟩
                          case round =>
                            obtain ⟨q, hq, rfl⟩ := hrel
                            by_cases hql : q < m
                            · obtain ⟨b1, rfl, _, e1⟩ := HC.out q _ (by simp [hql]; rfl)
                              go_wp2_with fail
                              go_round
                              case rel => exact ⟨q + 1, by omega, by go_num⟩
                              case measure => simp [intOf]; omega
                            · go_wp2_with fail
                              go_round
                              case rel => exact ⟨j + 1, by omega, by go_num⟩
                              case measure => simp [intOf]; omega
                        · have hR := HRC.out
                          have b := HBC.out
                          clear HRC HBC HVQ
                          go_wp2_with fail
                          obtain ⟨pq, kq, hvq, _⟩ := ownsRow_shape hR.outer2.1
                          have x9 : wr.cell? ⟨mb, 13, none⟩ = some (.slice pq s4.n2.length kq) := by rw [cell_of_heap hR.obj, ← hvq]; rfl
                          have hlb := b.l2
                          have HVQ := Lib.hid hvq
                          have HRC := Lib.hid hR
                          have HBC := Lib.hid b
                          clear hvq hR b
                          go_wp2_with fail
                          go_loop [11, 12] (fun i _ => ∃ j : Nat, j ≤ s4.n2.length ∧ i = .int .i64 (j : Int)) (fun i _ => s4.n2.length - (intOf i).toNat)
                          case atStart => exact ⟨0, by omega, rfl⟩
                          case round =>
                            obtain ⟨j, hj, rfl⟩ := hrel
                            by_cases hjl : j < s4.n2.length
                            · obtain ⟨ob, ko, hvo, hLo, d0, d1, _, _⟩ := Own.set HRC.out.outer2 (j := j) (by simpa using hjl) (Value.bool true)
                              rw [HVQ.out] at hvo
                              cases hvo
                              have hin := HRC.out.inner2 j hjl
                              have hvm : (s4.n2.map (·.1))[j]'(by simpa using hjl) = s4.n2[j].1 := by simp
                              rw [hvm] at d0
                              clear hvm d1 hLo
                              obtain ⟨X, hX⟩ : ∃ X, X = s4.n2[j] := ⟨_, rfl⟩
                              rw [← hX] at hin d0
                              clear hX
                              obtain ⟨vi, m⟩ := X
                              simp only at hin d0
                              obtain ⟨pi, ki, hvi, hk1, hk2, _, hcells⟩ := ownsRow_shape hin.1
                              subst hvi
                              unfold maxLen at hk2
                              rw [← mark_so2 j (by omega)] at hcells
                              have HC := Lib.hid hcells
                              clear hcells hin
                              go_wp2_with fail
                              go_loop [12] (fun i => ∃ q : Nat, q ≤ m ∧ i = .int .i64 (q : Int)) (fun i => m - (intOf i).toNat)
                              case atStart => exact ⟨0, by omega, rfl⟩
                              case round =>
                                obtain ⟨q, hq, rfl⟩ := hrel
                                by_cases hql : q < m
                                · obtain ⟨b1, rfl, _, e1⟩ := HC.out q _ (by simp [hql]; rfl)
                                  go_wp2_with fail
                                  go_round
                                  case rel => exact ⟨q + 1, by omega, by go_num⟩
                                  case measure => simp [intOf]; omega
                                · go_wp2_with fail
                                  go_round
                                  case rel => exact ⟨j + 1, by omega, by go_num⟩
                                  case measure => simp [intOf]; omega
                            · have hR := HRC.out
                              have b := HBC.out
                              clear HRC HBC HVQ
                              go_wp2_with fail
                              obtain ⟨pq, kq, hvq, _⟩ := ownsRow_shape hR.outer3.1
                              have x9 : wr.cell? ⟨mb, 14, none⟩ = some (.slice pq s4.n3.length kq) := by rw [cell_of_heap hR.obj, ← hvq]; rfl
                              have hlb := b.l3
                              have HVQ := Lib.hid hvq
                              have HRC := Lib.hid hR
                              have HBC := Lib.hid b
                              clear hvq hR b
                              go_wp2_with fail
                              go_loop [13, 14] (fun i _ => ∃ j : Nat, j ≤ s4.n3.length ∧ i = .int .i64 (j : Int)) (fun i _ => s4.n3.length - (intOf i).toNat)
                              case atStart => exact ⟨0, by omega, rfl⟩
                              case round =>
                                obtain ⟨j, hj, rfl⟩ := hrel
                                by_cases hjl : j < s4.n3.length
                                · obtain ⟨ob, ko, hvo, hLo, d0, d1, _, _⟩ := Own.set HRC.out.outer3 (j := j) (by simpa using hjl) (Value.bool true)
                                  rw [HVQ.out] at hvo
                                  cases hvo
                                  have hin := HRC.out.inner3 j hjl
                                  have hvm : (s4.n3.map (·.1))[j]'(by simpa using hjl) = s4.n3[j].1 := by simp
                                  rw [hvm] at d0
                                  clear hvm d1 hLo
                                  obtain ⟨X, hX⟩ : ∃ X, X = s4.n3[j] := ⟨_, rfl⟩
                                  rw [← hX] at hin d0
                                  clear hX
                                  obtain ⟨vi, m⟩ := X
                                  simp only at hin d0
                                  obtain ⟨pi, ki, hvi, hk1, hk2, _, hcells⟩ := ownsRow_shape hin.1
                                  subst hvi
                                  unfold maxLen at hk2
                                  rw [← mark_so3 j (by omega)] at hcells
                                  have HC := Lib.hid hcells
                                  clear hcells hin
                                  go_wp2_with fail
                                  go_loop [14] (fun i => ∃ q : Nat, q ≤ m ∧ i = .int .i64 (q : Int)) (fun i => m - (intOf i).toNat)
                                  case atStart => exact ⟨0, by omega, rfl⟩
                                  case round =>
                                    obtain ⟨q, hq, rfl⟩ := hrel
                                    by_cases hql : q < m
                                    · obtain ⟨b1, rfl, _, e1⟩ := HC.out q _ (by simp [hql]; rfl)
                                      go_wp2_with fail
                                      go_round
                                      case rel => exact ⟨q + 1, by omega, by go_num⟩
                                      case measure => simp [intOf]; omega
                                    · go_wp2_with fail
                                      go_round
                                      case rel => exact ⟨j + 1, by omega, by go_num⟩
                                      case measure => simp [intOf]; omega
                                · have hR := HRC.out
                                  have b := HBC.out
                                  clear HRC HBC HVQ
                                  go_wp2_with fail
                                  have HF := Lib.hid hR
                                  go_ret
                                  exact ⟨rfl, _, _, HF.out⟩

end Go.Proofs.Ytajaonnpekdklaa.Vr
