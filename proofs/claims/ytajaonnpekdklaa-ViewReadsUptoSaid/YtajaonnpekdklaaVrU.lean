import Derived.Test.YtajaonnpekdklaaVrR
import Derived.Test.YtajaonnpekdklaaVrO0
import Derived.Test.YtajaonnpekdklaaVrO1
import Derived.Test.YtajaonnpekdklaaVrO2
import Derived.Test.YtajaonnpekdklaaVrO3
import Derived.Test.YtajaonnpekdklaaVrJ
import Derived.Deep.CutRange
set_option linter.unusedVariables false
set_option maxRecDepth 100000
/-! room.step (printed by wip/tools/vru.py). -/
namespace Go.Proofs.Ytajaonnpekdklaa.Late
open Go
section
variable {P : Program} {ops : Array Oper} {Q : Exit → Act → World → Prop} {md : Region.Mode} {S : World → Prop} {late : Nat → Bool}
/-- Two that may come up. -/
theorem two {i k : Nat} {oi ok : Oper} {fuel : Nat} {listed : Array Bool} {a : Act} {w : World} (hr : Region.ready md ops listed = [i, k]) (hi : ops[i]? = some oi) (hk : ops[k]? = some ok)
    (h1 : ∀ K : Act → World → Prop, (∀ a' w', (late i = false → S w') → AnyL P md ops Q S late fuel (listed.setIfInBounds i true) a' w' → K a' w') →
      if Region.wanted oi (yielded ops a.tmps) = true then Oper.wp P oi a w K Q else K (a.put oi.dst undef) w)
    (h2 : ∀ K : Act → World → Prop, (∀ a' w', (late k = false → S w') → AnyL P md ops Q S late fuel (listed.setIfInBounds k true) a' w' → K a' w') →
      if Region.wanted ok (yielded ops a.tmps) = true then Oper.wp P ok a w K Q else K (a.put ok.dst undef) w) : AnyL P md ops Q S late (fuel + 1) listed a w := by
  refine ⟨fun h0 => (by rw [h0] at hr; cases hr), fun j hj => ?_⟩
  rw [hr] at hj
  have hj' : j = i ∨ j = k := by simpa using hj
  unfold wpOp
  rcases hj' with rfl | rfl
  · simp only [hi]
    have g := h1 (fun a' w' => (late j = false → S w') ∧ AnyL P md ops Q S late fuel (listed.setIfInBounds j true) a' w') (fun a' w' g1 g2 => ⟨g1, g2⟩)
    split
    · rename_i hw; rw [if_pos hw] at g; exact .inl g
    · rename_i hw; rw [if_neg hw] at g; exact g
  · simp only [hk]
    have g := h2 (fun a' w' => (late j = false → S w') ∧ AnyL P md ops Q S late fuel (listed.setIfInBounds j true) a' w') (fun a' w' g1 g2 => ⟨g1, g2⟩)
    split
    · rename_i hw; rw [if_pos hw] at g; exact .inl g
    · rename_i hw; rw [if_neg hw] at g; exact g
end
end Go.Proofs.Ytajaonnpekdklaa.Late

namespace Go.Proofs.Ytajaonnpekdklaa.Vr
open Go.ChangeShapes Go.WideShapes Go.ChangeAt Go.RowKit Mem Vw

theorem enCells_len (l : List En) : (enCells l).length = l.length * 6 := by
  induction l with
  | nil => rfl
  | cons x r ih => have e : enCells (x :: r) = enCell x ++ enCells r := rfl; rw [e, List.length_append, ih]; simp [enCell]; omega
theorem enCells_get (l : List En) : ∀ {k : Nat} (hk : k < l.length) (j : Nat) (hj : j < 6), (enCells l)[k * 6 + j]? = (enCell l[k])[j]? := by
  induction l with
  | nil => intro k hk; simp at hk
  | cons x r ih =>
    intro k hk j hj
    have e : enCells (x :: r) = enCell x ++ enCells r := rfl
    rw [e]
    cases k with
    | zero => rw [List.getElem?_append_left (by simp [enCell]; omega)]; simp
    | succ k =>
      have := ih (k := k) (by simpa using hk) j hj
      rw [List.getElem?_append_right (by simp [enCell]; omega)]
      have e2 : (k + 1) * 6 + j - (enCell x).length = k * 6 + j := by simp [enCell]; omega
      rw [e2, this]
      simp

/-- The room at the head of a step: the op in block B, the view that is picked in block B + 1. -/
def Head (w0 : World) (mb gb w1 w2 : Nat) (s : Rm) (B : Nat) (kd on a m : Int) (e : En) (w : World) : Prop :=
  ∃ L, Room w0 mb L w s ∧ Ent gb s.N w1 w2 e ∧ Cells L w B 30 [.int .i64 kd, .int .i64 on, .int .i64 a, .int .i64 m] ∧ Cells L w (B + 1) 30 (enCell e)

theorem Room.watchW {w0 : World} {mb gb w1 w2 : Nat} {L : Nat → Nat} {w : World} {s : Rm} (h : Room w0 mb L w s) (g : Good gb w1 w2 s) (t : Nat) (h2 : t < 3) :
    w.cell? ⟨mb, 3 + t, none⟩ = some (.pointer ((pOf w1 w2 t).map fun b => ⟨b, 0, none⟩)) := by
  have : t = 0 ∨ t = 1 ∨ t = 2 := by omega
  rcases this with rfl | rfl | rfl
  · rw [cell_of_heap h.obj]; simp [Rm.cells, pOf]
  · rw [cell_of_heap h.obj]; simp [Rm.cells, g.p1, wat, pOf]
  · rw [cell_of_heap h.obj]; simp [Rm.cells, g.p2, wat, pOf]

set_option maxHeartbeats 8000000 in
theorem step_calls {w0 : World} {mb gb w1 w2 : Nat} {L : Nat → Nat} {w : World} {s : Rm} {K : Nat} (hR : Room w0 mb L w s) (g : Good gb w1 w2 s) (b : Bound s K) (hK : K ≤ 1000000000)
    (kd on a m : Int) (hon : -9223372036854775808 ≤ on) (hon2 : on ≤ 9223372036854775807) (ha : -9223372036854775808 ≤ a) (ha2 : a ≤ 9223372036854775807) (hm : -9223372036854775808 ≤ m) (hm2 : m ≤ 9223372036854775807) :
    Calls Try.prog 34 #[.pointer (some ⟨mb, 0, none⟩), opVal kd on a m] w fun r w' => r = .returned (.bool true) ∧ Stepped w0 mb gb w1 w2 K w' := by
  obtain ⟨pl, kl, hlv, _, _, _, hlc⟩ := ownsRow_shape hR.list.1
  have hpos := g.pos
  have hmost := g.most
  obtain ⟨T, hT⟩ : ∃ T : Nat, (T : Int) = pickV on s.l.length := ⟨(pickV on s.l.length).toNat, by have := pickV_lt on (n := (s.l.length : Int)) (by omega); omega⟩
  have hTl : T < s.l.length := by have := pickV_lt on (n := (s.l.length : Int)) (by omega); omega
  obtain ⟨e, he⟩ : ∃ e, e = s.l[T] := ⟨_, rfl⟩
  have hent : Ent gb s.N w1 w2 e := by rw [he]; exact g.ents _ (List.getElem_mem hTl)
  have hcs : ∃ bl, pl = some ⟨bl, 0, none⟩ ∧ L bl = 15 ∧ ∀ j v, (enCell e)[j]? = some v → w.cell? ⟨bl, T * 6 + j, none⟩ = some v := by
    obtain ⟨bl, h1, h2, _⟩ := hlc (T * 6) _ (by rw [show T * 6 = T * 6 + 0 from rfl, enCells_get s.l hTl 0 (by omega)]; rfl)
    refine ⟨bl, h1, hR.list.2 bl h2, fun j v hj => ?_⟩
    have hj6 : j < 6 := by have := (List.getElem?_eq_some_iff.1 hj).1; simpa [enCell] using this
    obtain ⟨b2, h3, _, h4⟩ := hlc (T * 6 + j) v (by rw [enCells_get s.l hTl j hj6, ← he]; exact hj)
    rw [h1] at h3; cases h3
    exact h4
  obtain ⟨bl, rfl, hbl, hcl⟩ := hcs
  obtain ⟨wB, hwB⟩ : ∃ wB, wB = w.alloc (Obj.cells #[.int .i64 kd, .int .i64 on, .int .i64 a, .int .i64 m] 72) := ⟨_, rfl⟩
  obtain ⟨LB, hRB, stB, cB⟩ : ∃ LB, Room w0 mb LB wB s ∧ Step (fun _ => False) L w LB wB ∧ Cells LB wB w.heap.size 30 [.int .i64 kd, .int .i64 on, .int .i64 a, .int .i64 m] := by
    rw [hwB]; exact hR.box [.int .i64 kd, .int .i64 on, .int .i64 a, .int .i64 m] 72
  have x2 : wB.cell? ⟨mb, 2, none⟩ = some (.slice (some ⟨bl, 0, none⟩) s.l.length kl) := by rw [cell_of_heap hRB.obj, ← hlv]; rfl
  have hcl2 : ∀ j v, (enCell e)[j]? = some v → wB.cell? ⟨bl, T * 6 + j, none⟩ = some v := fun j v hj => stB.cell (hcl j v hj) (fun x => x)
  have d1 : wB.cell? ⟨w.heap.size, 1, none⟩ = some (.int .i64 on) := cB.2.2 1 _ rfl
  have hsz : wB.heap.size = w.heap.size + 1 := by rw [hwB]; simp
  obtain ⟨q, cap, hqv, hq1, hq2, _⟩ := hR.view g hent
  obtain ⟨q2, cap2, hqr, hr1, hr2, _⟩ := hR.ref g hent
  obtain ⟨ea, en, ev, er, ew, ep⟩ := e
  simp only at hqv hqr hq1 hq2 hr1 hr2
  subst hqv hqr
  have v0 : wB.cell? ⟨bl, T * 6, none⟩ = some (.slice q en cap) := hcl2 0 _ rfl
  have v1 : wB.cell? ⟨bl, T * 6 + 1, none⟩ = some (.int .i64 (ea : Int)) := hcl2 1 _ rfl
  have v2 : wB.cell? ⟨bl, T * 6 + 2, none⟩ = some (.pointer (ep.map fun b => ⟨b, 0, none⟩)) := hcl2 2 _ rfl
  have v3 : wB.cell? ⟨bl, T * 6 + 3, none⟩ = some (.slice q2 en cap2) := hcl2 3 _ rfl
  have v4 : wB.cell? ⟨bl, T * 6 + 4, none⟩ = some (.int .i64 (ea : Int)) := hcl2 4 _ rfl
  have v5 : wB.cell? ⟨bl, T * 6 + 5, none⟩ = some (.int .i64 (ew : Int)) := hcl2 5 _ rfl
  obtain ⟨QV, hQV⟩ : ∃ QV, QV = pickV on s.l.length := ⟨_, rfl⟩
  have hQT : QV = (T : Int) := by rw [hT]; exact hQV
  have HT := Lib.hid (fun w => (pick_calls w on s.l.length hon hon2 (by omega)).mono (fun e w' h => (by rw [← hT] at h; exact h : e = .returned (.int .i64 (T : Int)) ∧ w = w')))
  have HW := Lib.hid hwB
  have HRB := Lib.hid hRB
  have HE := Lib.hid hent
  have HCB := Lib.hid cB
  have HSZ := Lib.hid hsz
  have hfb : ∀ (bb oo : Nat) (u : Value) (o : Obj), wB.cell? ⟨bb, oo, none⟩ = some u → (wB.alloc o).cell? ⟨bb, oo, none⟩ = some u := fun bb oo u o hu => by rw [World.cell?_alloc_lt _ _ _ (World.block_lt_of_cell? _ _ hu)]; exact hu
  have HFA := Lib.hid hfb
  clear hR hlv hlc hT he hent hcl hwB hRB stB cB hcl2 hsz hbl hfb hQV hQT QV
  simp only [opVal] at HW ⊢
  go_enter Try.func34, Try.ntmps34
  go_upto_region 1 with fail
  go_cut [5] from 15 to 28 (fun x5 wx => x5 = .pointer (some ⟨w.heap.size + 1, 0, none⟩) ∧ Head w0 mb gb w1 w2 s w.heap.size kd on a m ⟨ea, en, .slice q en cap, .slice q2 en cap2, ew, ep⟩ wx)
  case first =>
    rw [← HW.out]
    refine Late.region (fun w' => w'.cell? ⟨mb, 2, none⟩ = some (.slice (some ⟨bl, 0, none⟩) s.l.length kl) ∧ w'.cell? ⟨w.heap.size, 1, none⟩ = some (.int .i64 on) ∧ w'.cell? ⟨bl, T * 6, none⟩ = some (.slice q en cap) ∧ w'.cell? ⟨bl, T * 6 + 1, none⟩ = some (.int .i64 (ea : Int)) ∧ w'.cell? ⟨bl, T * 6 + 2, none⟩ = some (.pointer (ep.map fun b => ⟨b, 0, none⟩)) ∧ w'.cell? ⟨bl, T * 6 + 3, none⟩ = some (.slice q2 en cap2) ∧ w'.cell? ⟨bl, T * 6 + 4, none⟩ = some (.int .i64 (ea : Int)) ∧ w'.cell? ⟨bl, T * 6 + 5, none⟩ = some (.int .i64 (ew : Int))) (fun j => decide (14 < j)) (by kernel_rfl) ?_
    refine Late.takeC (i := 0) (v := ?_) rfl (by kernel_rfl) (by kernel_rfl) (by kernel_rfl) (by kernel_rfl) (fun _ _ _ h => h) (Or.inl ⟨by rfl, ?_⟩) ⟨x2, d1, v0, v1, v2, v3, v4, v5⟩ ?_
    rotate_left
    · intro w' hS
      obtain ⟨s1, s2, s3, s4, s5, s6, s7, s8⟩ := hS
      go_simp
      rfl
    refine Late.takeC (i := 1) (v := ?_) rfl (by kernel_rfl) (by kernel_rfl) (by kernel_rfl) (by kernel_rfl) (fun _ _ _ h => h) (Or.inl ⟨by rfl, ?_⟩) ⟨x2, d1, v0, v1, v2, v3, v4, v5⟩ ?_
    rotate_left
    · intro w' hS
      obtain ⟨s1, s2, s3, s4, s5, s6, s7, s8⟩ := hS
      go_simp
      rfl
    refine Late.takeC (i := 2) (v := ?_) rfl (by kernel_rfl) (by kernel_rfl) (by kernel_rfl) (by kernel_rfl) (fun _ _ _ h => h) (Or.inl ⟨by rfl, ?_⟩) ⟨x2, d1, v0, v1, v2, v3, v4, v5⟩ ?_
    rotate_left
    · intro w' hS
      obtain ⟨s1, s2, s3, s4, s5, s6, s7, s8⟩ := hS
      go_simp
      rfl
    refine Late.takeC (i := 3) (v := ?_) rfl (by kernel_rfl) (by kernel_rfl) (by kernel_rfl) (by kernel_rfl) (fun _ _ _ h => h) (Or.inl ⟨by rfl, ?_⟩) ⟨x2, d1, v0, v1, v2, v3, v4, v5⟩ ?_
    rotate_left
    · intro w' hS
      obtain ⟨s1, s2, s3, s4, s5, s6, s7, s8⟩ := hS
      go_simp
      rfl
    refine Late.takeC (i := 4) (v := ?_) rfl (by kernel_rfl) (by kernel_rfl) (by kernel_rfl) (by kernel_rfl) (fun _ _ _ h => h) (Or.inl ⟨by rfl, ?_⟩) ⟨x2, d1, v0, v1, v2, v3, v4, v5⟩ ?_
    rotate_left
    · intro w' hS
      obtain ⟨s1, s2, s3, s4, s5, s6, s7, s8⟩ := hS
      go_simp
      rfl
    refine Late.takeC (i := 5) (v := ?_) rfl (by kernel_rfl) (by kernel_rfl) (by kernel_rfl) (by kernel_rfl) (fun _ _ _ h => h) (Or.inl ⟨by rfl, ?_⟩) ⟨x2, d1, v0, v1, v2, v3, v4, v5⟩ ?_
    rotate_left
    · intro w' hS
      obtain ⟨s1, s2, s3, s4, s5, s6, s7, s8⟩ := hS
      go_simp
      rfl
    refine Late.takeC (i := 6) (v := ?_) rfl (by kernel_rfl) (by kernel_rfl) (by kernel_rfl) (by kernel_rfl) (fun _ _ _ h => h) (Or.inl ⟨by rfl, ?_⟩) ⟨x2, d1, v0, v1, v2, v3, v4, v5⟩ ?_
    rotate_left
    · intro w' hS
      obtain ⟨s1, s2, s3, s4, s5, s6, s7, s8⟩ := hS
      go_simp
      rfl
    refine Late.takeC (i := 7) (v := ?_) rfl (by kernel_rfl) (by kernel_rfl) (by kernel_rfl) (by kernel_rfl) (fun _ _ _ h => h) (Or.inl ⟨by rfl, ?_⟩) ⟨x2, d1, v0, v1, v2, v3, v4, v5⟩ ?_
    rotate_left
    · intro w' hS
      obtain ⟨s1, s2, s3, s4, s5, s6, s7, s8⟩ := hS
      go_simp
      rfl
    refine Late.takeC (i := 8) (v := ?_) rfl (by kernel_rfl) (by kernel_rfl) (by kernel_rfl) (by kernel_rfl) (fun _ _ _ h => h) (Or.inl ⟨by rfl, ?_⟩) ⟨x2, d1, v0, v1, v2, v3, v4, v5⟩ ?_
    rotate_left
    · intro w' hS
      obtain ⟨s1, s2, s3, s4, s5, s6, s7, s8⟩ := hS
      go_simp
      rfl
    refine Late.takeC (i := 9) (v := ?_) rfl (by kernel_rfl) (by kernel_rfl) (by kernel_rfl) (by kernel_rfl) (fun _ _ _ h => h) (Or.inl ⟨by rfl, ?_⟩) ⟨x2, d1, v0, v1, v2, v3, v4, v5⟩ ?_
    rotate_left
    · intro w' hS
      obtain ⟨s1, s2, s3, s4, s5, s6, s7, s8⟩ := hS
      go_simp
      rfl
    refine Late.takeC (i := 10) (v := ?_) rfl (by kernel_rfl) (by kernel_rfl) (by kernel_rfl) (by kernel_rfl) (fun _ _ _ h => h) (Or.inl ⟨by rfl, ?_⟩) ⟨x2, d1, v0, v1, v2, v3, v4, v5⟩ ?_
    rotate_left
    · intro w' hS
      obtain ⟨s1, s2, s3, s4, s5, s6, s7, s8⟩ := hS
      go_simp
      rfl
    refine Late.two (i := 11) (k := 14) (by kernel_rfl) rfl rfl (fun K hK => ?_) (fun K hK => ?_)
    · go_simp
      refine (HT.out _).mono ?_; rintro r wC ⟨rfl, rfl⟩
      refine hK _ _ (fun _ => ⟨x2, d1, v0, v1, v2, v3, v4, v5⟩) ?_
      clear hK K
      refine Late.takeC (i := 12) (v := ?_) rfl (by kernel_rfl) (by kernel_rfl) (by kernel_rfl) (by kernel_rfl) (fun _ _ _ h => h) (Or.inl ⟨by rfl, ?_⟩) ⟨x2, d1, v0, v1, v2, v3, v4, v5⟩ ?_
      rotate_left
      · intro w' hS
        obtain ⟨s1, s2, s3, s4, s5, s6, s7, s8⟩ := hS
        go_simp
        rfl
      refine Late.takeC (i := 13) (v := ?_) rfl (by kernel_rfl) (by kernel_rfl) (by kernel_rfl) (by kernel_rfl) (fun _ _ _ h => h) (Or.inl ⟨by rfl, ?_⟩) ⟨x2, d1, v0, v1, v2, v3, v4, v5⟩ ?_
      rotate_left
      · intro w' hS
        obtain ⟨s1, s2, s3, s4, s5, s6, s7, s8⟩ := hS
        go_simp
        rfl
      refine Late.one (i := 14) (by kernel_rfl) rfl (fun K hK => ?_)
      go_simp
      refine hK _ _ (fun _ => ⟨HFA.out _ _ _ _ x2, HFA.out _ _ _ _ d1, HFA.out _ _ _ _ v0, HFA.out _ _ _ _ v1, HFA.out _ _ _ _ v2, HFA.out _ _ _ _ v3, HFA.out _ _ _ _ v4, HFA.out _ _ _ _ v5⟩) ?_
      clear hK K
      refine Late.one (i := 15) (by kernel_rfl) rfl (fun K hK => ?_)
      go_simp
      refine hK _ _ (fun h => by cases h) ?_
      clear hK K
      refine Late.done (by kernel_rfl) ?_ _
      go_wp2_with fail
      go_meet
      case rel =>
        obtain ⟨LX, hRX, stX, cX⟩ := HRB.out.box (enCell ⟨ea, en, .slice q en cap, .slice q2 en cap2, ew, ep⟩) 108
        rw [HSZ.out] at cX
        have cO := HCB.out.step stX (fun x => x)
        exact ⟨by rw [HSZ.out], LX, hRX.drew, HE.out, cO, cX⟩
    · go_simp
      refine hK _ _ (fun _ => ⟨HFA.out _ _ _ _ x2, HFA.out _ _ _ _ d1, HFA.out _ _ _ _ v0, HFA.out _ _ _ _ v1, HFA.out _ _ _ _ v2, HFA.out _ _ _ _ v3, HFA.out _ _ _ _ v4, HFA.out _ _ _ _ v5⟩) ?_
      clear hK K
      refine Late.one (i := 11) (by kernel_rfl) rfl (fun K hK => ?_)
      go_simp
      refine (HT.out _).mono ?_; rintro r wC ⟨rfl, rfl⟩
      refine hK _ _ (fun _ => ⟨HFA.out _ _ _ _ x2, HFA.out _ _ _ _ d1, HFA.out _ _ _ _ v0, HFA.out _ _ _ _ v1, HFA.out _ _ _ _ v2, HFA.out _ _ _ _ v3, HFA.out _ _ _ _ v4, HFA.out _ _ _ _ v5⟩) ?_
      clear hK K
      refine Late.takeC (i := 12) (v := ?_) rfl (by kernel_rfl) (by kernel_rfl) (by kernel_rfl) (by kernel_rfl) (fun _ _ _ h => h) (Or.inl ⟨by rfl, ?_⟩) ⟨HFA.out _ _ _ _ x2, HFA.out _ _ _ _ d1, HFA.out _ _ _ _ v0, HFA.out _ _ _ _ v1, HFA.out _ _ _ _ v2, HFA.out _ _ _ _ v3, HFA.out _ _ _ _ v4, HFA.out _ _ _ _ v5⟩ ?_
      rotate_left
      · intro w' hS
        obtain ⟨s1, s2, s3, s4, s5, s6, s7, s8⟩ := hS
        go_simp
        rfl
      refine Late.takeC (i := 13) (v := ?_) rfl (by kernel_rfl) (by kernel_rfl) (by kernel_rfl) (by kernel_rfl) (fun _ _ _ h => h) (Or.inl ⟨by rfl, ?_⟩) ⟨HFA.out _ _ _ _ x2, HFA.out _ _ _ _ d1, HFA.out _ _ _ _ v0, HFA.out _ _ _ _ v1, HFA.out _ _ _ _ v2, HFA.out _ _ _ _ v3, HFA.out _ _ _ _ v4, HFA.out _ _ _ _ v5⟩ ?_
      rotate_left
      · intro w' hS
        obtain ⟨s1, s2, s3, s4, s5, s6, s7, s8⟩ := hS
        go_simp
        rfl
      refine Late.one (i := 15) (by kernel_rfl) rfl (fun K hK => ?_)
      go_simp
      refine hK _ _ (fun h => by cases h) ?_
      clear hK K
      refine Late.done (by kernel_rfl) ?_ _
      go_wp2_with fail
      go_meet
      case rel =>
        obtain ⟨LX, hRX, stX, cX⟩ := HRB.out.box (enCell ⟨ea, en, .slice q en cap, .slice q2 en cap2, ew, ep⟩) 108
        rw [HSZ.out] at cX
        have cO := HCB.out.step stX (fun x => x)
        exact ⟨by rw [HSZ.out], LX, hRX.drew, HE.out, cO, cX⟩
  case rest =>
    obtain ⟨rfl, LX, hRX, _, cO, cE⟩ := hcut
    have k0 : wc.cell? ⟨w.heap.size, 0, none⟩ = some (.int .i64 kd) := cO.2.2 0 _ rfl
    have k1 : wc.cell? ⟨w.heap.size, 1, none⟩ = some (.int .i64 on) := cO.2.2 1 _ rfl
    have k2 : wc.cell? ⟨w.heap.size, 2, none⟩ = some (.int .i64 a) := cO.2.2 2 _ rfl
    have k3 : wc.cell? ⟨w.heap.size, 3, none⟩ = some (.int .i64 m) := cO.2.2 3 _ rfl
    have e0 : wc.cell? ⟨w.heap.size + 1, 0, none⟩ = some (.slice q en cap) := cE.2.2 0 _ rfl
    have e1 : wc.cell? ⟨w.heap.size + 1, 1, none⟩ = some (.int .i64 (ea : Int)) := cE.2.2 1 _ rfl
    have e2 : wc.cell? ⟨w.heap.size + 1, 2, none⟩ = some (.pointer (ep.map fun b => ⟨b, 0, none⟩)) := cE.2.2 2 _ rfl
    have e3 : wc.cell? ⟨w.heap.size + 1, 3, none⟩ = some (.slice q2 en cap2) := cE.2.2 3 _ rfl
    have e4 : wc.cell? ⟨w.heap.size + 1, 4, none⟩ = some (.int .i64 (ea : Int)) := cE.2.2 4 _ rfl
    have e5 : wc.cell? ⟨w.heap.size + 1, 5, none⟩ = some (.int .i64 (ew : Int)) := cE.2.2 5 _ rfl
    have HRX := Lib.hid hRX
    have HCO := Lib.hid cO
    have HCE := Lib.hid cE
    clear hRX cO cE x2 d1 v0 v1 v2 v3 v4 v5 HRB HCB HFA HW HSZ HT
    by_cases hk1 : kd = 1
    · subst hk1
      go_wp2_with fail
      refine (show Calls Try.prog 53 _ wc _ from (?_ : Calls Try.prog 53 #[.pointer (some ⟨mb, 0, none⟩), enVal ⟨ea, en, .slice q en cap, .slice q2 en cap2, ew, ep⟩, opVal 1 on a m] wc fun r w' => r = .returned (.bool true) ∧ Stepped w0 mb gb w1 w2 K w')).mono ?_
      · by_cases hi : insideB a m en = true
        · obtain ⟨x, y, hx, hy, hxy⟩ := insideB_true hi
          by_cases hml : s.l.length < 40
          · exact part_more HRX.out g b _ HE.out 1 on a m ha2 x y hx hy hxy hml
          · exact part_full HRX.out g b _ HE.out 1 on a m ha2 x y hx hy hxy hml
        · exact part_no HRX.out g b _ HE.out 1 on a m ha2 (by simpa using hi)
      rintro r wD ⟨rfl, hS⟩
      have HS := Lib.hid hS
      clear hS
      go_wp2_with fail
      go_ret
      exact ⟨rfl, HS.out⟩
    have b1 : (kd == 1) = false := by simpa using hk1
    clear hk1
    by_cases hk2 : kd = 2
    · subst hk2
      obtain ⟨_, _, _, _, _, hv⟩ := HRX.out.view g HE.out
      obtain ⟨_, _, _, _, _, hr⟩ := HRX.out.ref g HE.out
      have hf := HE.out.fits
      have hsm := g.small
      have hwo := HRX.out.wopt g HE.out
      have hev := g.even ew
      have hbt := b.t ew
      have hgl : (got s.all ea en).length = en := got_len (by have := g.len; simp only at hf; omega)
      simp only at hv hr hf hwo
      obtain ⟨bs, hbs⟩ : ∃ bs, bs = got s.all ea en := ⟨_, rfl⟩
      rw [← hbs] at hv hr hgl
      have HEV := Lib.hid hev
      have HGL := Lib.hid hgl
      clear hev hgl hbs
      by_cases hI : insideB a 1 bs.length = true
      · obtain ⟨x, y, hax, hmy, hxy⟩ := insideB_true hI
        subst hax
        obtain rfl : y = 1 := by omega
        have HE0 := Lib.hid (show byteE bs.length x = 0 from by unfold byteE; rw [if_pos hI])
        have HT2 := Lib.hid (show byteT (s.u ew) bs.length (ea : Int) x = tell (s.u ew) ea x 1 from by unfold byteT; rw [if_pos hI]; rfl)
        clear hI hmy
        go_wp2_with fail
        refine (vbyte_calls (wc_ne ew) hwo (by rw [HEV.out]; omega) hv ea (by omega) (by omega) x (by omega)).mono ?_; rintro r wC ⟨rfl, hrd⟩
        rw [HT2.out] at hrd
        rw [HE0.out]
        obtain ⟨LC, stC, hRC⟩ := HRX.out.told g HE.out hrd
        have cE := HCE.out.step (stC.mono (fun _ => wc_rc)) (by unfold Rc; omega)
        have cO := HCO.out.step (stC.mono (fun _ => wc_rc)) (by unfold Rc; omega)
        have e0 : wC.cell? ⟨w.heap.size + 1, 0, none⟩ = some (.slice q en cap) := cE.2.2 0 _ rfl
        have e1 : wC.cell? ⟨w.heap.size + 1, 1, none⟩ = some (.int .i64 (ea : Int)) := cE.2.2 1 _ rfl
        have e2 : wC.cell? ⟨w.heap.size + 1, 2, none⟩ = some (.pointer (ep.map fun b => ⟨b, 0, none⟩)) := cE.2.2 2 _ rfl
        have e3 : wC.cell? ⟨w.heap.size + 1, 3, none⟩ = some (.slice q2 en cap2) := cE.2.2 3 _ rfl
        have e4 : wC.cell? ⟨w.heap.size + 1, 4, none⟩ = some (.int .i64 (ea : Int)) := cE.2.2 4 _ rfl
        have e5 : wC.cell? ⟨w.heap.size + 1, 5, none⟩ = some (.int .i64 (ew : Int)) := cE.2.2 5 _ rfl
        have k0 : wC.cell? ⟨w.heap.size, 0, none⟩ = some (.int .i64 2) := cO.2.2 0 _ rfl
        have k1 : wC.cell? ⟨w.heap.size, 1, none⟩ = some (.int .i64 on) := cO.2.2 1 _ rfl
        have k2 : wC.cell? ⟨w.heap.size, 2, none⟩ = some (.int .i64 (x : Int)) := cO.2.2 2 _ rfl
        have k3 : wC.cell? ⟨w.heap.size, 3, none⟩ = some (.int .i64 m) := cO.2.2 3 _ rfl
        have hrC := hr.step stC (wc_ne ew)
        have HRC := Lib.hid hRC
        have HCEC := Lib.hid cE
        have HCOC := Lib.hid cO
        clear hRC hrd stC hv hr hwo cE cO
        go_wp2_with fail
        refine (rbyte_calls hrC ea x (by omega)).mono ?_; rintro r wD ⟨rfl, bD⟩
        rw [HE0.out]
        have stD := Step.of_below (L := LC) bD (fun _ => False) 30
        have hRD := HRC.out.below bD
        have cE := HCEC.out.step stD (fun x => x)
        have cO := HCOC.out.step stD (fun x => x)
        generalize ext LC wC.heap.size 30 = LD at *
        have e0 : wD.cell? ⟨w.heap.size + 1, 0, none⟩ = some (.slice q en cap) := cE.2.2 0 _ rfl
        have e1 : wD.cell? ⟨w.heap.size + 1, 1, none⟩ = some (.int .i64 (ea : Int)) := cE.2.2 1 _ rfl
        have e2 : wD.cell? ⟨w.heap.size + 1, 2, none⟩ = some (.pointer (ep.map fun b => ⟨b, 0, none⟩)) := cE.2.2 2 _ rfl
        have e3 : wD.cell? ⟨w.heap.size + 1, 3, none⟩ = some (.slice q2 en cap2) := cE.2.2 3 _ rfl
        have e4 : wD.cell? ⟨w.heap.size + 1, 4, none⟩ = some (.int .i64 (ea : Int)) := cE.2.2 4 _ rfl
        have e5 : wD.cell? ⟨w.heap.size + 1, 5, none⟩ = some (.int .i64 (ew : Int)) := cE.2.2 5 _ rfl
        have k0 : wD.cell? ⟨w.heap.size, 0, none⟩ = some (.int .i64 2) := cO.2.2 0 _ rfl
        have k1 : wD.cell? ⟨w.heap.size, 1, none⟩ = some (.int .i64 on) := cO.2.2 1 _ rfl
        have k2 : wD.cell? ⟨w.heap.size, 2, none⟩ = some (.int .i64 (x : Int)) := cO.2.2 2 _ rfl
        have k3 : wD.cell? ⟨w.heap.size, 3, none⟩ = some (.int .i64 m) := cO.2.2 3 _ rfl
        have HRD := Lib.hid hRD
        clear hRD stD bD hrC cE cO
        go_wp2_with fail
        refine (room_told HRX.out g b hK HE.out x 1 (by have := HGL.out; first | omega | (simp only; omega)) HRD.out).mono ?_; rintro r wE ⟨rfl, LE, sE, stE, hRE, gE, bE, hN⟩
        have HS := Lib.hid (show Stepped w0 mb gb w1 w2 K wE from ⟨LE, sE, hRE, gE, bE.mono (by omega)⟩)
        clear hRE gE bE stE
        go_wp2_with fail
        go_ret
        exact ⟨rfl, HS.out⟩
      · have hE2 : byteE bs.length a = 2 := by unfold byteE; rw [if_neg hI]
        have HT2 := Lib.hid (show s.setU ew (byteT (s.u ew) bs.length (ea : Int) a) = s from by unfold byteT; rw [if_neg hI]; exact setU_same)
        have hVV : ((byteV bs a) == (byteV bs a)) = true := by simp
        have hne : (byteE bs.length a == 0) = false := by rw [hE2]; rfl
        have hEE : (byteE bs.length a == byteE bs.length a) = true := by simp
        clear hE2 hI
        go_wp2_with fail
        refine (vbyte_calls (wc_ne ew) hwo (by rw [HEV.out]; omega) hv ea (by omega) (by omega) a (by omega)).mono ?_; rintro r wC ⟨rfl, hrd⟩
        obtain ⟨LC, stC, hRC⟩ := HRX.out.told g HE.out hrd
        rw [HT2.out] at hRC
        have cE := HCE.out.step (stC.mono (fun _ => wc_rc)) (by unfold Rc; omega)
        have cO := HCO.out.step (stC.mono (fun _ => wc_rc)) (by unfold Rc; omega)
        have e0 : wC.cell? ⟨w.heap.size + 1, 0, none⟩ = some (.slice q en cap) := cE.2.2 0 _ rfl
        have e1 : wC.cell? ⟨w.heap.size + 1, 1, none⟩ = some (.int .i64 (ea : Int)) := cE.2.2 1 _ rfl
        have e2 : wC.cell? ⟨w.heap.size + 1, 2, none⟩ = some (.pointer (ep.map fun b => ⟨b, 0, none⟩)) := cE.2.2 2 _ rfl
        have e3 : wC.cell? ⟨w.heap.size + 1, 3, none⟩ = some (.slice q2 en cap2) := cE.2.2 3 _ rfl
        have e4 : wC.cell? ⟨w.heap.size + 1, 4, none⟩ = some (.int .i64 (ea : Int)) := cE.2.2 4 _ rfl
        have e5 : wC.cell? ⟨w.heap.size + 1, 5, none⟩ = some (.int .i64 (ew : Int)) := cE.2.2 5 _ rfl
        have k0 : wC.cell? ⟨w.heap.size, 0, none⟩ = some (.int .i64 2) := cO.2.2 0 _ rfl
        have k1 : wC.cell? ⟨w.heap.size, 1, none⟩ = some (.int .i64 on) := cO.2.2 1 _ rfl
        have k2 : wC.cell? ⟨w.heap.size, 2, none⟩ = some (.int .i64 a) := cO.2.2 2 _ rfl
        have k3 : wC.cell? ⟨w.heap.size, 3, none⟩ = some (.int .i64 m) := cO.2.2 3 _ rfl
        have hrC := hr.step stC (wc_ne ew)
        have HRC := Lib.hid hRC
        have HCEC := Lib.hid cE
        have HCOC := Lib.hid cO
        clear hRC hrd stC hv hr hwo cE cO
        go_wp2_with fail
        refine (rbyte_calls hrC ea a (by omega)).mono ?_; rintro r wD ⟨rfl, bD⟩
        have HS := Lib.hid (show Stepped w0 mb gb w1 w2 K wD from ⟨_, s, HRC.out.below bD, g, b.mono (by omega)⟩)
        clear bD hrC
        go_wp2_with fail
        go_ret
        exact ⟨rfl, HS.out⟩
    have b2 : (kd == 2) = false := by simpa using hk2
    clear hk2
    by_cases hk3 : kd = 3
    · subst hk3
      go_wp2_with fail
      refine (loads3 HRX.out g b hK ⟨ea, en, .slice q en cap, .slice q2 en cap2, ew, ep⟩ HE.out on a m ha2).mono ?_
      rintro r wD ⟨rfl, hS⟩
      have HS := Lib.hid hS
      clear hS
      go_wp2_with fail
      go_ret
      exact ⟨rfl, HS.out⟩
    have b3 : (kd == 3) = false := by simpa using hk3
    clear hk3
    by_cases hk4 : kd = 4
    · subst hk4
      go_wp2_with fail
      refine (loads4 HRX.out g b hK ⟨ea, en, .slice q en cap, .slice q2 en cap2, ew, ep⟩ HE.out 4 on a m rfl ha2).mono ?_
      rintro r wD ⟨rfl, hS⟩
      have HS := Lib.hid hS
      clear hS
      go_wp2_with fail
      go_ret
      exact ⟨rfl, HS.out⟩
    have b4 : (kd == 4) = false := by simpa using hk4
    clear hk4
    by_cases hk5 : kd = 5
    · subst hk5
      obtain ⟨_, _, _, _, _, hv⟩ := HRX.out.view g HE.out
      obtain ⟨_, _, _, _, _, hr⟩ := HRX.out.ref g HE.out
      have hf := HE.out.fits
      have hsm := g.small
      have hwo := HRX.out.wopt g HE.out
      have hev := g.even ew
      have hbt := b.t ew
      have hgl : (got s.all ea en).length = en := got_len (by have := g.len; simp only at hf; omega)
      simp only at hv hr hf hwo
      obtain ⟨bs, hbs⟩ : ∃ bs, bs = got s.all ea en := ⟨_, rfl⟩
      rw [← hbs] at hv hr hgl
      have HEV := Lib.hid hev
      have HGL := Lib.hid hgl
      clear hev hgl hbs
      by_cases hI : insideB a m bs.length = true
      · obtain ⟨x, y, hax, hmy, hxy⟩ := insideB_true hI
        subst hax
        subst hmy
        have HE0 := Lib.hid (show vtextE bs.length x y = 0 from by unfold vtextE; rw [if_pos hI])
        have HT2 := Lib.hid (show vtextT (s.u ew) bs.length (ea : Int) x y = tell (s.u ew) ea x y from by unfold vtextT; rw [if_pos hI]; rfl)
        clear hI 
        go_wp2_with fail
        refine (vtext_calls (wc_ne ew) hwo (by rw [HEV.out]; omega) hv ea (by omega) (by omega) x y (by omega)).mono ?_; rintro r wC ⟨rfl, hrd⟩
        rw [HT2.out] at hrd
        rw [HE0.out]
        obtain ⟨LC, stC, hRC⟩ := HRX.out.told g HE.out hrd
        have cE := HCE.out.step (stC.mono (fun _ => wc_rc)) (by unfold Rc; omega)
        have cO := HCO.out.step (stC.mono (fun _ => wc_rc)) (by unfold Rc; omega)
        have e0 : wC.cell? ⟨w.heap.size + 1, 0, none⟩ = some (.slice q en cap) := cE.2.2 0 _ rfl
        have e1 : wC.cell? ⟨w.heap.size + 1, 1, none⟩ = some (.int .i64 (ea : Int)) := cE.2.2 1 _ rfl
        have e2 : wC.cell? ⟨w.heap.size + 1, 2, none⟩ = some (.pointer (ep.map fun b => ⟨b, 0, none⟩)) := cE.2.2 2 _ rfl
        have e3 : wC.cell? ⟨w.heap.size + 1, 3, none⟩ = some (.slice q2 en cap2) := cE.2.2 3 _ rfl
        have e4 : wC.cell? ⟨w.heap.size + 1, 4, none⟩ = some (.int .i64 (ea : Int)) := cE.2.2 4 _ rfl
        have e5 : wC.cell? ⟨w.heap.size + 1, 5, none⟩ = some (.int .i64 (ew : Int)) := cE.2.2 5 _ rfl
        have k0 : wC.cell? ⟨w.heap.size, 0, none⟩ = some (.int .i64 5) := cO.2.2 0 _ rfl
        have k1 : wC.cell? ⟨w.heap.size, 1, none⟩ = some (.int .i64 on) := cO.2.2 1 _ rfl
        have k2 : wC.cell? ⟨w.heap.size, 2, none⟩ = some (.int .i64 (x : Int)) := cO.2.2 2 _ rfl
        have k3 : wC.cell? ⟨w.heap.size, 3, none⟩ = some (.int .i64 (y : Int)) := cO.2.2 3 _ rfl
        have hrC := hr.step stC (wc_ne ew)
        have HRC := Lib.hid hRC
        have HCEC := Lib.hid cE
        have HCOC := Lib.hid cO
        clear hRC hrd stC hv hr hwo cE cO
        go_wp2_with fail
        refine (rtext_calls hrC ea (by omega) (by omega) x y (by omega)).mono ?_; rintro r wD ⟨rfl, bD⟩
        rw [HE0.out]
        have stD := Step.of_below (L := LC) bD (fun _ => False) 30
        have hRD := HRC.out.below bD
        have cE := HCEC.out.step stD (fun x => x)
        have cO := HCOC.out.step stD (fun x => x)
        generalize ext LC wC.heap.size 30 = LD at *
        have e0 : wD.cell? ⟨w.heap.size + 1, 0, none⟩ = some (.slice q en cap) := cE.2.2 0 _ rfl
        have e1 : wD.cell? ⟨w.heap.size + 1, 1, none⟩ = some (.int .i64 (ea : Int)) := cE.2.2 1 _ rfl
        have e2 : wD.cell? ⟨w.heap.size + 1, 2, none⟩ = some (.pointer (ep.map fun b => ⟨b, 0, none⟩)) := cE.2.2 2 _ rfl
        have e3 : wD.cell? ⟨w.heap.size + 1, 3, none⟩ = some (.slice q2 en cap2) := cE.2.2 3 _ rfl
        have e4 : wD.cell? ⟨w.heap.size + 1, 4, none⟩ = some (.int .i64 (ea : Int)) := cE.2.2 4 _ rfl
        have e5 : wD.cell? ⟨w.heap.size + 1, 5, none⟩ = some (.int .i64 (ew : Int)) := cE.2.2 5 _ rfl
        have k0 : wD.cell? ⟨w.heap.size, 0, none⟩ = some (.int .i64 5) := cO.2.2 0 _ rfl
        have k1 : wD.cell? ⟨w.heap.size, 1, none⟩ = some (.int .i64 on) := cO.2.2 1 _ rfl
        have k2 : wD.cell? ⟨w.heap.size, 2, none⟩ = some (.int .i64 (x : Int)) := cO.2.2 2 _ rfl
        have k3 : wD.cell? ⟨w.heap.size, 3, none⟩ = some (.int .i64 (y : Int)) := cO.2.2 3 _ rfl
        have HRD := Lib.hid hRD
        clear hRD stD bD hrC cE cO
        go_wp2_with fail
        refine (room_told HRX.out g b hK HE.out x y (by have := HGL.out; first | omega | (simp only; omega)) HRD.out).mono ?_; rintro r wE ⟨rfl, LE, sE, stE, hRE, gE, bE, hN⟩
        have HS := Lib.hid (show Stepped w0 mb gb w1 w2 K wE from ⟨LE, sE, hRE, gE, bE.mono (by omega)⟩)
        clear hRE gE bE stE
        go_wp2_with fail
        go_ret
        exact ⟨rfl, HS.out⟩
      · have hE2 : vtextE bs.length a m = 2 := by unfold vtextE; rw [if_neg hI]
        have HT2 := Lib.hid (show s.setU ew (vtextT (s.u ew) bs.length (ea : Int) a m) = s from by unfold vtextT; rw [if_neg hI]; exact setU_same)
        skip
        have hne : (vtextE bs.length a m == 0) = false := by rw [hE2]; rfl
        have hEE : (vtextE bs.length a m == vtextE bs.length a m) = true := by simp
        clear hE2 hI
        go_wp2_with fail
        refine (vtext_calls (wc_ne ew) hwo (by rw [HEV.out]; omega) hv ea (by omega) (by omega) a m (by omega)).mono ?_; rintro r wC ⟨rfl, hrd⟩
        obtain ⟨LC, stC, hRC⟩ := HRX.out.told g HE.out hrd
        rw [HT2.out] at hRC
        have cE := HCE.out.step (stC.mono (fun _ => wc_rc)) (by unfold Rc; omega)
        have cO := HCO.out.step (stC.mono (fun _ => wc_rc)) (by unfold Rc; omega)
        have e0 : wC.cell? ⟨w.heap.size + 1, 0, none⟩ = some (.slice q en cap) := cE.2.2 0 _ rfl
        have e1 : wC.cell? ⟨w.heap.size + 1, 1, none⟩ = some (.int .i64 (ea : Int)) := cE.2.2 1 _ rfl
        have e2 : wC.cell? ⟨w.heap.size + 1, 2, none⟩ = some (.pointer (ep.map fun b => ⟨b, 0, none⟩)) := cE.2.2 2 _ rfl
        have e3 : wC.cell? ⟨w.heap.size + 1, 3, none⟩ = some (.slice q2 en cap2) := cE.2.2 3 _ rfl
        have e4 : wC.cell? ⟨w.heap.size + 1, 4, none⟩ = some (.int .i64 (ea : Int)) := cE.2.2 4 _ rfl
        have e5 : wC.cell? ⟨w.heap.size + 1, 5, none⟩ = some (.int .i64 (ew : Int)) := cE.2.2 5 _ rfl
        have k0 : wC.cell? ⟨w.heap.size, 0, none⟩ = some (.int .i64 5) := cO.2.2 0 _ rfl
        have k1 : wC.cell? ⟨w.heap.size, 1, none⟩ = some (.int .i64 on) := cO.2.2 1 _ rfl
        have k2 : wC.cell? ⟨w.heap.size, 2, none⟩ = some (.int .i64 a) := cO.2.2 2 _ rfl
        have k3 : wC.cell? ⟨w.heap.size, 3, none⟩ = some (.int .i64 m) := cO.2.2 3 _ rfl
        have hrC := hr.step stC (wc_ne ew)
        have HRC := Lib.hid hRC
        have HCEC := Lib.hid cE
        have HCOC := Lib.hid cO
        clear hRC hrd stC hv hr hwo cE cO
        go_wp2_with fail
        refine (rtext_calls hrC ea (by omega) (by omega) a m (by omega)).mono ?_; rintro r wD ⟨rfl, bD⟩
        have HS := Lib.hid (show Stepped w0 mb gb w1 w2 K wD from ⟨_, s, HRC.out.below bD, g, b.mono (by omega)⟩)
        clear bD hrC
        go_wp2_with fail
        go_ret
        exact ⟨rfl, HS.out⟩
    have b5 : (kd == 5) = false := by simpa using hk5
    clear hk5
    by_cases hk6 : kd = 6
    · subst hk6
      go_wp2_with fail
      refine (raw_calls HRX.out g b hK ⟨ea, en, .slice q en cap, .slice q2 en cap2, ew, ep⟩ HE.out).mono ?_
      rintro r wD ⟨rfl, hS⟩
      have HS := Lib.hid hS
      clear hS
      go_wp2_with fail
      go_ret
      exact ⟨rfl, HS.out⟩
    have b6 : (kd == 6) = false := by simpa using hk6
    clear hk6
    by_cases hk7 : kd = 7
    · subst hk7
      have hP0 := pickV_lt on (n := 4) (by decide)
      obtain ⟨P, hPe⟩ : ∃ P : Nat, (P : Int) = pickV on 4 := ⟨(pickV on 4).toNat, by omega⟩
      have hP4 : P < 4 := by omega
      have HP := Lib.hid (fun w => (pick_calls w on 4 hon hon2 (by decide)).mono (fun e w' h => (by rw [← hPe] at h; exact h : e = .returned (.int .i64 (P : Int)) ∧ w = w')))
      have HNUM : Hid (Calls Try.prog 59 #[.pointer (some ⟨mb, 0, none⟩), enVal ⟨ea, en, .slice q en cap, .slice q2 en cap2, ew, ep⟩, .int .i64 (P : Int), .int .i64 a, .int .i64 m] wc.drew fun r w' => r = .returned (.bool true) ∧ Stepped w0 mb gb w1 w2 K w') := by
        refine Lib.hid ?_
        obtain rfl | rfl | rfl | rfl : P = 0 ∨ P = 1 ∨ P = 2 ∨ P = 3 := by omega
        · exact numbers0_calls HRX.out.drew g b hK _ HE.out a m ha ha2 hm
        · exact numbers1_calls HRX.out.drew g b hK _ HE.out a m ha ha2 hm
        · exact numbers2_calls HRX.out.drew g b hK _ HE.out a m ha ha2 hm
        · exact numbers3_calls HRX.out.drew g b hK _ HE.out a m ha ha2 hm
      clear hPe hP0
      go_wp2_with fail
      refine Late.region (fun w' => w'.cell? ⟨w.heap.size, 1, none⟩ = some (.int .i64 on) ∧ w'.cell? ⟨w.heap.size, 2, none⟩ = some (.int .i64 a) ∧ w'.cell? ⟨w.heap.size, 3, none⟩ = some (.int .i64 m) ∧ w'.cell? ⟨w.heap.size + 1, 0, none⟩ = some (.slice q en cap) ∧ w'.cell? ⟨w.heap.size + 1, 1, none⟩ = some (.int .i64 (ea : Int)) ∧ w'.cell? ⟨w.heap.size + 1, 2, none⟩ = some (.pointer (ep.map fun b => ⟨b, 0, none⟩)) ∧ w'.cell? ⟨w.heap.size + 1, 3, none⟩ = some (.slice q2 en cap2) ∧ w'.cell? ⟨w.heap.size + 1, 4, none⟩ = some (.int .i64 (ea : Int)) ∧ w'.cell? ⟨w.heap.size + 1, 5, none⟩ = some (.int .i64 (ew : Int))) (fun j => decide (8 < j)) (by kernel_rfl) ?_
      refine Late.takeC (i := 0) (v := ?_) rfl (by kernel_rfl) (by kernel_rfl) (by kernel_rfl) (by kernel_rfl) (fun _ _ _ h => h) (Or.inl ⟨by rfl, ?_⟩) ⟨k1, k2, k3, e0, e1, e2, e3, e4, e5⟩ ?_
      rotate_left
      · intro w' hS
        obtain ⟨s1, s2, s3, s4, s5, s6, s7, s8, s9⟩ := hS
        go_simp
        rfl
      refine Late.takeC (i := 1) (v := ?_) rfl (by kernel_rfl) (by kernel_rfl) (by kernel_rfl) (by kernel_rfl) (fun _ _ _ h => h) (Or.inl ⟨by rfl, ?_⟩) ⟨k1, k2, k3, e0, e1, e2, e3, e4, e5⟩ ?_
      rotate_left
      · intro w' hS
        obtain ⟨s1, s2, s3, s4, s5, s6, s7, s8, s9⟩ := hS
        go_simp
        rfl
      refine Late.takeC (i := 2) (v := ?_) rfl (by kernel_rfl) (by kernel_rfl) (by kernel_rfl) (by kernel_rfl) (fun _ _ _ h => h) (Or.inl ⟨by rfl, ?_⟩) ⟨k1, k2, k3, e0, e1, e2, e3, e4, e5⟩ ?_
      rotate_left
      · intro w' hS
        obtain ⟨s1, s2, s3, s4, s5, s6, s7, s8, s9⟩ := hS
        go_simp
        rfl
      refine Late.takeC (i := 3) (v := ?_) rfl (by kernel_rfl) (by kernel_rfl) (by kernel_rfl) (by kernel_rfl) (fun _ _ _ h => h) (Or.inl ⟨by rfl, ?_⟩) ⟨k1, k2, k3, e0, e1, e2, e3, e4, e5⟩ ?_
      rotate_left
      · intro w' hS
        obtain ⟨s1, s2, s3, s4, s5, s6, s7, s8, s9⟩ := hS
        go_simp
        rfl
      refine Late.takeC (i := 5) (v := ?_) rfl (by kernel_rfl) (by kernel_rfl) (by kernel_rfl) (by kernel_rfl) (fun _ _ _ h => h) (Or.inl ⟨by rfl, ?_⟩) ⟨k1, k2, k3, e0, e1, e2, e3, e4, e5⟩ ?_
      rotate_left
      · intro w' hS
        obtain ⟨s1, s2, s3, s4, s5, s6, s7, s8, s9⟩ := hS
        go_simp
        rfl
      refine Late.takeC (i := 6) (v := ?_) rfl (by kernel_rfl) (by kernel_rfl) (by kernel_rfl) (by kernel_rfl) (fun _ _ _ h => h) (Or.inl ⟨by rfl, ?_⟩) ⟨k1, k2, k3, e0, e1, e2, e3, e4, e5⟩ ?_
      rotate_left
      · intro w' hS
        obtain ⟨s1, s2, s3, s4, s5, s6, s7, s8, s9⟩ := hS
        go_simp
        rfl
      refine Late.takeC (i := 7) (v := ?_) rfl (by kernel_rfl) (by kernel_rfl) (by kernel_rfl) (by kernel_rfl) (fun _ _ _ h => h) (Or.inl ⟨by rfl, ?_⟩) ⟨k1, k2, k3, e0, e1, e2, e3, e4, e5⟩ ?_
      rotate_left
      · intro w' hS
        obtain ⟨s1, s2, s3, s4, s5, s6, s7, s8, s9⟩ := hS
        go_simp
        rfl
      refine Late.takeC (i := 8) (v := ?_) rfl (by kernel_rfl) (by kernel_rfl) (by kernel_rfl) (by kernel_rfl) (fun _ _ _ h => h) (Or.inl ⟨by rfl, ?_⟩) ⟨k1, k2, k3, e0, e1, e2, e3, e4, e5⟩ ?_
      rotate_left
      · intro w' hS
        obtain ⟨s1, s2, s3, s4, s5, s6, s7, s8, s9⟩ := hS
        go_simp
        rfl
      refine Late.one (i := 4) (by kernel_rfl) rfl (fun K hK => ?_)
      go_simp
      refine (HP.out _).mono ?_; rintro r wD ⟨rfl, rfl⟩
      refine hK _ _ (fun _ => ⟨k1, k2, k3, e0, e1, e2, e3, e4, e5⟩) ?_
      clear hK K
      refine Late.one (i := 9) (by kernel_rfl) rfl (fun K hK => ?_)
      go_simp
      refine HNUM.out.mono ?_; rintro r wD ⟨rfl, hS⟩
      have HS := Lib.hid hS
      clear hS
      refine hK _ _ (fun h => by cases h) ?_
      clear hK K
      refine Late.one (i := 10) (by kernel_rfl) rfl (fun K hK => ?_)
      go_simp
      refine hK _ _ (fun h => by cases h) ?_
      clear hK K
      refine Late.done (by kernel_rfl) ?_ _
      go_wp2_with fail
      go_ret
      exact ⟨rfl, HS.out⟩
    have b7 : (kd == 7) = false := by simpa using hk7
    clear hk7
    by_cases hk8 : kd = 8
    · subst hk8
      by_cases hage : 0 ≤ a
      · have hP0 := pickV_lt a (n := 2) (by decide)
        obtain ⟨P, hPe⟩ : ∃ P : Nat, (P : Int) = pickV a 2 := ⟨(pickV a 2).toNat, by omega⟩
        have hP2 : P < 2 := by omega
        have HP := Lib.hid (fun w => (pick_calls w a 2 ha ha2 (by decide)).mono (fun e w' h => (by rw [← hPe] at h; exact h : e = .returned (.int .i64 (P : Int)) ∧ w = w')))
        obtain ⟨WH, hWHe⟩ : ∃ WH, WH = 1 + P := ⟨_, rfl⟩
        have hWH : WH < 3 := by omega
        have hWHi : (1 : Int) + (P : Int) = (WH : Int) := by omega
        have HWI := Lib.hid hWHi
        have hWi : (WH : Int) < 3 := by omega
        clear hPe hP0 hWHe hWHi
        obtain ⟨pv, kv, hv0, _⟩ := ownsRow_shape HRX.out.list.1
        have lv : wc.cell? ⟨mb, 2, none⟩ = some (.slice pv s.l.length kv) := by rw [cell_of_heap HRX.out.obj, ← hv0]; rfl
        have wv : wc.cell? ⟨mb, 3 + WH, none⟩ = some (.pointer ((pOf w1 w2 WH).map fun b => ⟨b, 0, none⟩)) := HRX.out.watchW g WH (by omega)
        have HV0 := Lib.hid hv0
        clear hv0
        by_cases hml : s.l.length < 40
        · obtain ⟨i0, hi, hz0, hz1, hz2⟩ := info_parts infoSeen
          have HENT := Lib.hid (show Ent gb s.N w1 w2 ⟨ea, en, .slice q en cap, .slice q2 en cap2, WH, pOf w1 w2 WH⟩ from ⟨HE.out.fits, HE.out.v, HE.out.r, hWH, rfl⟩)
          obtain ⟨WP, hWP⟩ : ∃ WP, WP = pOf w1 w2 WH := ⟨_, rfl⟩
          rw [← hWP] at wv HENT
          clear hWP
          go_wp2_with fail
          refine (HP.out _).mono ?_; rintro r wD ⟨rfl, rfl⟩
          go_upto_if 147 with fail
          rw [HWI.out]
          go_wp2_with fail
          refine Late.region (fun w' => w'.cell? ⟨mb, 2, none⟩ = some (.slice pv s.l.length kv) ∧ w'.cell? ⟨w.heap.size + 1, 0, none⟩ = some (.slice q en cap) ∧ w'.cell? ⟨w.heap.size + 1, 1, none⟩ = some (.int .i64 (ea : Int)) ∧ w'.cell? ⟨w.heap.size + 1, 2, none⟩ = some (.pointer (ep.map fun b => ⟨b, 0, none⟩)) ∧ w'.cell? ⟨w.heap.size + 1, 3, none⟩ = some (.slice q2 en cap2) ∧ w'.cell? ⟨w.heap.size + 1, 4, none⟩ = some (.int .i64 (ea : Int)) ∧ w'.cell? ⟨mb, 3 + WH, none⟩ = some (.pointer (WP.map fun b => ⟨b, 0, none⟩))) (fun j => decide (21 < j)) (by kernel_rfl) ?_
          refine Late.takeC (i := 0) (v := ?_) rfl (by kernel_rfl) (by kernel_rfl) (by kernel_rfl) (by kernel_rfl) (fun _ _ _ h => h) (Or.inl ⟨by rfl, ?_⟩) ⟨lv, e0, e1, e2, e3, e4, wv⟩ ?_
          rotate_left
          · intro w' hS
            obtain ⟨s1, s2, s3, s4, s5, s6, s7⟩ := hS
            go_simp
            rfl
          refine Late.takeC (i := 1) (v := ?_) rfl (by kernel_rfl) (by kernel_rfl) (by kernel_rfl) (by kernel_rfl) (fun _ _ _ h => h) (Or.inl ⟨by rfl, ?_⟩) ⟨lv, e0, e1, e2, e3, e4, wv⟩ ?_
          rotate_left
          · intro w' hS
            obtain ⟨s1, s2, s3, s4, s5, s6, s7⟩ := hS
            go_simp
            rfl
          refine Late.takeC (i := 2) (v := ?_) rfl (by kernel_rfl) (by kernel_rfl) (by kernel_rfl) (by kernel_rfl) (fun _ _ _ h => h) (Or.inl ⟨by rfl, ?_⟩) ⟨lv, e0, e1, e2, e3, e4, wv⟩ ?_
          rotate_left
          · intro w' hS
            obtain ⟨s1, s2, s3, s4, s5, s6, s7⟩ := hS
            go_simp
            rfl
          refine Late.takeC (i := 3) (v := ?_) rfl (by kernel_rfl) (by kernel_rfl) (by kernel_rfl) (by kernel_rfl) (fun _ _ _ h => h) (Or.inl ⟨by rfl, ?_⟩) ⟨lv, e0, e1, e2, e3, e4, wv⟩ ?_
          rotate_left
          · intro w' hS
            obtain ⟨s1, s2, s3, s4, s5, s6, s7⟩ := hS
            go_simp
            rfl
          refine Late.takeC (i := 4) (v := ?_) rfl (by kernel_rfl) (by kernel_rfl) (by kernel_rfl) (by kernel_rfl) (fun _ _ _ h => h) (Or.inl ⟨by rfl, ?_⟩) ⟨lv, e0, e1, e2, e3, e4, wv⟩ ?_
          rotate_left
          · intro w' hS
            obtain ⟨s1, s2, s3, s4, s5, s6, s7⟩ := hS
            go_simp
            rfl
          refine Late.takeC (i := 5) (v := ?_) rfl (by kernel_rfl) (by kernel_rfl) (by kernel_rfl) (by kernel_rfl) (fun _ _ _ h => h) (Or.inl ⟨by rfl, ?_⟩) ⟨lv, e0, e1, e2, e3, e4, wv⟩ ?_
          rotate_left
          · intro w' hS
            obtain ⟨s1, s2, s3, s4, s5, s6, s7⟩ := hS
            go_simp
            rfl
          refine Late.takeC (i := 6) (v := ?_) rfl (by kernel_rfl) (by kernel_rfl) (by kernel_rfl) (by kernel_rfl) (fun _ _ _ h => h) (Or.inl ⟨by rfl, ?_⟩) ⟨lv, e0, e1, e2, e3, e4, wv⟩ ?_
          rotate_left
          · intro w' hS
            obtain ⟨s1, s2, s3, s4, s5, s6, s7⟩ := hS
            go_simp
            rfl
          refine Late.takeC (i := 7) (v := ?_) rfl (by kernel_rfl) (by kernel_rfl) (by kernel_rfl) (by kernel_rfl) (fun _ _ _ h => h) (Or.inl ⟨by rfl, ?_⟩) ⟨lv, e0, e1, e2, e3, e4, wv⟩ ?_
          rotate_left
          · intro w' hS
            obtain ⟨s1, s2, s3, s4, s5, s6, s7⟩ := hS
            go_simp
            rfl
          refine Late.takeC (i := 8) (v := ?_) rfl (by kernel_rfl) (by kernel_rfl) (by kernel_rfl) (by kernel_rfl) (fun _ _ _ h => h) (Or.inl ⟨by rfl, ?_⟩) ⟨lv, e0, e1, e2, e3, e4, wv⟩ ?_
          rotate_left
          · intro w' hS
            obtain ⟨s1, s2, s3, s4, s5, s6, s7⟩ := hS
            go_simp
            rfl
          refine Late.takeC (i := 9) (v := ?_) rfl (by kernel_rfl) (by kernel_rfl) (by kernel_rfl) (by kernel_rfl) (fun _ _ _ h => h) (Or.inl ⟨by rfl, ?_⟩) ⟨lv, e0, e1, e2, e3, e4, wv⟩ ?_
          rotate_left
          · intro w' hS
            obtain ⟨s1, s2, s3, s4, s5, s6, s7⟩ := hS
            go_simp
            rfl
          refine Late.takeC (i := 10) (v := ?_) rfl (by kernel_rfl) (by kernel_rfl) (by kernel_rfl) (by kernel_rfl) (fun _ _ _ h => h) (Or.inl ⟨by rfl, ?_⟩) ⟨lv, e0, e1, e2, e3, e4, wv⟩ ?_
          rotate_left
          · intro w' hS
            obtain ⟨s1, s2, s3, s4, s5, s6, s7⟩ := hS
            go_simp
            rfl
          refine Late.takeC (i := 11) (v := ?_) rfl (by kernel_rfl) (by kernel_rfl) (by kernel_rfl) (by kernel_rfl) (fun _ _ _ h => h) (Or.inl ⟨by rfl, ?_⟩) ⟨lv, e0, e1, e2, e3, e4, wv⟩ ?_
          rotate_left
          · intro w' hS
            obtain ⟨s1, s2, s3, s4, s5, s6, s7⟩ := hS
            go_simp
            rfl
          refine Late.takeC (i := 12) (v := ?_) rfl (by kernel_rfl) (by kernel_rfl) (by kernel_rfl) (by kernel_rfl) (fun _ _ _ h => h) (Or.inl ⟨by rfl, ?_⟩) ⟨lv, e0, e1, e2, e3, e4, wv⟩ ?_
          rotate_left
          · intro w' hS
            obtain ⟨s1, s2, s3, s4, s5, s6, s7⟩ := hS
            go_simp
            rfl
          refine Late.takeC (i := 14) (v := ?_) rfl (by kernel_rfl) (by kernel_rfl) (by kernel_rfl) (by kernel_rfl) (fun _ _ _ h => h) (Or.inl ⟨by rfl, ?_⟩) ⟨lv, e0, e1, e2, e3, e4, wv⟩ ?_
          rotate_left
          · intro w' hS
            obtain ⟨s1, s2, s3, s4, s5, s6, s7⟩ := hS
            go_simp
            rfl
          refine Late.takeC (i := 15) (v := ?_) rfl (by kernel_rfl) (by kernel_rfl) (by kernel_rfl) (by kernel_rfl) (fun _ _ _ h => h) (Or.inl ⟨by rfl, ?_⟩) ⟨lv, e0, e1, e2, e3, e4, wv⟩ ?_
          rotate_left
          · intro w' hS
            obtain ⟨s1, s2, s3, s4, s5, s6, s7⟩ := hS
            go_simp
            rfl
          refine Late.takeC (i := 16) (v := ?_) rfl (by kernel_rfl) (by kernel_rfl) (by kernel_rfl) (by kernel_rfl) (fun _ _ _ h => h) (Or.inl ⟨by rfl, ?_⟩) ⟨lv, e0, e1, e2, e3, e4, wv⟩ ?_
          rotate_left
          · intro w' hS
            obtain ⟨s1, s2, s3, s4, s5, s6, s7⟩ := hS
            go_simp
            rfl
          refine Late.one (i := 13) (by kernel_rfl) rfl (fun K hK => ?_)
          go_simp
          refine (watched_calls q en cap ea (ep.map fun b => ⟨b, 0, none⟩) (WP.map fun b => ⟨b, 0, none⟩)).mono ?_; rintro r wD ⟨rfl, bD⟩
          have bD2 : Below wc.heap.size wc wD := ⟨bD.os, bD.tape, bD.output, bD.size, bD.block⟩
          have hRD := HRX.out.below bD2
          have lv := (bD.cell (World.block_lt_of_cell? wc.drew _ lv)).trans lv
          have e0 := (bD.cell (World.block_lt_of_cell? wc.drew _ e0)).trans e0
          have e1 := (bD.cell (World.block_lt_of_cell? wc.drew _ e1)).trans e1
          have e2 := (bD.cell (World.block_lt_of_cell? wc.drew _ e2)).trans e2
          have e3 := (bD.cell (World.block_lt_of_cell? wc.drew _ e3)).trans e3
          have e4 := (bD.cell (World.block_lt_of_cell? wc.drew _ e4)).trans e4
          have wv := (bD.cell (World.block_lt_of_cell? wc.drew _ wv)).trans wv
          have cE := HCE.out.step (Step.of_below (L := LX) bD2 (fun _ => False) 30) (fun x => x)
          refine hK _ _ (fun _ => ⟨lv, e0, e1, e2, e3, e4, wv⟩) ?_
          clear hK K
          have hRD : Room w0 mb (ext LX wc.heap.size 30) wD s := hRD
          have cE : Cells (ext LX wc.heap.size 30) wD (w.heap.size + 1) 30 _ := cE
          generalize ext LX wc.heap.size 30 = LD at *
          have hmf : wD.frozen? ⟨mb, 2, none⟩ = false := frozen_of_heap hRD.obj
          have hml2 := lt_of_heap hRD.obj
          have hownD : wD.ownsRow 0 108 6 (.slice pv s.l.length kv) s.l.length (enCells s.l) := by rw [← HV0.out]; exact hRD.list.1
          have hne : some mb ≠ (Value.slice pv s.l.length kv).ownBlock := by
            intro e; have := hRD.list.2 mb (by rw [HV0.out]; exact e.symm); rw [hRD.objc] at this; cases this
          have hneb : some (w.heap.size + 1) ≠ (Value.slice pv s.l.length kv).ownBlock := by
            intro e; have := hRD.list.2 _ (by rw [HV0.out]; exact e.symm); rw [cE.2.1] at this; cases this
          have fz : ∀ o, (wD.alloc o).frozen? ⟨mb, 2, none⟩ = false := fun o => by rw [World.frozen?_alloc_old _ _ _ (Nat.ne_of_lt hml2)]; exact hmf
          have fa : ∀ (bb oo : Nat) (u : Value) (o : Obj), wD.cell? ⟨bb, oo, none⟩ = some u → (wD.alloc o).cell? ⟨bb, oo, none⟩ = some u := fun bb oo u o hu => by rw [World.cell?_alloc_lt _ _ _ (World.block_lt_of_cell? _ _ hu)]; exact hu
          have HRD := Lib.hid hRD
          have HFA := Lib.hid fa
          clear hRD cE fa bD bD2
          refine Late.one (i := 17) (by kernel_rfl) rfl (fun K hK => ?_)
          go_simp
          refine hK _ _ (fun _ => ⟨lv, e0, e1, e2, e3, e4, wv⟩) ?_
          clear hK K
          refine Late.one (i := 18) (by kernel_rfl) rfl (fun K hK => ?_)
          go_simp
          refine hK _ _ (fun _ => ⟨HFA.out _ _ _ _ lv, HFA.out _ _ _ _ e0, HFA.out _ _ _ _ e1, HFA.out _ _ _ _ e2, HFA.out _ _ _ _ e3, HFA.out _ _ _ _ e4, HFA.out _ _ _ _ wv⟩) ?_
          clear hK K
          refine Late.one (i := 19) (by kernel_rfl) rfl (fun K hK => ?_)
          refine step_append_lies _ (by rfl) _ _ _ (by rfl) 0 108 i0 _ 6 80 Try.underlying93 hi hz0 hz1 hz2 rfl (by omega) (.slice pv s.l.length kv) s.l.length (enCells s.l) (by rfl) (hownD.alloc _) ⟨wD.heap.size, 0, none⟩ 1 1 [.slice q en cap, .int .i64 (ea : Int), (.pointer (WP.map fun b => ⟨b, 0, none⟩)), .slice q2 en cap2, .int .i64 (ea : Int), .int .i64 (WH : Int)] (by rfl) (by rfl) (World.news_of_block (cs := #[.slice q en cap, .int .i64 (ea : Int), (.pointer (WP.map fun b => ⟨b, 0, none⟩)), .slice q2 en cap2, .int .i64 (ea : Int), .int .i64 (WH : Int)]) (t := 108) (fr := (0, 0)) (heap_alloc_new wD _)) (by simp [Value.oneCell']) (by omega) (by unfold maxLen; omega) (by omega) (by omega) (wD.heap.size + 1) (by simp) ?_
          intro gg cap1 wG hown1 hgrow hat hlt
          have far : ∀ {bb oo u}, wD.cell? ⟨bb, oo, none⟩ = some u → some bb ≠ (Value.slice pv s.l.length kv).ownBlock → wG.cell? ⟨bb, oo, none⟩ = some u := fun hu hn =>
            (hgrow.cell_far _ (by have := World.block_lt_of_cell? _ _ hu; simp at this ⊢; omega) hn).trans (HFA.out _ _ _ _ hu)
          have ez : wG.frozen? ⟨mb, 2, none⟩ = false := (hgrow.frozen_far _ (by simp; omega) hne).trans (fz _)
          have lv := far lv hne
          have e0 := far e0 hneb
          have e1 := far e1 hneb
          have e2 := far e2 hneb
          have e3 := far e3 hneb
          have e4 := far e4 hneb
          have wv := far wv hne
          refine hK _ _ (fun _ => ⟨lv, e0, e1, e2, e3, e4, wv⟩) ?_
          clear hK K far
          refine Late.one (i := 20) (by kernel_rfl) rfl (fun K hK => ?_)
          go_simp
          refine hK _ _ (fun _ => ⟨lv, e0, e1, e2, e3, e4, wv⟩) ?_
          clear hK K
          refine Late.one (i := 21) (by kernel_rfl) rfl (fun K hK => ?_)
          go_simp
          refine hK _ _ (fun _ => ⟨lv, e0, e1, e2, e3, e4, wv⟩) ?_
          clear hK K
          refine Late.one (i := 22) (by kernel_rfl) rfl (fun K hK => ?_)
          go_simp
          refine hK _ _ (fun h => by cases h) ?_
          clear hK K
          refine Late.done (by kernel_rfl) ?_ _
          have hown2 : wG.ownsRow 0 108 6 (.slice (some ⟨gg, 0, none⟩) (s.l.length + 1) cap1) (s.l ++ [En.mk ea en (.slice q en cap) (.slice q2 en cap2) WH WP]).length (enCells (s.l ++ [En.mk ea en (.slice q en cap) (.slice q2 en cap2) WH WP])) := by
            rw [enCells_append, List.length_append]; exact hown1
          obtain ⟨LI, stI, o1, o2⟩ := list_grown (j := 2) HRD.out.obj HRD.out.objc (c := 15) (by decide) HRD.out.list (below_alloc wD (Obj.cells #[.slice q en cap, .int .i64 (ea : Int), (.pointer (WP.map fun b => ⟨b, 0, none⟩)), .slice q2 en cap2, .int .i64 (ea : Int), .int .i64 (WH : Int)] 108)) hown2 (by rw [HV0.out]; exact hgrow) (by
            intro g hg
            have hg' : gg = g := by simpa [Value.ownBlock] using hg
            rw [← hg', HV0.out]
            rcases hat with h | h
            · exact .inl h
            · right; omega)
          have hRI := HRD.out.put_lv stI (fun d hd => hd) (by simpa [Rm.cells] using o1) o2
          have HS := Lib.hid (show Stepped w0 mb gb w1 w2 K _ from ⟨LI, _, hRI, add_good g (.slice (some ⟨gg, 0, none⟩) (s.l.length + 1) cap1) HENT.out hml, add_bound (b.mono (by omega)) _ _⟩)
          clear hRI stI o1 o2 hown2 hown1 hgrow hat hlt
          go_wp2_with fail
          go_ret
          exact ⟨rfl, HS.out⟩
        · go_wp2_with fail
          refine (HP.out _).mono ?_; rintro r wD ⟨rfl, rfl⟩
          go_upto_if 147 with fail
          rw [HWI.out]
          go_wp2_with fail
          go_ret
          exact ⟨rfl, LX, s, HRX.out, g, b.mono (by omega)⟩
      · have hWH : 0 < 3 := by omega
        obtain ⟨pv, kv, hv0, _⟩ := ownsRow_shape HRX.out.list.1
        have lv : wc.cell? ⟨mb, 2, none⟩ = some (.slice pv s.l.length kv) := by rw [cell_of_heap HRX.out.obj, ← hv0]; rfl
        have wv : wc.cell? ⟨mb, 3, none⟩ = some (.pointer ((pOf w1 w2 0).map fun b => ⟨b, 0, none⟩)) := HRX.out.watchW g 0 (by omega)
        have HV0 := Lib.hid hv0
        clear hv0
        by_cases hml : s.l.length < 40
        · obtain ⟨i0, hi, hz0, hz1, hz2⟩ := info_parts infoSeen
          have HENT := Lib.hid (show Ent gb s.N w1 w2 ⟨ea, en, .slice q en cap, .slice q2 en cap2, 0, pOf w1 w2 0⟩ from ⟨HE.out.fits, HE.out.v, HE.out.r, hWH, rfl⟩)
          obtain ⟨WP, hWP⟩ : ∃ WP, WP = pOf w1 w2 0 := ⟨_, rfl⟩
          rw [← hWP] at wv HENT
          clear hWP
          go_wp2_with fail
          refine Late.region (fun w' => w'.cell? ⟨mb, 2, none⟩ = some (.slice pv s.l.length kv) ∧ w'.cell? ⟨w.heap.size + 1, 0, none⟩ = some (.slice q en cap) ∧ w'.cell? ⟨w.heap.size + 1, 1, none⟩ = some (.int .i64 (ea : Int)) ∧ w'.cell? ⟨w.heap.size + 1, 2, none⟩ = some (.pointer (ep.map fun b => ⟨b, 0, none⟩)) ∧ w'.cell? ⟨w.heap.size + 1, 3, none⟩ = some (.slice q2 en cap2) ∧ w'.cell? ⟨w.heap.size + 1, 4, none⟩ = some (.int .i64 (ea : Int)) ∧ w'.cell? ⟨mb, 3, none⟩ = some (.pointer (WP.map fun b => ⟨b, 0, none⟩))) (fun j => decide (21 < j)) (by kernel_rfl) ?_
          refine Late.takeC (i := 0) (v := ?_) rfl (by kernel_rfl) (by kernel_rfl) (by kernel_rfl) (by kernel_rfl) (fun _ _ _ h => h) (Or.inl ⟨by rfl, ?_⟩) ⟨lv, e0, e1, e2, e3, e4, wv⟩ ?_
          rotate_left
          · intro w' hS
            obtain ⟨s1, s2, s3, s4, s5, s6, s7⟩ := hS
            go_simp
            rfl
          refine Late.takeC (i := 1) (v := ?_) rfl (by kernel_rfl) (by kernel_rfl) (by kernel_rfl) (by kernel_rfl) (fun _ _ _ h => h) (Or.inl ⟨by rfl, ?_⟩) ⟨lv, e0, e1, e2, e3, e4, wv⟩ ?_
          rotate_left
          · intro w' hS
            obtain ⟨s1, s2, s3, s4, s5, s6, s7⟩ := hS
            go_simp
            rfl
          refine Late.takeC (i := 2) (v := ?_) rfl (by kernel_rfl) (by kernel_rfl) (by kernel_rfl) (by kernel_rfl) (fun _ _ _ h => h) (Or.inl ⟨by rfl, ?_⟩) ⟨lv, e0, e1, e2, e3, e4, wv⟩ ?_
          rotate_left
          · intro w' hS
            obtain ⟨s1, s2, s3, s4, s5, s6, s7⟩ := hS
            go_simp
            rfl
          refine Late.takeC (i := 3) (v := ?_) rfl (by kernel_rfl) (by kernel_rfl) (by kernel_rfl) (by kernel_rfl) (fun _ _ _ h => h) (Or.inl ⟨by rfl, ?_⟩) ⟨lv, e0, e1, e2, e3, e4, wv⟩ ?_
          rotate_left
          · intro w' hS
            obtain ⟨s1, s2, s3, s4, s5, s6, s7⟩ := hS
            go_simp
            rfl
          refine Late.takeC (i := 4) (v := ?_) rfl (by kernel_rfl) (by kernel_rfl) (by kernel_rfl) (by kernel_rfl) (fun _ _ _ h => h) (Or.inl ⟨by rfl, ?_⟩) ⟨lv, e0, e1, e2, e3, e4, wv⟩ ?_
          rotate_left
          · intro w' hS
            obtain ⟨s1, s2, s3, s4, s5, s6, s7⟩ := hS
            go_simp
            rfl
          refine Late.takeC (i := 5) (v := ?_) rfl (by kernel_rfl) (by kernel_rfl) (by kernel_rfl) (by kernel_rfl) (fun _ _ _ h => h) (Or.inl ⟨by rfl, ?_⟩) ⟨lv, e0, e1, e2, e3, e4, wv⟩ ?_
          rotate_left
          · intro w' hS
            obtain ⟨s1, s2, s3, s4, s5, s6, s7⟩ := hS
            go_simp
            rfl
          refine Late.takeC (i := 6) (v := ?_) rfl (by kernel_rfl) (by kernel_rfl) (by kernel_rfl) (by kernel_rfl) (fun _ _ _ h => h) (Or.inl ⟨by rfl, ?_⟩) ⟨lv, e0, e1, e2, e3, e4, wv⟩ ?_
          rotate_left
          · intro w' hS
            obtain ⟨s1, s2, s3, s4, s5, s6, s7⟩ := hS
            go_simp
            rfl
          refine Late.takeC (i := 7) (v := ?_) rfl (by kernel_rfl) (by kernel_rfl) (by kernel_rfl) (by kernel_rfl) (fun _ _ _ h => h) (Or.inl ⟨by rfl, ?_⟩) ⟨lv, e0, e1, e2, e3, e4, wv⟩ ?_
          rotate_left
          · intro w' hS
            obtain ⟨s1, s2, s3, s4, s5, s6, s7⟩ := hS
            go_simp
            rfl
          refine Late.takeC (i := 8) (v := ?_) rfl (by kernel_rfl) (by kernel_rfl) (by kernel_rfl) (by kernel_rfl) (fun _ _ _ h => h) (Or.inl ⟨by rfl, ?_⟩) ⟨lv, e0, e1, e2, e3, e4, wv⟩ ?_
          rotate_left
          · intro w' hS
            obtain ⟨s1, s2, s3, s4, s5, s6, s7⟩ := hS
            go_simp
            rfl
          refine Late.takeC (i := 9) (v := ?_) rfl (by kernel_rfl) (by kernel_rfl) (by kernel_rfl) (by kernel_rfl) (fun _ _ _ h => h) (Or.inl ⟨by rfl, ?_⟩) ⟨lv, e0, e1, e2, e3, e4, wv⟩ ?_
          rotate_left
          · intro w' hS
            obtain ⟨s1, s2, s3, s4, s5, s6, s7⟩ := hS
            go_simp
            rfl
          refine Late.takeC (i := 10) (v := ?_) rfl (by kernel_rfl) (by kernel_rfl) (by kernel_rfl) (by kernel_rfl) (fun _ _ _ h => h) (Or.inl ⟨by rfl, ?_⟩) ⟨lv, e0, e1, e2, e3, e4, wv⟩ ?_
          rotate_left
          · intro w' hS
            obtain ⟨s1, s2, s3, s4, s5, s6, s7⟩ := hS
            go_simp
            rfl
          refine Late.takeC (i := 11) (v := ?_) rfl (by kernel_rfl) (by kernel_rfl) (by kernel_rfl) (by kernel_rfl) (fun _ _ _ h => h) (Or.inl ⟨by rfl, ?_⟩) ⟨lv, e0, e1, e2, e3, e4, wv⟩ ?_
          rotate_left
          · intro w' hS
            obtain ⟨s1, s2, s3, s4, s5, s6, s7⟩ := hS
            go_simp
            rfl
          refine Late.takeC (i := 12) (v := ?_) rfl (by kernel_rfl) (by kernel_rfl) (by kernel_rfl) (by kernel_rfl) (fun _ _ _ h => h) (Or.inl ⟨by rfl, ?_⟩) ⟨lv, e0, e1, e2, e3, e4, wv⟩ ?_
          rotate_left
          · intro w' hS
            obtain ⟨s1, s2, s3, s4, s5, s6, s7⟩ := hS
            go_simp
            rfl
          refine Late.takeC (i := 14) (v := ?_) rfl (by kernel_rfl) (by kernel_rfl) (by kernel_rfl) (by kernel_rfl) (fun _ _ _ h => h) (Or.inl ⟨by rfl, ?_⟩) ⟨lv, e0, e1, e2, e3, e4, wv⟩ ?_
          rotate_left
          · intro w' hS
            obtain ⟨s1, s2, s3, s4, s5, s6, s7⟩ := hS
            go_simp
            rfl
          refine Late.takeC (i := 15) (v := ?_) rfl (by kernel_rfl) (by kernel_rfl) (by kernel_rfl) (by kernel_rfl) (fun _ _ _ h => h) (Or.inl ⟨by rfl, ?_⟩) ⟨lv, e0, e1, e2, e3, e4, wv⟩ ?_
          rotate_left
          · intro w' hS
            obtain ⟨s1, s2, s3, s4, s5, s6, s7⟩ := hS
            go_simp
            rfl
          refine Late.takeC (i := 16) (v := ?_) rfl (by kernel_rfl) (by kernel_rfl) (by kernel_rfl) (by kernel_rfl) (fun _ _ _ h => h) (Or.inl ⟨by rfl, ?_⟩) ⟨lv, e0, e1, e2, e3, e4, wv⟩ ?_
          rotate_left
          · intro w' hS
            obtain ⟨s1, s2, s3, s4, s5, s6, s7⟩ := hS
            go_simp
            rfl
          refine Late.one (i := 13) (by kernel_rfl) rfl (fun K hK => ?_)
          go_simp
          refine (watched_calls q en cap ea (ep.map fun b => ⟨b, 0, none⟩) (WP.map fun b => ⟨b, 0, none⟩)).mono ?_; rintro r wD ⟨rfl, bD⟩
          have bD2 : Below wc.heap.size wc wD := ⟨bD.os, bD.tape, bD.output, bD.size, bD.block⟩
          have hRD := HRX.out.below bD2
          have lv := (bD.cell (World.block_lt_of_cell? wc.drew _ lv)).trans lv
          have e0 := (bD.cell (World.block_lt_of_cell? wc.drew _ e0)).trans e0
          have e1 := (bD.cell (World.block_lt_of_cell? wc.drew _ e1)).trans e1
          have e2 := (bD.cell (World.block_lt_of_cell? wc.drew _ e2)).trans e2
          have e3 := (bD.cell (World.block_lt_of_cell? wc.drew _ e3)).trans e3
          have e4 := (bD.cell (World.block_lt_of_cell? wc.drew _ e4)).trans e4
          have wv := (bD.cell (World.block_lt_of_cell? wc.drew _ wv)).trans wv
          have cE := HCE.out.step (Step.of_below (L := LX) bD2 (fun _ => False) 30) (fun x => x)
          refine hK _ _ (fun _ => ⟨lv, e0, e1, e2, e3, e4, wv⟩) ?_
          clear hK K
          have hRD : Room w0 mb (ext LX wc.heap.size 30) wD s := hRD
          have cE : Cells (ext LX wc.heap.size 30) wD (w.heap.size + 1) 30 _ := cE
          generalize ext LX wc.heap.size 30 = LD at *
          have hmf : wD.frozen? ⟨mb, 2, none⟩ = false := frozen_of_heap hRD.obj
          have hml2 := lt_of_heap hRD.obj
          have hownD : wD.ownsRow 0 108 6 (.slice pv s.l.length kv) s.l.length (enCells s.l) := by rw [← HV0.out]; exact hRD.list.1
          have hne : some mb ≠ (Value.slice pv s.l.length kv).ownBlock := by
            intro e; have := hRD.list.2 mb (by rw [HV0.out]; exact e.symm); rw [hRD.objc] at this; cases this
          have hneb : some (w.heap.size + 1) ≠ (Value.slice pv s.l.length kv).ownBlock := by
            intro e; have := hRD.list.2 _ (by rw [HV0.out]; exact e.symm); rw [cE.2.1] at this; cases this
          have fz : ∀ o, (wD.alloc o).frozen? ⟨mb, 2, none⟩ = false := fun o => by rw [World.frozen?_alloc_old _ _ _ (Nat.ne_of_lt hml2)]; exact hmf
          have fa : ∀ (bb oo : Nat) (u : Value) (o : Obj), wD.cell? ⟨bb, oo, none⟩ = some u → (wD.alloc o).cell? ⟨bb, oo, none⟩ = some u := fun bb oo u o hu => by rw [World.cell?_alloc_lt _ _ _ (World.block_lt_of_cell? _ _ hu)]; exact hu
          have HRD := Lib.hid hRD
          have HFA := Lib.hid fa
          clear hRD cE fa bD bD2
          refine Late.one (i := 17) (by kernel_rfl) rfl (fun K hK => ?_)
          go_simp
          refine hK _ _ (fun _ => ⟨lv, e0, e1, e2, e3, e4, wv⟩) ?_
          clear hK K
          refine Late.one (i := 18) (by kernel_rfl) rfl (fun K hK => ?_)
          go_simp
          refine hK _ _ (fun _ => ⟨HFA.out _ _ _ _ lv, HFA.out _ _ _ _ e0, HFA.out _ _ _ _ e1, HFA.out _ _ _ _ e2, HFA.out _ _ _ _ e3, HFA.out _ _ _ _ e4, HFA.out _ _ _ _ wv⟩) ?_
          clear hK K
          refine Late.one (i := 19) (by kernel_rfl) rfl (fun K hK => ?_)
          refine step_append_lies _ (by rfl) _ _ _ (by rfl) 0 108 i0 _ 6 80 Try.underlying93 hi hz0 hz1 hz2 rfl (by omega) (.slice pv s.l.length kv) s.l.length (enCells s.l) (by rfl) (hownD.alloc _) ⟨wD.heap.size, 0, none⟩ 1 1 [.slice q en cap, .int .i64 (ea : Int), (.pointer (WP.map fun b => ⟨b, 0, none⟩)), .slice q2 en cap2, .int .i64 (ea : Int), .int .i64 0] (by rfl) (by rfl) (World.news_of_block (cs := #[.slice q en cap, .int .i64 (ea : Int), (.pointer (WP.map fun b => ⟨b, 0, none⟩)), .slice q2 en cap2, .int .i64 (ea : Int), .int .i64 0]) (t := 108) (fr := (0, 0)) (heap_alloc_new wD _)) (by simp [Value.oneCell']) (by omega) (by unfold maxLen; omega) (by omega) (by omega) (wD.heap.size + 1) (by simp) ?_
          intro gg cap1 wG hown1 hgrow hat hlt
          have far : ∀ {bb oo u}, wD.cell? ⟨bb, oo, none⟩ = some u → some bb ≠ (Value.slice pv s.l.length kv).ownBlock → wG.cell? ⟨bb, oo, none⟩ = some u := fun hu hn =>
            (hgrow.cell_far _ (by have := World.block_lt_of_cell? _ _ hu; simp at this ⊢; omega) hn).trans (HFA.out _ _ _ _ hu)
          have ez : wG.frozen? ⟨mb, 2, none⟩ = false := (hgrow.frozen_far _ (by simp; omega) hne).trans (fz _)
          have lv := far lv hne
          have e0 := far e0 hneb
          have e1 := far e1 hneb
          have e2 := far e2 hneb
          have e3 := far e3 hneb
          have e4 := far e4 hneb
          have wv := far wv hne
          refine hK _ _ (fun _ => ⟨lv, e0, e1, e2, e3, e4, wv⟩) ?_
          clear hK K far
          refine Late.one (i := 20) (by kernel_rfl) rfl (fun K hK => ?_)
          go_simp
          refine hK _ _ (fun _ => ⟨lv, e0, e1, e2, e3, e4, wv⟩) ?_
          clear hK K
          refine Late.one (i := 21) (by kernel_rfl) rfl (fun K hK => ?_)
          go_simp
          refine hK _ _ (fun _ => ⟨lv, e0, e1, e2, e3, e4, wv⟩) ?_
          clear hK K
          refine Late.one (i := 22) (by kernel_rfl) rfl (fun K hK => ?_)
          go_simp
          refine hK _ _ (fun h => by cases h) ?_
          clear hK K
          refine Late.done (by kernel_rfl) ?_ _
          have hown2 : wG.ownsRow 0 108 6 (.slice (some ⟨gg, 0, none⟩) (s.l.length + 1) cap1) (s.l ++ [En.mk ea en (.slice q en cap) (.slice q2 en cap2) 0 WP]).length (enCells (s.l ++ [En.mk ea en (.slice q en cap) (.slice q2 en cap2) 0 WP])) := by
            rw [enCells_append, List.length_append]; exact hown1
          obtain ⟨LI, stI, o1, o2⟩ := list_grown (j := 2) HRD.out.obj HRD.out.objc (c := 15) (by decide) HRD.out.list (below_alloc wD (Obj.cells #[.slice q en cap, .int .i64 (ea : Int), (.pointer (WP.map fun b => ⟨b, 0, none⟩)), .slice q2 en cap2, .int .i64 (ea : Int), .int .i64 0] 108)) hown2 (by rw [HV0.out]; exact hgrow) (by
            intro g hg
            have hg' : gg = g := by simpa [Value.ownBlock] using hg
            rw [← hg', HV0.out]
            rcases hat with h | h
            · exact .inl h
            · right; omega)
          have hRI := HRD.out.put_lv stI (fun d hd => hd) (by simpa [Rm.cells] using o1) o2
          have HS := Lib.hid (show Stepped w0 mb gb w1 w2 K _ from ⟨LI, _, hRI, add_good g (.slice (some ⟨gg, 0, none⟩) (s.l.length + 1) cap1) HENT.out hml, add_bound (b.mono (by omega)) _ _⟩)
          clear hRI stI o1 o2 hown2 hown1 hgrow hat hlt
          go_wp2_with fail
          go_ret
          exact ⟨rfl, HS.out⟩
        · go_wp2_with fail
          go_ret
          exact ⟨rfl, LX, s, HRX.out, g, b.mono (by omega)⟩
    have b8 : (kd == 8) = false := by simpa using hk8
    clear hk8
    by_cases hk9 : kd = 9
    · subst hk9
      have x0 : wc.cell? ⟨mb, 0, none⟩ = some (.slice (some ⟨gb, 0, none⟩) (s.N + 9) (s.N + 9)) := by rw [cell_of_heap HRX.out.obj, ← g.av]; rfl
      have x1 : wc.cell? ⟨mb, 1, none⟩ = some (.int .i64 (s.N : Int)) := by rw [cell_of_heap HRX.out.obj]; rfl
      have hsm := g.small
      by_cases hN : 0 < s.N
      · have hP0 := pickV_lt a (n := (s.N : Int)) (by omega)
        obtain ⟨P, hPe⟩ : ∃ P : Nat, (P : Int) = pickV a s.N := ⟨(pickV a s.N).toNat, by omega⟩
        have hPN : P < s.N := by omega
        have hPi : (P : Int) < (s.N : Int) + 9 := by omega
        have HP := Lib.hid (fun w => (pick_calls w a s.N ha ha2 (by omega)).mono (fun e w' h => (by rw [← hPe] at h; exact h : e = .returned (.int .i64 (P : Int)) ∧ w = w')))
        obtain ⟨gq, cq, hvq, _, d0, d1, owD, stD⟩ := Own.set (HRX.out.drew.own g) (j := P) (by have := g.len; simp; omega) (byt (lowByte m))
        cases hvq
        have hRD := HRX.out.drew.put_bytes (l := s.all.set P (lowByte m)) stD (fun d hd => hd) (by
          rw [g.av, List.length_set, g.len, List.map_set]; exact owD)
        have gD : Good gb w1 w2 { s with all := s.all.set P (lowByte m) } := ⟨by simp only [List.length_set]; exact g.len, by simp only [List.drop_set_of_lt hPN]; exact g.marks, g.av, g.small, g.p1, g.p2, g.ents, g.pos, g.most, g.e1, g.e2, g.rlen, g.raws⟩
        have bD : Bound { s with all := s.all.set P (lowByte m) } (K + 2) := ⟨by have := b.t1; simp; omega, by have := b.t2; simp; omega, by have := b.rl; simp; omega, by have := b.n0; simp; omega, by have := b.n1; simp; omega, by have := b.n2; simp; omega, by have := b.n3; simp; omega, b.m0, b.m1, b.m2, b.m3⟩
        have hlb := lowByte_eq m
        have HS := Lib.hid (show Stepped w0 mb gb w1 w2 K _ from ⟨LX, _, hRD, gD, bD⟩)
        obtain ⟨qv, dd0⟩ : ∃ qv, wc.drew.cell? ⟨gb, P, none⟩ = some qv := ⟨_, d0⟩
        clear d0
        have HLB := Lib.hid hlb
        clear hPe hP0 hRD gD bD owD stD hlb
        go_wp2_with fail
        refine Late.region (fun w' => w'.cell? ⟨mb, 0, none⟩ = some (.slice (some ⟨gb, 0, none⟩) (s.N + 9) (s.N + 9)) ∧ w'.cell? ⟨mb, 1, none⟩ = some (.int .i64 (s.N : Int)) ∧ w'.cell? ⟨w.heap.size, 2, none⟩ = some (.int .i64 a) ∧ w'.cell? ⟨w.heap.size, 3, none⟩ = some (.int .i64 m)) (fun j => decide (13 < j)) (by kernel_rfl) ?_
        refine Late.takeC (i := 0) (v := ?_) rfl (by kernel_rfl) (by kernel_rfl) (by kernel_rfl) (by kernel_rfl) (fun _ _ _ h => h) (Or.inl ⟨by rfl, ?_⟩) ⟨x0, x1, k2, k3⟩ ?_
        rotate_left
        · intro w' hS
          obtain ⟨s1, s2, s3, s4⟩ := hS
          go_simp
          rfl
        refine Late.takeC (i := 1) (v := ?_) rfl (by kernel_rfl) (by kernel_rfl) (by kernel_rfl) (by kernel_rfl) (fun _ _ _ h => h) (Or.inl ⟨by rfl, ?_⟩) ⟨x0, x1, k2, k3⟩ ?_
        rotate_left
        · intro w' hS
          obtain ⟨s1, s2, s3, s4⟩ := hS
          go_simp
          rfl
        refine Late.takeC (i := 2) (v := ?_) rfl (by kernel_rfl) (by kernel_rfl) (by kernel_rfl) (by kernel_rfl) (fun _ _ _ h => h) (Or.inl ⟨by rfl, ?_⟩) ⟨x0, x1, k2, k3⟩ ?_
        rotate_left
        · intro w' hS
          obtain ⟨s1, s2, s3, s4⟩ := hS
          go_simp
          rfl
        refine Late.takeC (i := 3) (v := ?_) rfl (by kernel_rfl) (by kernel_rfl) (by kernel_rfl) (by kernel_rfl) (fun _ _ _ h => h) (Or.inl ⟨by rfl, ?_⟩) ⟨x0, x1, k2, k3⟩ ?_
        rotate_left
        · intro w' hS
          obtain ⟨s1, s2, s3, s4⟩ := hS
          go_simp
          rfl
        refine Late.takeC (i := 4) (v := ?_) rfl (by kernel_rfl) (by kernel_rfl) (by kernel_rfl) (by kernel_rfl) (fun _ _ _ h => h) (Or.inl ⟨by rfl, ?_⟩) ⟨x0, x1, k2, k3⟩ ?_
        rotate_left
        · intro w' hS
          obtain ⟨s1, s2, s3, s4⟩ := hS
          go_simp
          rfl
        refine Late.takeC (i := 5) (v := ?_) rfl (by kernel_rfl) (by kernel_rfl) (by kernel_rfl) (by kernel_rfl) (fun _ _ _ h => h) (Or.inl ⟨by rfl, ?_⟩) ⟨x0, x1, k2, k3⟩ ?_
        rotate_left
        · intro w' hS
          obtain ⟨s1, s2, s3, s4⟩ := hS
          go_simp
          rfl
        refine Late.takeC (i := 6) (v := ?_) rfl (by kernel_rfl) (by kernel_rfl) (by kernel_rfl) (by kernel_rfl) (fun _ _ _ h => h) (Or.inl ⟨by rfl, ?_⟩) ⟨x0, x1, k2, k3⟩ ?_
        rotate_left
        · intro w' hS
          obtain ⟨s1, s2, s3, s4⟩ := hS
          go_simp
          rfl
        refine Late.takeC (i := 7) (v := ?_) rfl (by kernel_rfl) (by kernel_rfl) (by kernel_rfl) (by kernel_rfl) (fun _ _ _ h => h) (Or.inl ⟨by rfl, ?_⟩) ⟨x0, x1, k2, k3⟩ ?_
        rotate_left
        · intro w' hS
          obtain ⟨s1, s2, s3, s4⟩ := hS
          go_simp
          rfl
        refine Late.takeC (i := 8) (v := ?_) rfl (by kernel_rfl) (by kernel_rfl) (by kernel_rfl) (by kernel_rfl) (fun _ _ _ h => h) (Or.inl ⟨by rfl, ?_⟩) ⟨x0, x1, k2, k3⟩ ?_
        rotate_left
        · intro w' hS
          obtain ⟨s1, s2, s3, s4⟩ := hS
          go_simp
          rfl
        refine Late.takeC (i := 9) (v := ?_) rfl (by kernel_rfl) (by kernel_rfl) (by kernel_rfl) (by kernel_rfl) (fun _ _ _ h => h) (Or.inl ⟨by rfl, ?_⟩) ⟨x0, x1, k2, k3⟩ ?_
        rotate_left
        · intro w' hS
          obtain ⟨s1, s2, s3, s4⟩ := hS
          go_simp
          rfl
        refine Late.takeC (i := 11) (v := ?_) rfl (by kernel_rfl) (by kernel_rfl) (by kernel_rfl) (by kernel_rfl) (fun _ _ _ h => h) (Or.inl ⟨by rfl, ?_⟩) ⟨x0, x1, k2, k3⟩ ?_
        rotate_left
        · intro w' hS
          obtain ⟨s1, s2, s3, s4⟩ := hS
          go_simp
          rfl
        refine Late.takeC (i := 12) (v := ?_) rfl (by kernel_rfl) (by kernel_rfl) (by kernel_rfl) (by kernel_rfl) (fun _ _ _ h => h) (Or.inl ⟨by rfl, ?_⟩) ⟨x0, x1, k2, k3⟩ ?_
        rotate_left
        · intro w' hS
          obtain ⟨s1, s2, s3, s4⟩ := hS
          go_simp
          rfl
        refine Late.takeC (i := 13) (v := ?_) rfl (by kernel_rfl) (by kernel_rfl) (by kernel_rfl) (by kernel_rfl) (fun _ _ _ h => h) (Or.inl ⟨by rfl, ?_⟩) ⟨x0, x1, k2, k3⟩ ?_
        rotate_left
        · intro w' hS
          obtain ⟨s1, s2, s3, s4⟩ := hS
          go_simp
          rfl
        refine Late.one (i := 10) (by kernel_rfl) rfl (fun K hK => ?_)
        go_simp
        refine (HP.out _).mono ?_; rintro r wD ⟨rfl, rfl⟩
        refine hK _ _ (fun _ => ⟨x0, x1, k2, k3⟩) ?_
        clear hK K
        refine Late.one (i := 14) (by kernel_rfl) rfl (fun K hK => ?_)
        go_simp
        refine hK _ _ (fun h => by cases h) ?_
        clear hK K
        refine Late.one (i := 15) (by kernel_rfl) rfl (fun K hK => ?_)
        go_simp
        refine hK _ _ (fun h => by cases h) ?_
        clear hK K
        refine Late.done (by kernel_rfl) ?_ _
        rw [HLB.out]
        go_wp2_with fail
        go_ret
        exact ⟨rfl, HS.out⟩
      · go_wp2_with fail
        go_ret
        exact ⟨rfl, LX, s, HRX.out, g, b.mono (by omega)⟩
    have b9 : (kd == 9) = false := by simpa using hk9
    clear hk9
    by_cases hk10 : kd = 10
    · subst hk10
      go_wp2_with fail
      refine (watches_calls HRX.out g b (by omega)).mono ?_
      rintro r wD ⟨rfl, hS⟩
      have HS := Lib.hid hS
      clear hS
      go_wp2_with fail
      go_ret
      obtain ⟨L9, hR9⟩ := HS.out
      exact ⟨rfl, L9, s, hR9, g, b.mono (by omega)⟩
    have b10 : (kd == 10) = false := by simpa using hk10
    clear hk10
    go_wp2_with fail
    go_ret
    exact ⟨rfl, LX, s, HRX.out, g, b.mono (by omega)⟩

end Go.Proofs.Ytajaonnpekdklaa.Vr
