import Derived.Test.YtkhpgcbjmopkfaaGreatDoorFs
import Derived.Test.YtkhpgcbjmopkfaaGreatDoorHa
set_option linter.unusedVariables false
set_option maxRecDepth 100000
/-!
  ARE TWO FIELDS THE SAME IN ALL? No conditions.
-/
namespace Go.Fld.Late
open Go
section
variable {P : Program} {ops : Array Oper} {Q : Exit → Act → World → Prop} {md : Region.Mode} {S : World → Prop} {late : Nat → Bool}
/-- Two that may come up. -/
theorem two {i k : Nat} {oi ok : Oper} {fuel : Nat} {listed : Array Bool} {a : Act} {w : World} (hr : Region.ready md ops listed = [i, k]) (hi : ops[i]? = some oi) (hk : ops[k]? = some ok)
    (h1 : ∀ K : Act → World → Prop, (∀ a' w', (late i = false → S w') → AnyL P md ops Q S late fuel (listed.setIfInBounds i true) a' w' → K a' w') →
      if Region.wanted oi (yielded ops a.tmps) = true then Oper.wp P oi a w K Q else K (a.put oi.dst undef) w)
    (h2 : ∀ K : Act → World → Prop, (∀ a' w', (late k = false → S w') → AnyL P md ops Q S late fuel (listed.setIfInBounds k true) a' w' → K a' w') →
      if Region.wanted ok (yielded ops a.tmps) = true then Oper.wp P ok a w K Q else K (a.put ok.dst undef) w) : AnyL P md ops Q S late (fuel + 1) listed a w := by
  refine ⟨fun h0 => (by rw [h0] at hr; cases hr), fun j hj => ?_⟩
  rw [hr] at hj
  have hj' : j = i ∨ j = k := by simpa using hj
  unfold wpOp
  rcases hj' with rfl | rfl
  · simp only [hi]
    have g := h1 (fun a' w' => (late j = false → S w') ∧ AnyL P md ops Q S late fuel (listed.setIfInBounds j true) a' w') (fun a' w' g1 g2 => ⟨g1, g2⟩)
    split
    · rename_i hw; rw [if_pos hw] at g; exact .inl g
    · rename_i hw; rw [if_neg hw] at g; exact g
  · simp only [hk]
    have g := h2 (fun a' w' => (late j = false → S w') ∧ AnyL P md ops Q S late fuel (listed.setIfInBounds j true) a' w') (fun a' w' g1 g2 => ⟨g1, g2⟩)
    split
    · rename_i hw; rw [if_pos hw] at g; exact .inl g
    · rename_i hw; rw [if_neg hw] at g; exact g
end
end Go.Fld.Late

namespace Go.Fld
open Go Go.RowKit Go.Proofs Go.ChangeShapes Go.WideShapes Go.ChangeAt Go.Shelf

mutual
/-- Are two fields the same in all? -/
def eqF : Fd → Fd → Bool
  | .mk nm nl k wd id ix kids, g => ((((((nm.toList == g.nm.toList) && (nl == g.nl)) && (k == g.k)) && (wd == g.wd)) && (id == g.id)) && (ix == g.ix)) && eqL kids g.kids
def eqL : List Fd → List Fd → Bool
  | [], [] => true
  | f :: r, g :: s => eqF f g && eqL r s
  | _, _ => false
end
theorem eqF_eq (f g : Fd) : eqF f g = (((((((f.nm.toList == g.nm.toList) && (f.nl == g.nl)) && (f.k == g.k)) && (f.wd == g.wd)) && (f.id == g.id)) && (f.ix == g.ix)) && eqL f.kids g.kids) := by
  cases f
  rw [eqF]
  rfl
theorem eqL_len : ∀ {l r : List Fd}, l.length ≠ r.length → eqL l r = false
  | [], [], h => absurd rfl h
  | [], _ :: _, _ => by rw [eqL]; all_goals simp
  | _ :: _, [], _ => by rw [eqL]; all_goals simp
  | f :: l, g :: r, h => by rw [eqL, eqL_len (l := l) (r := r) (by simpa using h), Bool.and_false]
theorem eqL_at : ∀ {l r : List Fd} (i : Nat) (hi : i < l.length) (hi2 : i < r.length), eqF l[i] r[i] = false → eqL l r = false
  | [], _, i, hi, _, _ => absurd hi (Nat.not_lt_zero _)
  | _ :: _, [], i, _, hi, _ => absurd hi (Nat.not_lt_zero _)
  | f :: l, g :: r, 0, _, _, h => by rw [eqL, show eqF f g = false from h, Bool.false_and]
  | f :: l, g :: r, i + 1, hi, hi2, h => by rw [eqL, eqL_at (l := l) (r := r) i (by simpa using hi) (by simpa using hi2) (by simpa using h), Bool.and_false]
theorem eqL_all : ∀ {l r : List Fd}, l.length = r.length → (∀ (i : Nat) (hi : i < l.length) (hi2 : i < r.length), eqF l[i] r[i] = true) → eqL l r = true
  | [], [], _, _ => by rw [eqL]
  | [], _ :: _, h, _ => by simp at h
  | _ :: _, [], h, _ => by simp at h
  | f :: l, g :: r, h, ha => by
    rw [eqL, show eqF f g = true from ha 0 (by simp) (by simp), eqL_all (l := l) (r := r) (by simpa using h) (fun i hi hi2 => ha (i + 1) (by simpa using hi) (by simpa using hi2))]
    rfl
theorem eqF_refl : ∀ f : Fd, eqF f f = true := fd_ind fun f ih => by
  rw [eqF_eq, eqL_all rfl (fun i hi _ => ih _ (List.getElem_mem hi))]
  simp

theorem run_eqlBool (w : World) (a b : Bool) : (binOp .eql 4 (.bool a) (.bool b)).run Tryz.prog w = .ok (.bool (a == b)) w := by
  have h : ∀ d : Nat, (Op.equalIn (d + 1) 4 (.bool a) (.bool b)).run Tryz.prog w = .ok (a == b) w := fun d => by
    simp [Op.equalIn, run_underlying Tryz.underlying4]
  simp only [binOp]
  simp [Op.equal, Op.maxDepth, h 9999]
attribute [local go_sem] run_eqlBool

set_option maxHeartbeats 1000000 in
theorem eqs_calls {w : World} {L R : List Fd} {v1 v2 : Value} (h1 : FdsAt w L v1) (h2 : FdsAt w R v2)
    (ih : ∀ f ∈ L, ∀ (g : Fd) (w : World) (p1 p2 : Option Addr) (c1 c2 : Nat), FdAt w f [.string f.nm, .bool f.nl, .int .i64 f.k, .int .i64 f.wd, .int .i64 f.id, .int .i64 f.ix, .slice p1 f.kids.length c1] → FdAt w g [.string g.nm, .bool g.nl, .int .i64 g.k, .int .i64 g.wd, .int .i64 g.id, .int .i64 g.ix, .slice p2 g.kids.length c2] → Calls Tryz.prog 38 #[.agg #[.string f.nm, .bool f.nl, .int .i64 f.k, .int .i64 f.wd, .int .i64 f.id, .int .i64 f.ix, .slice p1 f.kids.length c1], .agg #[.string g.nm, .bool g.nl, .int .i64 g.k, .int .i64 g.wd, .int .i64 g.id, .int .i64 g.ix, .slice p2 g.kids.length c2]] w (BoolPost w (eqF f g))) :
    Calls Tryz.prog 28 #[v1, v2] w (BoolPost w (eqL L R)) := by
  obtain ⟨q1, e1, rfl, hl1, hm1, hC1⟩ := h1
  obtain ⟨q2, e2, rfl, hl2, hm2, hC2⟩ := h2
  unfold maxLen at hm1 hm2
  have H1 := Lib.hid hC1
  have H2 := Lib.hid hC2
  have HI := Lib.hid ih
  clear hC1 hC2 ih
  by_cases hlen : L.length ≠ R.length
  · have HE := Lib.hid (eqL_len hlen)
    have hn : ((L.length : Int) == (R.length : Int)) = false := by simp; omega
    have hn2 : ((L.length : Int) != (R.length : Int)) = true := by simp; omega
    go_enter Tryz.func28, Tryz.ntmps28
    go_wp2_with fail
    go_ret
    exact bool_post HE.out.symm (Below.refl _ _)
  have hlen : L.length = R.length := by omega
  have HL := Lib.hid hlen
  have hn : ((L.length : Int) == (R.length : Int)) = true := by simp; omega
  have hn2 : ((L.length : Int) != (R.length : Int)) = false := by simp; omega
  clear hlen
  go_enter Tryz.func28, Tryz.ntmps28
  go_wp2_with fail
  clear hn hn2
  go_loopw [13] (fun i wr => ∃ k : Nat, k ≤ L.length ∧ i = .int .i64 k ∧ Hid (Below w.heap.size w wr) ∧ Hid (∀ (j : Nat) (hj : j < L.length) (hj2 : j < R.length), j < k → eqF L[j] R[j] = true)) (fun i _ => L.length - (intOf i).toNat)
  case atStart => exact ⟨0, by omega, rfl, Lib.hid (Below.refl _ _), Lib.hid (fun j _ _ h => absurd h (Nat.not_lt_zero _))⟩
  case round =>
    obtain ⟨k, hk, rfl, HB, HA⟩ := hrel
    by_cases hlt : k < L.length
    · have hlt2 : k < R.length := by have := HL.out; omega
      obtain ⟨b1, o1, p1, c1, rfl, f1, x0, x1, x2, x3, x4, x5, x6⟩ := H1.out.seven k hlt
      obtain ⟨b2, o2, p2, c2, rfl, f2, y0, y1, y2, y3, y4, y5, y6⟩ := H2.out.seven k hlt2
      have HIG := Lib.hid (HI.out L[k] (List.getElem_mem hlt) R[k])
      have F1 := Lib.hid (f1.below HB.out)
      have F2 := Lib.hid (f2.below HB.out)
      have hnx : eqF L[k] R[k] = true → ∀ (j : Nat) (hj : j < L.length) (hj2 : j < R.length), j < k + 1 → eqF L[j] R[j] = true := fun ht j hj hj2 hjk => by
        by_cases e : j = k
        · subst e; exact ht
        · exact HA.out j hj hj2 (by omega)
      have Next := Lib.hid hnx
      have Bad := Lib.hid (fun hf => eqL_at k hlt hlt2 hf)
      clear hnx
      generalize L[k] = f at *
      generalize R[k] = g at *
      have s0 : (wr.drew.cell? ⟨b1, o1 + k * 7, none⟩ = some (.string f.nm) ∧ wr.drew.cell? ⟨b1, o1 + k * 7 + 1, none⟩ = some (.bool f.nl) ∧ wr.drew.cell? ⟨b1, o1 + k * 7 + 2, none⟩ = some (.int .i64 f.k) ∧ wr.drew.cell? ⟨b1, o1 + k * 7 + 3, none⟩ = some (.int .i64 f.wd) ∧ wr.drew.cell? ⟨b1, o1 + k * 7 + 4, none⟩ = some (.int .i64 f.id) ∧ wr.drew.cell? ⟨b1, o1 + k * 7 + 5, none⟩ = some (.int .i64 f.ix) ∧ wr.drew.cell? ⟨b1, o1 + k * 7 + 6, none⟩ = some (.slice p1 f.kids.length c1)) ∧ (wr.drew.cell? ⟨b2, o2 + k * 7, none⟩ = some (.string g.nm) ∧ wr.drew.cell? ⟨b2, o2 + k * 7 + 1, none⟩ = some (.bool g.nl) ∧ wr.drew.cell? ⟨b2, o2 + k * 7 + 2, none⟩ = some (.int .i64 g.k) ∧ wr.drew.cell? ⟨b2, o2 + k * 7 + 3, none⟩ = some (.int .i64 g.wd) ∧ wr.drew.cell? ⟨b2, o2 + k * 7 + 4, none⟩ = some (.int .i64 g.id) ∧ wr.drew.cell? ⟨b2, o2 + k * 7 + 5, none⟩ = some (.int .i64 g.ix) ∧ wr.drew.cell? ⟨b2, o2 + k * 7 + 6, none⟩ = some (.slice p2 g.kids.length c2)) :=
        ⟨⟨cell_below HB.out x0, cell_below HB.out x1, cell_below HB.out x2, cell_below HB.out x3, cell_below HB.out x4, cell_below HB.out x5, cell_below HB.out x6⟩, ⟨cell_below HB.out y0, cell_below HB.out y1, cell_below HB.out y2, cell_below HB.out y3, cell_below HB.out y4, cell_below HB.out y5, cell_below HB.out y6⟩⟩
      have HS0 := Lib.hid s0
      clear x0 x1 x2 x3 x4 x5 x6 y0 y1 y2 y3 y4 y5 y6 f1 f2 s0
      go_wp2_with fail
      refine Late.region (fun w' => (w'.cell? ⟨b1, o1 + k * 7, none⟩ = some (.string f.nm) ∧ w'.cell? ⟨b1, o1 + k * 7 + 1, none⟩ = some (.bool f.nl) ∧ w'.cell? ⟨b1, o1 + k * 7 + 2, none⟩ = some (.int .i64 f.k) ∧ w'.cell? ⟨b1, o1 + k * 7 + 3, none⟩ = some (.int .i64 f.wd) ∧ w'.cell? ⟨b1, o1 + k * 7 + 4, none⟩ = some (.int .i64 f.id) ∧ w'.cell? ⟨b1, o1 + k * 7 + 5, none⟩ = some (.int .i64 f.ix) ∧ w'.cell? ⟨b1, o1 + k * 7 + 6, none⟩ = some (.slice p1 f.kids.length c1)) ∧ (w'.cell? ⟨b2, o2 + k * 7, none⟩ = some (.string g.nm) ∧ w'.cell? ⟨b2, o2 + k * 7 + 1, none⟩ = some (.bool g.nl) ∧ w'.cell? ⟨b2, o2 + k * 7 + 2, none⟩ = some (.int .i64 g.k) ∧ w'.cell? ⟨b2, o2 + k * 7 + 3, none⟩ = some (.int .i64 g.wd) ∧ w'.cell? ⟨b2, o2 + k * 7 + 4, none⟩ = some (.int .i64 g.id) ∧ w'.cell? ⟨b2, o2 + k * 7 + 5, none⟩ = some (.int .i64 g.ix) ∧ w'.cell? ⟨b2, o2 + k * 7 + 6, none⟩ = some (.slice p2 g.kids.length c2))) (fun _ => false) (by kernel_rfl) ?_
      refine Late.take (i := 0) (v := ?_) rfl (by kernel_rfl) (by kernel_rfl) (by kernel_rfl) (by kernel_rfl) (fun _ _ _ h => h) (Or.inl ⟨by rfl, ?_⟩) HS0.out ?_
      rotate_left
      · intro w' hS
        obtain ⟨⟨s0, s1, s2, s3, s4, s5, s6⟩, ⟨t0, t1, t2, t3, t4, t5, t6⟩⟩ := hS
        go_simp
        rfl
      refine Late.take (i := 1) (v := ?_) rfl (by kernel_rfl) (by kernel_rfl) (by kernel_rfl) (by kernel_rfl) (fun _ _ _ h => h) (Or.inl ⟨by rfl, ?_⟩) HS0.out ?_
      rotate_left
      · intro w' hS
        obtain ⟨⟨s0, s1, s2, s3, s4, s5, s6⟩, ⟨t0, t1, t2, t3, t4, t5, t6⟩⟩ := hS
        go_simp
        rfl
      refine Late.take (i := 2) (v := ?_) rfl (by kernel_rfl) (by kernel_rfl) (by kernel_rfl) (by kernel_rfl) (fun _ _ _ h => h) (Or.inl ⟨by rfl, ?_⟩) HS0.out ?_
      rotate_left
      · intro w' hS
        obtain ⟨⟨s0, s1, s2, s3, s4, s5, s6⟩, ⟨t0, t1, t2, t3, t4, t5, t6⟩⟩ := hS
        go_simp
        rfl
      refine Late.take (i := 3) (v := ?_) rfl (by kernel_rfl) (by kernel_rfl) (by kernel_rfl) (by kernel_rfl) (fun _ _ _ h => h) (Or.inl ⟨by rfl, ?_⟩) HS0.out ?_
      rotate_left
      · intro w' hS
        obtain ⟨⟨s0, s1, s2, s3, s4, s5, s6⟩, ⟨t0, t1, t2, t3, t4, t5, t6⟩⟩ := hS
        go_simp
        rfl
      refine Late.take (i := 4) (v := ?_) rfl (by kernel_rfl) (by kernel_rfl) (by kernel_rfl) (by kernel_rfl) (fun _ _ _ h => h) (Or.inl ⟨by rfl, ?_⟩) HS0.out ?_
      rotate_left
      · intro w' hS
        obtain ⟨⟨s0, s1, s2, s3, s4, s5, s6⟩, ⟨t0, t1, t2, t3, t4, t5, t6⟩⟩ := hS
        go_simp
        rfl
      refine Late.take (i := 5) (v := ?_) rfl (by kernel_rfl) (by kernel_rfl) (by kernel_rfl) (by kernel_rfl) (fun _ _ _ h => h) (Or.inl ⟨by rfl, ?_⟩) HS0.out ?_
      rotate_left
      · intro w' hS
        obtain ⟨⟨s0, s1, s2, s3, s4, s5, s6⟩, ⟨t0, t1, t2, t3, t4, t5, t6⟩⟩ := hS
        go_simp
        rfl
      refine Late.take (i := 6) (v := ?_) rfl (by kernel_rfl) (by kernel_rfl) (by kernel_rfl) (by kernel_rfl) (fun _ _ _ h => h) (Or.inl ⟨by rfl, ?_⟩) HS0.out ?_
      rotate_left
      · intro w' hS
        obtain ⟨⟨s0, s1, s2, s3, s4, s5, s6⟩, ⟨t0, t1, t2, t3, t4, t5, t6⟩⟩ := hS
        go_simp
        rfl
      refine Late.take (i := 7) (v := ?_) rfl (by kernel_rfl) (by kernel_rfl) (by kernel_rfl) (by kernel_rfl) (fun _ _ _ h => h) (Or.inl ⟨by rfl, ?_⟩) HS0.out ?_
      rotate_left
      · intro w' hS
        obtain ⟨⟨s0, s1, s2, s3, s4, s5, s6⟩, ⟨t0, t1, t2, t3, t4, t5, t6⟩⟩ := hS
        go_simp
        rfl
      refine Late.one (i := 8) (by kernel_rfl) rfl (fun K hK => ?_)
      go_simp
      refine (HIG.out wr.drew p1 p2 c1 c2 (F1.out.below (w' := wr.drew) (below_drew (Below.refl _ wr))) (F2.out.below (w' := wr.drew) (below_drew (Below.refl _ wr)))).mono ?_
      rintro e W2 ⟨rfl, hb2⟩
      have hs2 := HS0.out
      obtain ⟨⟨s0, s1, s2, s3, s4, s5, s6⟩, ⟨t0, t1, t2, t3, t4, t5, t6⟩⟩ := hs2
      have hs3 := And.intro (And.intro (cell_below hb2 s0) (And.intro (cell_below hb2 s1) (And.intro (cell_below hb2 s2) (And.intro (cell_below hb2 s3) (And.intro (cell_below hb2 s4) (And.intro (cell_below hb2 s5) (cell_below hb2 s6))))))) (And.intro (cell_below hb2 t0) (And.intro (cell_below hb2 t1) (And.intro (cell_below hb2 t2) (And.intro (cell_below hb2 t3) (And.intro (cell_below hb2 t4) (And.intro (cell_below hb2 t5) (cell_below hb2 t6)))))))
      have HS3 := Lib.hid hs3
      have HB2 := Lib.hid ((below_drew HB.out).trans (hb2.mono HB.out.size))
      clear s0 s1 s2 s3 s4 s5 s6 t0 t1 t2 t3 t4 t5 t6 hs3 hb2
      generalize eqF f g = t at *
      cases t with
      | true =>
        have HN := Lib.hid (Next.out rfl)
        clear Next Bad
        refine hK _ _ (fun _ => HS3.out) ?_
        clear hK K
        refine Late.one (i := 9) (by kernel_rfl) rfl (fun K hK => ?_)
        go_simp
        refine hK _ _ (fun _ => HS3.out) ?_
        clear hK K
        refine Late.done (by kernel_rfl) ?_ _
        go_wp2_with fail
        go_round
        case rel => exact ⟨k + 1, by omega, by go_num, HB2, HN⟩
        case measure => simp [intOf]; omega
      | false =>
        have HN := Lib.hid (Bad.out rfl)
        clear Next Bad
        refine hK _ _ (fun _ => HS3.out) ?_
        clear hK K
        refine Late.one (i := 9) (by kernel_rfl) rfl (fun K hK => ?_)
        go_simp
        refine hK _ _ (fun _ => HS3.out) ?_
        clear hK K
        refine Late.done (by kernel_rfl) ?_ _
        go_wp2_with fail
        go_ret
        exact bool_post HN.out.symm HB2.out
    · have HE := Lib.hid (eqL_all HL.out (fun i hi hi2 => HA.out i hi hi2 (by omega)))
      go_wp2_with fail
      go_ret
      exact bool_post HE.out.symm HB.out

/-- Five cells are laid into a box. -/
def put5 (W : World) (rb : Nat) (c0 c1 c2 c3 c4 : Value) : World :=
  ((((W.setCell ⟨rb, 0, none⟩ c0).setCell ⟨rb, 1, none⟩ c1).setCell ⟨rb, 2, none⟩ c2).setCell ⟨rb, 3, none⟩ c3).setCell ⟨rb, 4, none⟩ c4
theorem put5_box {W : World} {rb : Nat} {t : TypeId} {l : List Value} (hl : l.length = 5) (h : BoxN W rb t l) (c0 c1 c2 c3 c4 : Value) : BoxN (put5 W rb c0 c1 c2 c3 c4) rb t [c0, c1, c2, c3, c4] := by
  have b := ((((h.set 0 c0).set 1 c1).set 2 c2).set 3 c3).set 4 c4
  match l, hl with
  | [_, _, _, _, _], _ => exact b
theorem put5_other {W : World} {rb k : Nat} (hk : k ≠ rb) (c0 c1 c2 c3 c4 : Value) : (put5 W rb c0 c1 c2 c3 c4).heap[k]? = W.heap[k]? := by
  unfold put5
  rw [Below.heap_setCell _ _ _ k hk, Below.heap_setCell _ _ _ k hk, Below.heap_setCell _ _ _ k hk, Below.heap_setCell _ _ _ k hk, Below.heap_setCell _ _ _ k hk]
theorem put5_below {W w : World} {n rb : Nat} (h : Below n w W) (hn : n ≤ rb) (c0 c1 c2 c3 c4 : Value) : Below n w (put5 W rb c0 c1 c2 c3 c4) :=
  ((((h.setCell (p := ⟨rb, 0, none⟩) hn c0).setCell (p := ⟨rb, 1, none⟩) hn c1).setCell (p := ⟨rb, 2, none⟩) hn c2).setCell (p := ⟨rb, 3, none⟩) hn c3).setCell (p := ⟨rb, 4, none⟩) hn c4

set_option maxHeartbeats 4000000 in
theorem eq_step {w : World} {f g : Fd} {p1 p2 : Option Addr} {c1 c2 : Nat} (h1 : FdAt w f [.string f.nm, .bool f.nl, .int .i64 f.k, .int .i64 f.wd, .int .i64 f.id, .int .i64 f.ix, .slice p1 f.kids.length c1]) (h2 : FdAt w g [.string g.nm, .bool g.nl, .int .i64 g.k, .int .i64 g.wd, .int .i64 g.id, .int .i64 g.ix, .slice p2 g.kids.length c2])
    (ih : ∀ f' ∈ f.kids, ∀ (g : Fd) (w : World) (p1 p2 : Option Addr) (c1 c2 : Nat), FdAt w f' [.string f'.nm, .bool f'.nl, .int .i64 f'.k, .int .i64 f'.wd, .int .i64 f'.id, .int .i64 f'.ix, .slice p1 f'.kids.length c1] → FdAt w g [.string g.nm, .bool g.nl, .int .i64 g.k, .int .i64 g.wd, .int .i64 g.id, .int .i64 g.ix, .slice p2 g.kids.length c2] → Calls Tryz.prog 38 #[.agg #[.string f'.nm, .bool f'.nl, .int .i64 f'.k, .int .i64 f'.wd, .int .i64 f'.id, .int .i64 f'.ix, .slice p1 f'.kids.length c1], .agg #[.string g.nm, .bool g.nl, .int .i64 g.k, .int .i64 g.wd, .int .i64 g.id, .int .i64 g.ix, .slice p2 g.kids.length c2]] w (BoolPost w (eqF f' g))) :
    Calls Tryz.prog 38 #[.agg #[.string f.nm, .bool f.nl, .int .i64 f.k, .int .i64 f.wd, .int .i64 f.id, .int .i64 f.ix, .slice p1 f.kids.length c1], .agg #[.string g.nm, .bool g.nl, .int .i64 g.k, .int .i64 g.wd, .int .i64 g.id, .int .i64 g.ix, .slice p2 g.kids.length c2]] w (BoolPost w (eqF f g)) := by
  obtain ⟨_, _, e1, hk1, hnm, ik, iw, ii, ix⟩ := h1.shape
  obtain ⟨_, _, e2, hk2, hnm', ik', iw', ii', ix'⟩ := h2.shape
  cases e1
  cases e2
  have HK1 := Lib.hid hk1
  have HK2 := Lib.hid hk2
  have HI := Lib.hid ih
  clear h1 h2 ih hk1 hk2
  go_enter Tryz.func38, Tryz.ntmps38
  go_wp2_with fail
  obtain ⟨W, hW⟩ : ∃ W, W = (w.alloc (.cells #[.string f.nm, .bool f.nl, .int .i64 f.k, .int .i64 f.wd, .int .i64 f.id, .int .i64 f.ix, .slice p1 f.kids.length c1] 59)).alloc (.cells #[.string g.nm, .bool g.nl, .int .i64 g.k, .int .i64 g.wd, .int .i64 g.id, .int .i64 g.ix, .slice p2 g.kids.length c2] 59) := ⟨_, rfl⟩
  have a1 : BoxN W w.heap.size 59 [.string f.nm, .bool f.nl, .int .i64 f.k, .int .i64 f.wd, .int .i64 f.id, .int .i64 f.ix, .slice p1 f.kids.length c1] := by
    rw [hW]
    exact (BoxN.new w 59 [.string f.nm, .bool f.nl, .int .i64 f.k, .int .i64 f.wd, .int .i64 f.id, .int .i64 f.ix, .slice p1 f.kids.length c1]).alloc _
  have a2 : BoxN W (w.heap.size + 1) 59 [.string g.nm, .bool g.nl, .int .i64 g.k, .int .i64 g.wd, .int .i64 g.id, .int .i64 g.ix, .slice p2 g.kids.length c2] := by
    rw [hW]
    have := BoxN.new (w.alloc (.cells #[.string f.nm, .bool f.nl, .int .i64 f.k, .int .i64 f.wd, .int .i64 f.id, .int .i64 f.ix, .slice p1 f.kids.length c1] 59)) 59 [.string g.nm, .bool g.nl, .int .i64 g.k, .int .i64 g.wd, .int .i64 g.id, .int .i64 g.ix, .slice p2 g.kids.length c2]
    rwa [World.size_alloc] at this
  have hBW : Below w.heap.size w W := by rw [hW]; exact ((Below.refl _ w).alloc (Nat.le_refl _) _).alloc (by simp) _
  have hWs : W.heap.size = w.heap.size + 2 := by rw [hW]; simp
  rw [← hW]
  clear hW
  have A1 := Lib.hid a1
  have A2 := Lib.hid a2
  have HBW := Lib.hid hBW
  have HWS := Lib.hid hWs
  have s0 : (W.drew.cell? ⟨w.heap.size, 0, none⟩ = some (.string f.nm) ∧ W.drew.cell? ⟨w.heap.size, 1, none⟩ = some (.bool f.nl) ∧ W.drew.cell? ⟨w.heap.size, 2, none⟩ = some (.int .i64 f.k) ∧ W.drew.cell? ⟨w.heap.size, 3, none⟩ = some (.int .i64 f.wd) ∧ W.drew.cell? ⟨w.heap.size, 4, none⟩ = some (.int .i64 f.id) ∧ W.drew.cell? ⟨w.heap.size, 5, none⟩ = some (.int .i64 f.ix) ∧ W.drew.cell? ⟨w.heap.size, 6, none⟩ = some (.slice p1 f.kids.length c1)) ∧ (W.drew.cell? ⟨w.heap.size + 1, 0, none⟩ = some (.string g.nm) ∧ W.drew.cell? ⟨w.heap.size + 1, 1, none⟩ = some (.bool g.nl) ∧ W.drew.cell? ⟨w.heap.size + 1, 2, none⟩ = some (.int .i64 g.k) ∧ W.drew.cell? ⟨w.heap.size + 1, 3, none⟩ = some (.int .i64 g.wd) ∧ W.drew.cell? ⟨w.heap.size + 1, 4, none⟩ = some (.int .i64 g.id) ∧ W.drew.cell? ⟨w.heap.size + 1, 5, none⟩ = some (.int .i64 g.ix) ∧ W.drew.cell? ⟨w.heap.size + 1, 6, none⟩ = some (.slice p2 g.kids.length c2)) := ⟨⟨a1.row 0 _ rfl, a1.row 1 _ rfl, a1.row 2 _ rfl, a1.row 3 _ rfl, a1.row 4 _ rfl, a1.row 5 _ rfl, a1.row 6 _ rfl⟩, ⟨a2.row 0 _ rfl, a2.row 1 _ rfl, a2.row 2 _ rfl, a2.row 3 _ rfl, a2.row 4 _ rfl, a2.row 5 _ rfl, a2.row 6 _ rfl⟩⟩
  have HS0 := Lib.hid s0
  have hl1 := a1.lt
  have hl2 := a2.lt
  have BS1 := Lib.hid (a1.alloc (.cells #[Value.int .i64 0, Value.int .i64 0, Value.int .i64 0, Value.int .i64 0, Value.slice none 0 0] 57))
  have BS2 := Lib.hid (a2.alloc (.cells #[Value.int .i64 0, Value.int .i64 0, Value.int .i64 0, Value.int .i64 0, Value.slice none 0 0] 57))
  clear a1 a2 hBW hWs s0
  refine Late.region (fun w' => (w'.cell? ⟨w.heap.size, 0, none⟩ = some (.string f.nm) ∧ w'.cell? ⟨w.heap.size, 1, none⟩ = some (.bool f.nl) ∧ w'.cell? ⟨w.heap.size, 2, none⟩ = some (.int .i64 f.k) ∧ w'.cell? ⟨w.heap.size, 3, none⟩ = some (.int .i64 f.wd) ∧ w'.cell? ⟨w.heap.size, 4, none⟩ = some (.int .i64 f.id) ∧ w'.cell? ⟨w.heap.size, 5, none⟩ = some (.int .i64 f.ix) ∧ w'.cell? ⟨w.heap.size, 6, none⟩ = some (.slice p1 f.kids.length c1)) ∧ (w'.cell? ⟨w.heap.size + 1, 0, none⟩ = some (.string g.nm) ∧ w'.cell? ⟨w.heap.size + 1, 1, none⟩ = some (.bool g.nl) ∧ w'.cell? ⟨w.heap.size + 1, 2, none⟩ = some (.int .i64 g.k) ∧ w'.cell? ⟨w.heap.size + 1, 3, none⟩ = some (.int .i64 g.wd) ∧ w'.cell? ⟨w.heap.size + 1, 4, none⟩ = some (.int .i64 g.id) ∧ w'.cell? ⟨w.heap.size + 1, 5, none⟩ = some (.int .i64 g.ix) ∧ w'.cell? ⟨w.heap.size + 1, 6, none⟩ = some (.slice p2 g.kids.length c2))) (fun _ => false) (by kernel_rfl) ?_
  refine Late.take (i := 0) (v := ?_) rfl (by kernel_rfl) (by kernel_rfl) (by kernel_rfl) (by kernel_rfl) (fun _ _ _ h => h) (Or.inl ⟨by rfl, ?_⟩) HS0.out ?_
  rotate_left
  · intro w' hS
    obtain ⟨⟨s0, s1, s2, s3, s4, s5, s6⟩, ⟨t0, t1, t2, t3, t4, t5, t6⟩⟩ := hS
    go_simp
    rfl
  refine Late.take (i := 1) (v := ?_) rfl (by kernel_rfl) (by kernel_rfl) (by kernel_rfl) (by kernel_rfl) (fun _ _ _ h => h) (Or.inl ⟨by rfl, ?_⟩) HS0.out ?_
  rotate_left
  · intro w' hS
    obtain ⟨⟨s0, s1, s2, s3, s4, s5, s6⟩, ⟨t0, t1, t2, t3, t4, t5, t6⟩⟩ := hS
    go_simp
    rfl
  refine Late.take (i := 2) (v := ?_) rfl (by kernel_rfl) (by kernel_rfl) (by kernel_rfl) (by kernel_rfl) (fun _ _ _ h => h) (Or.inl ⟨by rfl, ?_⟩) HS0.out ?_
  rotate_left
  · intro w' hS
    obtain ⟨⟨s0, s1, s2, s3, s4, s5, s6⟩, ⟨t0, t1, t2, t3, t4, t5, t6⟩⟩ := hS
    go_simp
    rfl
  refine Late.take (i := 3) (v := ?_) rfl (by kernel_rfl) (by kernel_rfl) (by kernel_rfl) (by kernel_rfl) (fun _ _ _ h => h) (Or.inl ⟨by rfl, ?_⟩) HS0.out ?_
  rotate_left
  · intro w' hS
    obtain ⟨⟨s0, s1, s2, s3, s4, s5, s6⟩, ⟨t0, t1, t2, t3, t4, t5, t6⟩⟩ := hS
    go_simp
    rfl
  refine Late.two (i := 4) (k := 5) (by kernel_rfl) rfl rfl (fun K hK => ?_) (fun K hK => ?_)
  · go_simp
    have hsA : ((W.alloc (.cells #[Value.int .i64 0, Value.int .i64 0, Value.int .i64 0, Value.int .i64 0, Value.slice none 0 0] 57)).drew.cell? ⟨w.heap.size, 0, none⟩ = some (.string f.nm) ∧ (W.alloc (.cells #[Value.int .i64 0, Value.int .i64 0, Value.int .i64 0, Value.int .i64 0, Value.slice none 0 0] 57)).drew.cell? ⟨w.heap.size, 1, none⟩ = some (.bool f.nl) ∧ (W.alloc (.cells #[Value.int .i64 0, Value.int .i64 0, Value.int .i64 0, Value.int .i64 0, Value.slice none 0 0] 57)).drew.cell? ⟨w.heap.size, 2, none⟩ = some (.int .i64 f.k) ∧ (W.alloc (.cells #[Value.int .i64 0, Value.int .i64 0, Value.int .i64 0, Value.int .i64 0, Value.slice none 0 0] 57)).drew.cell? ⟨w.heap.size, 3, none⟩ = some (.int .i64 f.wd) ∧ (W.alloc (.cells #[Value.int .i64 0, Value.int .i64 0, Value.int .i64 0, Value.int .i64 0, Value.slice none 0 0] 57)).drew.cell? ⟨w.heap.size, 4, none⟩ = some (.int .i64 f.id) ∧ (W.alloc (.cells #[Value.int .i64 0, Value.int .i64 0, Value.int .i64 0, Value.int .i64 0, Value.slice none 0 0] 57)).drew.cell? ⟨w.heap.size, 5, none⟩ = some (.int .i64 f.ix) ∧ (W.alloc (.cells #[Value.int .i64 0, Value.int .i64 0, Value.int .i64 0, Value.int .i64 0, Value.slice none 0 0] 57)).drew.cell? ⟨w.heap.size, 6, none⟩ = some (.slice p1 f.kids.length c1)) ∧ ((W.alloc (.cells #[Value.int .i64 0, Value.int .i64 0, Value.int .i64 0, Value.int .i64 0, Value.slice none 0 0] 57)).drew.cell? ⟨w.heap.size + 1, 0, none⟩ = some (.string g.nm) ∧ (W.alloc (.cells #[Value.int .i64 0, Value.int .i64 0, Value.int .i64 0, Value.int .i64 0, Value.slice none 0 0] 57)).drew.cell? ⟨w.heap.size + 1, 1, none⟩ = some (.bool g.nl) ∧ (W.alloc (.cells #[Value.int .i64 0, Value.int .i64 0, Value.int .i64 0, Value.int .i64 0, Value.slice none 0 0] 57)).drew.cell? ⟨w.heap.size + 1, 2, none⟩ = some (.int .i64 g.k) ∧ (W.alloc (.cells #[Value.int .i64 0, Value.int .i64 0, Value.int .i64 0, Value.int .i64 0, Value.slice none 0 0] 57)).drew.cell? ⟨w.heap.size + 1, 3, none⟩ = some (.int .i64 g.wd) ∧ (W.alloc (.cells #[Value.int .i64 0, Value.int .i64 0, Value.int .i64 0, Value.int .i64 0, Value.slice none 0 0] 57)).drew.cell? ⟨w.heap.size + 1, 4, none⟩ = some (.int .i64 g.id) ∧ (W.alloc (.cells #[Value.int .i64 0, Value.int .i64 0, Value.int .i64 0, Value.int .i64 0, Value.slice none 0 0] 57)).drew.cell? ⟨w.heap.size + 1, 5, none⟩ = some (.int .i64 g.ix) ∧ (W.alloc (.cells #[Value.int .i64 0, Value.int .i64 0, Value.int .i64 0, Value.int .i64 0, Value.slice none 0 0] 57)).drew.cell? ⟨w.heap.size + 1, 6, none⟩ = some (.slice p2 g.kids.length c2)) := ⟨⟨BS1.out.row 0 _ rfl, BS1.out.row 1 _ rfl, BS1.out.row 2 _ rfl, BS1.out.row 3 _ rfl, BS1.out.row 4 _ rfl, BS1.out.row 5 _ rfl, BS1.out.row 6 _ rfl⟩, ⟨BS2.out.row 0 _ rfl, BS2.out.row 1 _ rfl, BS2.out.row 2 _ rfl, BS2.out.row 3 _ rfl, BS2.out.row 4 _ rfl, BS2.out.row 5 _ rfl, BS2.out.row 6 _ rfl⟩⟩
    refine hK _ _ (fun _ => hsA) ?_
    clear hK K
    refine Late.one (i := 5) (by kernel_rfl) rfl (fun K hK => ?_)
    go_simp
    obtain ⟨Y, hY⟩ : ∃ Y, Y = (W.alloc (.cells #[Value.int .i64 0, Value.int .i64 0, Value.int .i64 0, Value.int .i64 0, Value.slice none 0 0] 57)).alloc (.cells #[Value.int .i64 0, Value.int .i64 0, Value.int .i64 0, Value.int .i64 0, Value.slice none 0 0] 57) := ⟨_, rfl⟩
    have y1 : BoxN Y w.heap.size 59 [.string f.nm, .bool f.nl, .int .i64 f.k, .int .i64 f.wd, .int .i64 f.id, .int .i64 f.ix, .slice p1 f.kids.length c1] := by rw [hY]; exact BS1.out.alloc _
    have y2 : BoxN Y (w.heap.size + 1) 59 [.string g.nm, .bool g.nl, .int .i64 g.k, .int .i64 g.wd, .int .i64 g.id, .int .i64 g.ix, .slice p2 g.kids.length c2] := by rw [hY]; exact BS2.out.alloc _
    have y3 : BoxN Y W.heap.size 57 [Value.int .i64 0, Value.int .i64 0, Value.int .i64 0, Value.int .i64 0, Value.slice none 0 0] := by
      rw [hY]
      exact (BoxN.new W 57 [Value.int .i64 0, Value.int .i64 0, Value.int .i64 0, Value.int .i64 0, Value.slice none 0 0]).alloc _
    have y4 : BoxN Y (W.heap.size + 1) 57 [Value.int .i64 0, Value.int .i64 0, Value.int .i64 0, Value.int .i64 0, Value.slice none 0 0] := by
      rw [hY]
      have := BoxN.new (W.alloc (.cells #[Value.int .i64 0, Value.int .i64 0, Value.int .i64 0, Value.int .i64 0, Value.slice none 0 0] 57)) 57 [Value.int .i64 0, Value.int .i64 0, Value.int .i64 0, Value.int .i64 0, Value.slice none 0 0]
      rwa [World.size_alloc] at this
    have hBY : Below w.heap.size w Y := by rw [hY]; exact (HBW.out.alloc HBW.out.size _).alloc (by have := HBW.out.size; simp; omega) _
    rw [← hY]
    clear hY
    have hsY : (Y.drew.cell? ⟨w.heap.size, 0, none⟩ = some (.string f.nm) ∧ Y.drew.cell? ⟨w.heap.size, 1, none⟩ = some (.bool f.nl) ∧ Y.drew.cell? ⟨w.heap.size, 2, none⟩ = some (.int .i64 f.k) ∧ Y.drew.cell? ⟨w.heap.size, 3, none⟩ = some (.int .i64 f.wd) ∧ Y.drew.cell? ⟨w.heap.size, 4, none⟩ = some (.int .i64 f.id) ∧ Y.drew.cell? ⟨w.heap.size, 5, none⟩ = some (.int .i64 f.ix) ∧ Y.drew.cell? ⟨w.heap.size, 6, none⟩ = some (.slice p1 f.kids.length c1)) ∧ (Y.drew.cell? ⟨w.heap.size + 1, 0, none⟩ = some (.string g.nm) ∧ Y.drew.cell? ⟨w.heap.size + 1, 1, none⟩ = some (.bool g.nl) ∧ Y.drew.cell? ⟨w.heap.size + 1, 2, none⟩ = some (.int .i64 g.k) ∧ Y.drew.cell? ⟨w.heap.size + 1, 3, none⟩ = some (.int .i64 g.wd) ∧ Y.drew.cell? ⟨w.heap.size + 1, 4, none⟩ = some (.int .i64 g.id) ∧ Y.drew.cell? ⟨w.heap.size + 1, 5, none⟩ = some (.int .i64 g.ix) ∧ Y.drew.cell? ⟨w.heap.size + 1, 6, none⟩ = some (.slice p2 g.kids.length c2)) := ⟨⟨y1.row 0 _ rfl, y1.row 1 _ rfl, y1.row 2 _ rfl, y1.row 3 _ rfl, y1.row 4 _ rfl, y1.row 5 _ rfl, y1.row 6 _ rfl⟩, ⟨y2.row 0 _ rfl, y2.row 1 _ rfl, y2.row 2 _ rfl, y2.row 3 _ rfl, y2.row 4 _ rfl, y2.row 5 _ rfl, y2.row 6 _ rfl⟩⟩
    refine hK _ _ (fun _ => hsY) ?_
    clear hK K hsY hsA
    have XB := Lib.hid y3
    have YB := Lib.hid y4
    have Y1 := Lib.hid y1
    have Y2 := Lib.hid y2
    have HBY := Lib.hid hBY
    clear y1 y2 y3 y4 hBY
    obtain ⟨xa, hxa⟩ : ∃ xa, xa = W.heap.size := ⟨_, rfl⟩
    obtain ⟨xb, hxb⟩ : ∃ xb, xb = W.heap.size + 1 := ⟨_, rfl⟩
    have hxw1 : w.heap.size + 1 < xa := by have := HWS.out; omega
    have hxw2 : w.heap.size + 1 < xb := by have := HWS.out; omega
    have hxw3 : xa ≠ xb := by omega
    rw [← hxb] at YB ⊢
    rw [← hxa] at XB ⊢
    clear hxa hxb
    have HX1 := Lib.hid hxw1
    have HX2 := Lib.hid hxw2
    have HX3 := Lib.hid hxw3
    clear hxw1 hxw2 hxw3
    have kk0 : Y.cell? ⟨xa, 0, none⟩ = some _ := XB.out.row 0 _ rfl
    have kk1 : Y.cell? ⟨xa, 1, none⟩ = some _ := XB.out.row 1 _ rfl
    have kk2 : Y.cell? ⟨xa, 2, none⟩ = some _ := XB.out.row 2 _ rfl
    have kk3 : Y.cell? ⟨xa, 3, none⟩ = some _ := XB.out.row 3 _ rfl
    have kk4 : Y.cell? ⟨xa, 4, none⟩ = some _ := XB.out.row 4 _ rfl
    have k0 : Y.drew.cell? ⟨xa, 0, none⟩ = some _ := XB.out.row 0 _ rfl
    have k1 : Y.drew.cell? ⟨xa, 1, none⟩ = some _ := XB.out.row 1 _ rfl
    have k2 : Y.drew.cell? ⟨xa, 2, none⟩ = some _ := XB.out.row 2 _ rfl
    have k3 : Y.drew.cell? ⟨xa, 3, none⟩ = some _ := XB.out.row 3 _ rfl
    have k4 : Y.drew.cell? ⟨xa, 4, none⟩ = some _ := XB.out.row 4 _ rfl
    have z0 : Y.frozen? ⟨xa, 0, none⟩ = false := XB.out.frozen 0
    have z1 : Y.frozen? ⟨xa, 1, none⟩ = false := XB.out.frozen 1
    have z2 : Y.frozen? ⟨xa, 2, none⟩ = false := XB.out.frozen 2
    have z3 : Y.frozen? ⟨xa, 3, none⟩ = false := XB.out.frozen 3
    have z4 : Y.frozen? ⟨xa, 4, none⟩ = false := XB.out.frozen 4
    refine Late.one (i := 6) (by kernel_rfl) rfl (fun K hK => ?_)
    go_simp
    obtain ⟨E1, hE1⟩ : ∃ E1, E1 = put5 Y xa (.int .i64 f.k) (.int .i64 f.wd) (.int .i64 f.id) (.int .i64 f.ix) (.slice p1 f.kids.length c1) := ⟨_, rfl⟩
    have y1 : BoxN E1 w.heap.size 59 [.string f.nm, .bool f.nl, .int .i64 f.k, .int .i64 f.wd, .int .i64 f.id, .int .i64 f.ix, .slice p1 f.kids.length c1] := by rw [hE1]; exact (put5_other (by have := HX1.out; omega) _ _ _ _ _).trans Y1.out
    have y2 : BoxN E1 (w.heap.size + 1) 59 [.string g.nm, .bool g.nl, .int .i64 g.k, .int .i64 g.wd, .int .i64 g.id, .int .i64 g.ix, .slice p2 g.kids.length c2] := by rw [hE1]; exact (put5_other (by have := HX1.out; omega) _ _ _ _ _).trans Y2.out
    have y3 : BoxN E1 xa 57 [Value.int .i64 f.k, Value.int .i64 f.wd, Value.int .i64 f.id, Value.int .i64 f.ix, Value.slice p1 f.kids.length c1] := by rw [hE1]; exact put5_box (l := [_, _, _, _, _]) rfl XB.out _ _ _ _ _
    have y4 : BoxN E1 xb 57 [Value.int .i64 0, Value.int .i64 0, Value.int .i64 0, Value.int .i64 0, Value.slice none 0 0] := by rw [hE1]; exact (put5_other (by have := HX3.out; omega) _ _ _ _ _).trans YB.out
    have hBE : Below w.heap.size w E1 := by rw [hE1]; exact put5_below HBY.out (by have := HX1.out; omega) _ _ _ _ _
    have hEq : ((((Y.setCell ⟨xa, 0, none⟩ (.int .i64 f.k)).setCell ⟨xa, 1, none⟩ (.int .i64 f.wd)).setCell ⟨xa, 2, none⟩ (.int .i64 f.id)).setCell ⟨xa, 3, none⟩ (.int .i64 f.ix)).setCell ⟨xa, 4, none⟩ (.slice p1 f.kids.length c1) = E1 := by rw [hE1]; rfl
    rw [hEq]
    clear hEq hE1 k0 kk0 z0 k1 kk1 z1 k2 kk2 z2 k3 kk3 z3 k4 kk4 z4
    have hsE : (E1.drew.cell? ⟨w.heap.size, 0, none⟩ = some (.string f.nm) ∧ E1.drew.cell? ⟨w.heap.size, 1, none⟩ = some (.bool f.nl) ∧ E1.drew.cell? ⟨w.heap.size, 2, none⟩ = some (.int .i64 f.k) ∧ E1.drew.cell? ⟨w.heap.size, 3, none⟩ = some (.int .i64 f.wd) ∧ E1.drew.cell? ⟨w.heap.size, 4, none⟩ = some (.int .i64 f.id) ∧ E1.drew.cell? ⟨w.heap.size, 5, none⟩ = some (.int .i64 f.ix) ∧ E1.drew.cell? ⟨w.heap.size, 6, none⟩ = some (.slice p1 f.kids.length c1)) ∧ (E1.drew.cell? ⟨w.heap.size + 1, 0, none⟩ = some (.string g.nm) ∧ E1.drew.cell? ⟨w.heap.size + 1, 1, none⟩ = some (.bool g.nl) ∧ E1.drew.cell? ⟨w.heap.size + 1, 2, none⟩ = some (.int .i64 g.k) ∧ E1.drew.cell? ⟨w.heap.size + 1, 3, none⟩ = some (.int .i64 g.wd) ∧ E1.drew.cell? ⟨w.heap.size + 1, 4, none⟩ = some (.int .i64 g.id) ∧ E1.drew.cell? ⟨w.heap.size + 1, 5, none⟩ = some (.int .i64 g.ix) ∧ E1.drew.cell? ⟨w.heap.size + 1, 6, none⟩ = some (.slice p2 g.kids.length c2)) := ⟨⟨y1.row 0 _ rfl, y1.row 1 _ rfl, y1.row 2 _ rfl, y1.row 3 _ rfl, y1.row 4 _ rfl, y1.row 5 _ rfl, y1.row 6 _ rfl⟩, ⟨y2.row 0 _ rfl, y2.row 1 _ rfl, y2.row 2 _ rfl, y2.row 3 _ rfl, y2.row 4 _ rfl, y2.row 5 _ rfl, y2.row 6 _ rfl⟩⟩
    refine hK _ _ (fun _ => hsE) ?_
    clear hK K hsE
    have G1 := Lib.hid y1
    have G2 := Lib.hid y2
    have G3 := Lib.hid y3
    have G4 := Lib.hid y4
    have HBE := Lib.hid hBE
    clear y1 y2 y3 y4 hBE
    have kk0 : E1.cell? ⟨xb, 0, none⟩ = some _ := G4.out.row 0 _ rfl
    have kk1 : E1.cell? ⟨xb, 1, none⟩ = some _ := G4.out.row 1 _ rfl
    have kk2 : E1.cell? ⟨xb, 2, none⟩ = some _ := G4.out.row 2 _ rfl
    have kk3 : E1.cell? ⟨xb, 3, none⟩ = some _ := G4.out.row 3 _ rfl
    have kk4 : E1.cell? ⟨xb, 4, none⟩ = some _ := G4.out.row 4 _ rfl
    have k0 : E1.drew.cell? ⟨xb, 0, none⟩ = some _ := G4.out.row 0 _ rfl
    have k1 : E1.drew.cell? ⟨xb, 1, none⟩ = some _ := G4.out.row 1 _ rfl
    have k2 : E1.drew.cell? ⟨xb, 2, none⟩ = some _ := G4.out.row 2 _ rfl
    have k3 : E1.drew.cell? ⟨xb, 3, none⟩ = some _ := G4.out.row 3 _ rfl
    have k4 : E1.drew.cell? ⟨xb, 4, none⟩ = some _ := G4.out.row 4 _ rfl
    have z0 : E1.frozen? ⟨xb, 0, none⟩ = false := G4.out.frozen 0
    have z1 : E1.frozen? ⟨xb, 1, none⟩ = false := G4.out.frozen 1
    have z2 : E1.frozen? ⟨xb, 2, none⟩ = false := G4.out.frozen 2
    have z3 : E1.frozen? ⟨xb, 3, none⟩ = false := G4.out.frozen 3
    have z4 : E1.frozen? ⟨xb, 4, none⟩ = false := G4.out.frozen 4
    refine Late.one (i := 7) (by kernel_rfl) rfl (fun K hK => ?_)
    go_simp
    obtain ⟨E2, hE2⟩ : ∃ E2, E2 = put5 E1 xb (.int .i64 g.k) (.int .i64 g.wd) (.int .i64 g.id) (.int .i64 g.ix) (.slice p2 g.kids.length c2) := ⟨_, rfl⟩
    have y1 : BoxN E2 w.heap.size 59 [.string f.nm, .bool f.nl, .int .i64 f.k, .int .i64 f.wd, .int .i64 f.id, .int .i64 f.ix, .slice p1 f.kids.length c1] := by rw [hE2]; exact (put5_other (by have := HX2.out; omega) _ _ _ _ _).trans G1.out
    have y2 : BoxN E2 (w.heap.size + 1) 59 [.string g.nm, .bool g.nl, .int .i64 g.k, .int .i64 g.wd, .int .i64 g.id, .int .i64 g.ix, .slice p2 g.kids.length c2] := by rw [hE2]; exact (put5_other (by have := HX2.out; omega) _ _ _ _ _).trans G2.out
    have y3 : BoxN E2 xa 57 [Value.int .i64 f.k, Value.int .i64 f.wd, Value.int .i64 f.id, Value.int .i64 f.ix, Value.slice p1 f.kids.length c1] := by rw [hE2]; exact (put5_other HX3.out _ _ _ _ _).trans G3.out
    have y4 : BoxN E2 xb 57 [Value.int .i64 g.k, Value.int .i64 g.wd, Value.int .i64 g.id, Value.int .i64 g.ix, Value.slice p2 g.kids.length c2] := by rw [hE2]; exact put5_box (l := [_, _, _, _, _]) rfl G4.out _ _ _ _ _
    have hBE : Below w.heap.size w E2 := by rw [hE2]; exact put5_below HBE.out (by have := HX2.out; omega) _ _ _ _ _
    have hEq : ((((E1.setCell ⟨xb, 0, none⟩ (.int .i64 g.k)).setCell ⟨xb, 1, none⟩ (.int .i64 g.wd)).setCell ⟨xb, 2, none⟩ (.int .i64 g.id)).setCell ⟨xb, 3, none⟩ (.int .i64 g.ix)).setCell ⟨xb, 4, none⟩ (.slice p2 g.kids.length c2) = E2 := by rw [hE2]; rfl
    rw [hEq]
    clear hEq hE2 k0 kk0 z0 k1 kk1 z1 k2 kk2 z2 k3 kk3 z3 k4 kk4 z4
    have hsE : (E2.drew.cell? ⟨w.heap.size, 0, none⟩ = some (.string f.nm) ∧ E2.drew.cell? ⟨w.heap.size, 1, none⟩ = some (.bool f.nl) ∧ E2.drew.cell? ⟨w.heap.size, 2, none⟩ = some (.int .i64 f.k) ∧ E2.drew.cell? ⟨w.heap.size, 3, none⟩ = some (.int .i64 f.wd) ∧ E2.drew.cell? ⟨w.heap.size, 4, none⟩ = some (.int .i64 f.id) ∧ E2.drew.cell? ⟨w.heap.size, 5, none⟩ = some (.int .i64 f.ix) ∧ E2.drew.cell? ⟨w.heap.size, 6, none⟩ = some (.slice p1 f.kids.length c1)) ∧ (E2.drew.cell? ⟨w.heap.size + 1, 0, none⟩ = some (.string g.nm) ∧ E2.drew.cell? ⟨w.heap.size + 1, 1, none⟩ = some (.bool g.nl) ∧ E2.drew.cell? ⟨w.heap.size + 1, 2, none⟩ = some (.int .i64 g.k) ∧ E2.drew.cell? ⟨w.heap.size + 1, 3, none⟩ = some (.int .i64 g.wd) ∧ E2.drew.cell? ⟨w.heap.size + 1, 4, none⟩ = some (.int .i64 g.id) ∧ E2.drew.cell? ⟨w.heap.size + 1, 5, none⟩ = some (.int .i64 g.ix) ∧ E2.drew.cell? ⟨w.heap.size + 1, 6, none⟩ = some (.slice p2 g.kids.length c2)) := ⟨⟨y1.row 0 _ rfl, y1.row 1 _ rfl, y1.row 2 _ rfl, y1.row 3 _ rfl, y1.row 4 _ rfl, y1.row 5 _ rfl, y1.row 6 _ rfl⟩, ⟨y2.row 0 _ rfl, y2.row 1 _ rfl, y2.row 2 _ rfl, y2.row 3 _ rfl, y2.row 4 _ rfl, y2.row 5 _ rfl, y2.row 6 _ rfl⟩⟩
    refine hK _ _ (fun _ => hsE) ?_
    clear hK K
    refine Late.done (by kernel_rfl) ?_ _
    obtain ⟨U, hU⟩ : ∃ U, U = E2.drew := ⟨_, rfl⟩
    rw [← hU] at hsE ⊢
    obtain ⟨⟨s0, s1, s2, s3, s4, s5, s6⟩, ⟨t0, t1, t2, t3, t4, t5, t6⟩⟩ := hsE
    have y3u : BoxN U xa 57 [Value.int .i64 f.k, Value.int .i64 f.wd, Value.int .i64 f.id, Value.int .i64 f.ix, Value.slice p1 f.kids.length c1] := by rw [hU]; exact y3
    have y4u : BoxN U xb 57 [Value.int .i64 g.k, Value.int .i64 g.wd, Value.int .i64 g.id, Value.int .i64 g.ix, Value.slice p2 g.kids.length c2] := by rw [hU]; exact y4
    have x0 := y3u.row 0 _ rfl
    have x1 := y3u.row 1 _ rfl
    have x2 := y3u.row 2 _ rfl
    have x3 := y3u.row 3 _ rfl
    have x4 := y3u.row 4 _ rfl
    have v0 := y4u.row 0 _ rfl
    have v1 := y4u.row 1 _ rfl
    have v2 := y4u.row 2 _ rfl
    have v3 := y4u.row 3 _ rfl
    have v4 := y4u.row 4 _ rfl
    have hBU : Below w.heap.size w U := by rw [hU]; exact below_drew hBE
    have HBU := Lib.hid hBU
    clear y1 y2 y3 y4 y3u y4u hBE hU hBU
    cases q0 : (f.nm.toList == g.nm.toList) with
    | false =>
      have HE1 := Lib.hid (show eqF f g = false by rw [eqF_eq]; simp [q0])
      go_wp2_with fail
      go_ret
      exact bool_post HE1.out.symm HBU.out
    | true =>
      cases q1 : (f.nl == g.nl) with
      | false =>
        have HE1 := Lib.hid (show eqF f g = false by rw [eqF_eq]; simp [q0, q1])
        go_wp2_with fail
        go_ret
        exact bool_post HE1.out.symm HBU.out
      | true =>
        cases q2 : (f.k == g.k) with
        | false =>
          have HE1 := Lib.hid (show eqF f g = false by rw [eqF_eq]; simp [q0, q1, q2])
          go_wp2_with fail
          go_ret
          exact bool_post HE1.out.symm HBU.out
        | true =>
          cases q3 : (f.wd == g.wd) with
          | false =>
            have HE1 := Lib.hid (show eqF f g = false by rw [eqF_eq]; simp [q0, q1, q2, q3])
            go_wp2_with fail
            go_ret
            exact bool_post HE1.out.symm HBU.out
          | true =>
            cases q4 : (f.id == g.id) with
            | false =>
              have HE1 := Lib.hid (show eqF f g = false by rw [eqF_eq]; simp [q0, q1, q2, q3, q4])
              go_wp2_with fail
              go_ret
              exact bool_post HE1.out.symm HBU.out
            | true =>
              cases q5 : (f.ix == g.ix) with
              | false =>
                have HE1 := Lib.hid (show eqF f g = false by rw [eqF_eq]; simp [q0, q1, q2, q3, q4, q5])
                go_wp2_with fail
                go_ret
                exact bool_post HE1.out.symm HBU.out
              | true =>
                have HE1 := Lib.hid (show eqF f g = eqL f.kids g.kids by rw [eqF_eq]; simp [q0, q1, q2, q3, q4, q5])
                go_wp2_with fail
                refine (eqs_calls (HK1.out.below HBU.out) (HK2.out.below HBU.out) HI.out).mono ?_
                rintro e W9 ⟨rfl, hb9⟩
                have HB9 := Lib.hid (HBU.out.trans (hb9.mono HBU.out.size))
                generalize eqL f.kids g.kids = t at *
                clear hb9 s0 s1 s2 s3 s4 s5 s6 t0 t1 t2 t3 t4 t5 t6 x0 x1 x2 x3 x4 v0 v1 v2 v3 v4
                go_wp2_with fail
                go_ret
                exact bool_post HE1.out.symm HB9.out
  · go_simp
    have hsA : ((W.alloc (.cells #[Value.int .i64 0, Value.int .i64 0, Value.int .i64 0, Value.int .i64 0, Value.slice none 0 0] 57)).drew.cell? ⟨w.heap.size, 0, none⟩ = some (.string f.nm) ∧ (W.alloc (.cells #[Value.int .i64 0, Value.int .i64 0, Value.int .i64 0, Value.int .i64 0, Value.slice none 0 0] 57)).drew.cell? ⟨w.heap.size, 1, none⟩ = some (.bool f.nl) ∧ (W.alloc (.cells #[Value.int .i64 0, Value.int .i64 0, Value.int .i64 0, Value.int .i64 0, Value.slice none 0 0] 57)).drew.cell? ⟨w.heap.size, 2, none⟩ = some (.int .i64 f.k) ∧ (W.alloc (.cells #[Value.int .i64 0, Value.int .i64 0, Value.int .i64 0, Value.int .i64 0, Value.slice none 0 0] 57)).drew.cell? ⟨w.heap.size, 3, none⟩ = some (.int .i64 f.wd) ∧ (W.alloc (.cells #[Value.int .i64 0, Value.int .i64 0, Value.int .i64 0, Value.int .i64 0, Value.slice none 0 0] 57)).drew.cell? ⟨w.heap.size, 4, none⟩ = some (.int .i64 f.id) ∧ (W.alloc (.cells #[Value.int .i64 0, Value.int .i64 0, Value.int .i64 0, Value.int .i64 0, Value.slice none 0 0] 57)).drew.cell? ⟨w.heap.size, 5, none⟩ = some (.int .i64 f.ix) ∧ (W.alloc (.cells #[Value.int .i64 0, Value.int .i64 0, Value.int .i64 0, Value.int .i64 0, Value.slice none 0 0] 57)).drew.cell? ⟨w.heap.size, 6, none⟩ = some (.slice p1 f.kids.length c1)) ∧ ((W.alloc (.cells #[Value.int .i64 0, Value.int .i64 0, Value.int .i64 0, Value.int .i64 0, Value.slice none 0 0] 57)).drew.cell? ⟨w.heap.size + 1, 0, none⟩ = some (.string g.nm) ∧ (W.alloc (.cells #[Value.int .i64 0, Value.int .i64 0, Value.int .i64 0, Value.int .i64 0, Value.slice none 0 0] 57)).drew.cell? ⟨w.heap.size + 1, 1, none⟩ = some (.bool g.nl) ∧ (W.alloc (.cells #[Value.int .i64 0, Value.int .i64 0, Value.int .i64 0, Value.int .i64 0, Value.slice none 0 0] 57)).drew.cell? ⟨w.heap.size + 1, 2, none⟩ = some (.int .i64 g.k) ∧ (W.alloc (.cells #[Value.int .i64 0, Value.int .i64 0, Value.int .i64 0, Value.int .i64 0, Value.slice none 0 0] 57)).drew.cell? ⟨w.heap.size + 1, 3, none⟩ = some (.int .i64 g.wd) ∧ (W.alloc (.cells #[Value.int .i64 0, Value.int .i64 0, Value.int .i64 0, Value.int .i64 0, Value.slice none 0 0] 57)).drew.cell? ⟨w.heap.size + 1, 4, none⟩ = some (.int .i64 g.id) ∧ (W.alloc (.cells #[Value.int .i64 0, Value.int .i64 0, Value.int .i64 0, Value.int .i64 0, Value.slice none 0 0] 57)).drew.cell? ⟨w.heap.size + 1, 5, none⟩ = some (.int .i64 g.ix) ∧ (W.alloc (.cells #[Value.int .i64 0, Value.int .i64 0, Value.int .i64 0, Value.int .i64 0, Value.slice none 0 0] 57)).drew.cell? ⟨w.heap.size + 1, 6, none⟩ = some (.slice p2 g.kids.length c2)) := ⟨⟨BS1.out.row 0 _ rfl, BS1.out.row 1 _ rfl, BS1.out.row 2 _ rfl, BS1.out.row 3 _ rfl, BS1.out.row 4 _ rfl, BS1.out.row 5 _ rfl, BS1.out.row 6 _ rfl⟩, ⟨BS2.out.row 0 _ rfl, BS2.out.row 1 _ rfl, BS2.out.row 2 _ rfl, BS2.out.row 3 _ rfl, BS2.out.row 4 _ rfl, BS2.out.row 5 _ rfl, BS2.out.row 6 _ rfl⟩⟩
    refine hK _ _ (fun _ => hsA) ?_
    clear hK K
    refine Late.one (i := 4) (by kernel_rfl) rfl (fun K hK => ?_)
    go_simp
    obtain ⟨Y, hY⟩ : ∃ Y, Y = (W.alloc (.cells #[Value.int .i64 0, Value.int .i64 0, Value.int .i64 0, Value.int .i64 0, Value.slice none 0 0] 57)).alloc (.cells #[Value.int .i64 0, Value.int .i64 0, Value.int .i64 0, Value.int .i64 0, Value.slice none 0 0] 57) := ⟨_, rfl⟩
    have y1 : BoxN Y w.heap.size 59 [.string f.nm, .bool f.nl, .int .i64 f.k, .int .i64 f.wd, .int .i64 f.id, .int .i64 f.ix, .slice p1 f.kids.length c1] := by rw [hY]; exact BS1.out.alloc _
    have y2 : BoxN Y (w.heap.size + 1) 59 [.string g.nm, .bool g.nl, .int .i64 g.k, .int .i64 g.wd, .int .i64 g.id, .int .i64 g.ix, .slice p2 g.kids.length c2] := by rw [hY]; exact BS2.out.alloc _
    have y3 : BoxN Y W.heap.size 57 [Value.int .i64 0, Value.int .i64 0, Value.int .i64 0, Value.int .i64 0, Value.slice none 0 0] := by
      rw [hY]
      exact (BoxN.new W 57 [Value.int .i64 0, Value.int .i64 0, Value.int .i64 0, Value.int .i64 0, Value.slice none 0 0]).alloc _
    have y4 : BoxN Y (W.heap.size + 1) 57 [Value.int .i64 0, Value.int .i64 0, Value.int .i64 0, Value.int .i64 0, Value.slice none 0 0] := by
      rw [hY]
      have := BoxN.new (W.alloc (.cells #[Value.int .i64 0, Value.int .i64 0, Value.int .i64 0, Value.int .i64 0, Value.slice none 0 0] 57)) 57 [Value.int .i64 0, Value.int .i64 0, Value.int .i64 0, Value.int .i64 0, Value.slice none 0 0]
      rwa [World.size_alloc] at this
    have hBY : Below w.heap.size w Y := by rw [hY]; exact (HBW.out.alloc HBW.out.size _).alloc (by have := HBW.out.size; simp; omega) _
    rw [← hY]
    clear hY
    have hsY : (Y.drew.cell? ⟨w.heap.size, 0, none⟩ = some (.string f.nm) ∧ Y.drew.cell? ⟨w.heap.size, 1, none⟩ = some (.bool f.nl) ∧ Y.drew.cell? ⟨w.heap.size, 2, none⟩ = some (.int .i64 f.k) ∧ Y.drew.cell? ⟨w.heap.size, 3, none⟩ = some (.int .i64 f.wd) ∧ Y.drew.cell? ⟨w.heap.size, 4, none⟩ = some (.int .i64 f.id) ∧ Y.drew.cell? ⟨w.heap.size, 5, none⟩ = some (.int .i64 f.ix) ∧ Y.drew.cell? ⟨w.heap.size, 6, none⟩ = some (.slice p1 f.kids.length c1)) ∧ (Y.drew.cell? ⟨w.heap.size + 1, 0, none⟩ = some (.string g.nm) ∧ Y.drew.cell? ⟨w.heap.size + 1, 1, none⟩ = some (.bool g.nl) ∧ Y.drew.cell? ⟨w.heap.size + 1, 2, none⟩ = some (.int .i64 g.k) ∧ Y.drew.cell? ⟨w.heap.size + 1, 3, none⟩ = some (.int .i64 g.wd) ∧ Y.drew.cell? ⟨w.heap.size + 1, 4, none⟩ = some (.int .i64 g.id) ∧ Y.drew.cell? ⟨w.heap.size + 1, 5, none⟩ = some (.int .i64 g.ix) ∧ Y.drew.cell? ⟨w.heap.size + 1, 6, none⟩ = some (.slice p2 g.kids.length c2)) := ⟨⟨y1.row 0 _ rfl, y1.row 1 _ rfl, y1.row 2 _ rfl, y1.row 3 _ rfl, y1.row 4 _ rfl, y1.row 5 _ rfl, y1.row 6 _ rfl⟩, ⟨y2.row 0 _ rfl, y2.row 1 _ rfl, y2.row 2 _ rfl, y2.row 3 _ rfl, y2.row 4 _ rfl, y2.row 5 _ rfl, y2.row 6 _ rfl⟩⟩
    refine hK _ _ (fun _ => hsY) ?_
    clear hK K hsY hsA
    have XB := Lib.hid y4
    have YB := Lib.hid y3
    have Y1 := Lib.hid y1
    have Y2 := Lib.hid y2
    have HBY := Lib.hid hBY
    clear y1 y2 y3 y4 hBY
    obtain ⟨xa, hxa⟩ : ∃ xa, xa = W.heap.size + 1 := ⟨_, rfl⟩
    obtain ⟨xb, hxb⟩ : ∃ xb, xb = W.heap.size := ⟨_, rfl⟩
    have hxw1 : w.heap.size + 1 < xa := by have := HWS.out; omega
    have hxw2 : w.heap.size + 1 < xb := by have := HWS.out; omega
    have hxw3 : xa ≠ xb := by omega
    rw [← hxa] at XB ⊢
    rw [← hxb] at YB ⊢
    clear hxa hxb
    have HX1 := Lib.hid hxw1
    have HX2 := Lib.hid hxw2
    have HX3 := Lib.hid hxw3
    clear hxw1 hxw2 hxw3
    have kk0 : Y.cell? ⟨xa, 0, none⟩ = some _ := XB.out.row 0 _ rfl
    have kk1 : Y.cell? ⟨xa, 1, none⟩ = some _ := XB.out.row 1 _ rfl
    have kk2 : Y.cell? ⟨xa, 2, none⟩ = some _ := XB.out.row 2 _ rfl
    have kk3 : Y.cell? ⟨xa, 3, none⟩ = some _ := XB.out.row 3 _ rfl
    have kk4 : Y.cell? ⟨xa, 4, none⟩ = some _ := XB.out.row 4 _ rfl
    have k0 : Y.drew.cell? ⟨xa, 0, none⟩ = some _ := XB.out.row 0 _ rfl
    have k1 : Y.drew.cell? ⟨xa, 1, none⟩ = some _ := XB.out.row 1 _ rfl
    have k2 : Y.drew.cell? ⟨xa, 2, none⟩ = some _ := XB.out.row 2 _ rfl
    have k3 : Y.drew.cell? ⟨xa, 3, none⟩ = some _ := XB.out.row 3 _ rfl
    have k4 : Y.drew.cell? ⟨xa, 4, none⟩ = some _ := XB.out.row 4 _ rfl
    have z0 : Y.frozen? ⟨xa, 0, none⟩ = false := XB.out.frozen 0
    have z1 : Y.frozen? ⟨xa, 1, none⟩ = false := XB.out.frozen 1
    have z2 : Y.frozen? ⟨xa, 2, none⟩ = false := XB.out.frozen 2
    have z3 : Y.frozen? ⟨xa, 3, none⟩ = false := XB.out.frozen 3
    have z4 : Y.frozen? ⟨xa, 4, none⟩ = false := XB.out.frozen 4
    refine Late.one (i := 6) (by kernel_rfl) rfl (fun K hK => ?_)
    go_simp
    obtain ⟨E1, hE1⟩ : ∃ E1, E1 = put5 Y xa (.int .i64 f.k) (.int .i64 f.wd) (.int .i64 f.id) (.int .i64 f.ix) (.slice p1 f.kids.length c1) := ⟨_, rfl⟩
    have y1 : BoxN E1 w.heap.size 59 [.string f.nm, .bool f.nl, .int .i64 f.k, .int .i64 f.wd, .int .i64 f.id, .int .i64 f.ix, .slice p1 f.kids.length c1] := by rw [hE1]; exact (put5_other (by have := HX1.out; omega) _ _ _ _ _).trans Y1.out
    have y2 : BoxN E1 (w.heap.size + 1) 59 [.string g.nm, .bool g.nl, .int .i64 g.k, .int .i64 g.wd, .int .i64 g.id, .int .i64 g.ix, .slice p2 g.kids.length c2] := by rw [hE1]; exact (put5_other (by have := HX1.out; omega) _ _ _ _ _).trans Y2.out
    have y3 : BoxN E1 xa 57 [Value.int .i64 f.k, Value.int .i64 f.wd, Value.int .i64 f.id, Value.int .i64 f.ix, Value.slice p1 f.kids.length c1] := by rw [hE1]; exact put5_box (l := [_, _, _, _, _]) rfl XB.out _ _ _ _ _
    have y4 : BoxN E1 xb 57 [Value.int .i64 0, Value.int .i64 0, Value.int .i64 0, Value.int .i64 0, Value.slice none 0 0] := by rw [hE1]; exact (put5_other (by have := HX3.out; omega) _ _ _ _ _).trans YB.out
    have hBE : Below w.heap.size w E1 := by rw [hE1]; exact put5_below HBY.out (by have := HX1.out; omega) _ _ _ _ _
    have hEq : ((((Y.setCell ⟨xa, 0, none⟩ (.int .i64 f.k)).setCell ⟨xa, 1, none⟩ (.int .i64 f.wd)).setCell ⟨xa, 2, none⟩ (.int .i64 f.id)).setCell ⟨xa, 3, none⟩ (.int .i64 f.ix)).setCell ⟨xa, 4, none⟩ (.slice p1 f.kids.length c1) = E1 := by rw [hE1]; rfl
    rw [hEq]
    clear hEq hE1 k0 kk0 z0 k1 kk1 z1 k2 kk2 z2 k3 kk3 z3 k4 kk4 z4
    have hsE : (E1.drew.cell? ⟨w.heap.size, 0, none⟩ = some (.string f.nm) ∧ E1.drew.cell? ⟨w.heap.size, 1, none⟩ = some (.bool f.nl) ∧ E1.drew.cell? ⟨w.heap.size, 2, none⟩ = some (.int .i64 f.k) ∧ E1.drew.cell? ⟨w.heap.size, 3, none⟩ = some (.int .i64 f.wd) ∧ E1.drew.cell? ⟨w.heap.size, 4, none⟩ = some (.int .i64 f.id) ∧ E1.drew.cell? ⟨w.heap.size, 5, none⟩ = some (.int .i64 f.ix) ∧ E1.drew.cell? ⟨w.heap.size, 6, none⟩ = some (.slice p1 f.kids.length c1)) ∧ (E1.drew.cell? ⟨w.heap.size + 1, 0, none⟩ = some (.string g.nm) ∧ E1.drew.cell? ⟨w.heap.size + 1, 1, none⟩ = some (.bool g.nl) ∧ E1.drew.cell? ⟨w.heap.size + 1, 2, none⟩ = some (.int .i64 g.k) ∧ E1.drew.cell? ⟨w.heap.size + 1, 3, none⟩ = some (.int .i64 g.wd) ∧ E1.drew.cell? ⟨w.heap.size + 1, 4, none⟩ = some (.int .i64 g.id) ∧ E1.drew.cell? ⟨w.heap.size + 1, 5, none⟩ = some (.int .i64 g.ix) ∧ E1.drew.cell? ⟨w.heap.size + 1, 6, none⟩ = some (.slice p2 g.kids.length c2)) := ⟨⟨y1.row 0 _ rfl, y1.row 1 _ rfl, y1.row 2 _ rfl, y1.row 3 _ rfl, y1.row 4 _ rfl, y1.row 5 _ rfl, y1.row 6 _ rfl⟩, ⟨y2.row 0 _ rfl, y2.row 1 _ rfl, y2.row 2 _ rfl, y2.row 3 _ rfl, y2.row 4 _ rfl, y2.row 5 _ rfl, y2.row 6 _ rfl⟩⟩
    refine hK _ _ (fun _ => hsE) ?_
    clear hK K hsE
    have G1 := Lib.hid y1
    have G2 := Lib.hid y2
    have G3 := Lib.hid y3
    have G4 := Lib.hid y4
    have HBE := Lib.hid hBE
    clear y1 y2 y3 y4 hBE
    have kk0 : E1.cell? ⟨xb, 0, none⟩ = some _ := G4.out.row 0 _ rfl
    have kk1 : E1.cell? ⟨xb, 1, none⟩ = some _ := G4.out.row 1 _ rfl
    have kk2 : E1.cell? ⟨xb, 2, none⟩ = some _ := G4.out.row 2 _ rfl
    have kk3 : E1.cell? ⟨xb, 3, none⟩ = some _ := G4.out.row 3 _ rfl
    have kk4 : E1.cell? ⟨xb, 4, none⟩ = some _ := G4.out.row 4 _ rfl
    have k0 : E1.drew.cell? ⟨xb, 0, none⟩ = some _ := G4.out.row 0 _ rfl
    have k1 : E1.drew.cell? ⟨xb, 1, none⟩ = some _ := G4.out.row 1 _ rfl
    have k2 : E1.drew.cell? ⟨xb, 2, none⟩ = some _ := G4.out.row 2 _ rfl
    have k3 : E1.drew.cell? ⟨xb, 3, none⟩ = some _ := G4.out.row 3 _ rfl
    have k4 : E1.drew.cell? ⟨xb, 4, none⟩ = some _ := G4.out.row 4 _ rfl
    have z0 : E1.frozen? ⟨xb, 0, none⟩ = false := G4.out.frozen 0
    have z1 : E1.frozen? ⟨xb, 1, none⟩ = false := G4.out.frozen 1
    have z2 : E1.frozen? ⟨xb, 2, none⟩ = false := G4.out.frozen 2
    have z3 : E1.frozen? ⟨xb, 3, none⟩ = false := G4.out.frozen 3
    have z4 : E1.frozen? ⟨xb, 4, none⟩ = false := G4.out.frozen 4
    refine Late.one (i := 7) (by kernel_rfl) rfl (fun K hK => ?_)
    go_simp
    obtain ⟨E2, hE2⟩ : ∃ E2, E2 = put5 E1 xb (.int .i64 g.k) (.int .i64 g.wd) (.int .i64 g.id) (.int .i64 g.ix) (.slice p2 g.kids.length c2) := ⟨_, rfl⟩
    have y1 : BoxN E2 w.heap.size 59 [.string f.nm, .bool f.nl, .int .i64 f.k, .int .i64 f.wd, .int .i64 f.id, .int .i64 f.ix, .slice p1 f.kids.length c1] := by rw [hE2]; exact (put5_other (by have := HX2.out; omega) _ _ _ _ _).trans G1.out
    have y2 : BoxN E2 (w.heap.size + 1) 59 [.string g.nm, .bool g.nl, .int .i64 g.k, .int .i64 g.wd, .int .i64 g.id, .int .i64 g.ix, .slice p2 g.kids.length c2] := by rw [hE2]; exact (put5_other (by have := HX2.out; omega) _ _ _ _ _).trans G2.out
    have y3 : BoxN E2 xa 57 [Value.int .i64 f.k, Value.int .i64 f.wd, Value.int .i64 f.id, Value.int .i64 f.ix, Value.slice p1 f.kids.length c1] := by rw [hE2]; exact (put5_other HX3.out _ _ _ _ _).trans G3.out
    have y4 : BoxN E2 xb 57 [Value.int .i64 g.k, Value.int .i64 g.wd, Value.int .i64 g.id, Value.int .i64 g.ix, Value.slice p2 g.kids.length c2] := by rw [hE2]; exact put5_box (l := [_, _, _, _, _]) rfl G4.out _ _ _ _ _
    have hBE : Below w.heap.size w E2 := by rw [hE2]; exact put5_below HBE.out (by have := HX2.out; omega) _ _ _ _ _
    have hEq : ((((E1.setCell ⟨xb, 0, none⟩ (.int .i64 g.k)).setCell ⟨xb, 1, none⟩ (.int .i64 g.wd)).setCell ⟨xb, 2, none⟩ (.int .i64 g.id)).setCell ⟨xb, 3, none⟩ (.int .i64 g.ix)).setCell ⟨xb, 4, none⟩ (.slice p2 g.kids.length c2) = E2 := by rw [hE2]; rfl
    rw [hEq]
    clear hEq hE2 k0 kk0 z0 k1 kk1 z1 k2 kk2 z2 k3 kk3 z3 k4 kk4 z4
    have hsE : (E2.drew.cell? ⟨w.heap.size, 0, none⟩ = some (.string f.nm) ∧ E2.drew.cell? ⟨w.heap.size, 1, none⟩ = some (.bool f.nl) ∧ E2.drew.cell? ⟨w.heap.size, 2, none⟩ = some (.int .i64 f.k) ∧ E2.drew.cell? ⟨w.heap.size, 3, none⟩ = some (.int .i64 f.wd) ∧ E2.drew.cell? ⟨w.heap.size, 4, none⟩ = some (.int .i64 f.id) ∧ E2.drew.cell? ⟨w.heap.size, 5, none⟩ = some (.int .i64 f.ix) ∧ E2.drew.cell? ⟨w.heap.size, 6, none⟩ = some (.slice p1 f.kids.length c1)) ∧ (E2.drew.cell? ⟨w.heap.size + 1, 0, none⟩ = some (.string g.nm) ∧ E2.drew.cell? ⟨w.heap.size + 1, 1, none⟩ = some (.bool g.nl) ∧ E2.drew.cell? ⟨w.heap.size + 1, 2, none⟩ = some (.int .i64 g.k) ∧ E2.drew.cell? ⟨w.heap.size + 1, 3, none⟩ = some (.int .i64 g.wd) ∧ E2.drew.cell? ⟨w.heap.size + 1, 4, none⟩ = some (.int .i64 g.id) ∧ E2.drew.cell? ⟨w.heap.size + 1, 5, none⟩ = some (.int .i64 g.ix) ∧ E2.drew.cell? ⟨w.heap.size + 1, 6, none⟩ = some (.slice p2 g.kids.length c2)) := ⟨⟨y1.row 0 _ rfl, y1.row 1 _ rfl, y1.row 2 _ rfl, y1.row 3 _ rfl, y1.row 4 _ rfl, y1.row 5 _ rfl, y1.row 6 _ rfl⟩, ⟨y2.row 0 _ rfl, y2.row 1 _ rfl, y2.row 2 _ rfl, y2.row 3 _ rfl, y2.row 4 _ rfl, y2.row 5 _ rfl, y2.row 6 _ rfl⟩⟩
    refine hK _ _ (fun _ => hsE) ?_
    clear hK K
    refine Late.done (by kernel_rfl) ?_ _
    obtain ⟨U, hU⟩ : ∃ U, U = E2.drew := ⟨_, rfl⟩
    rw [← hU] at hsE ⊢
    obtain ⟨⟨s0, s1, s2, s3, s4, s5, s6⟩, ⟨t0, t1, t2, t3, t4, t5, t6⟩⟩ := hsE
    have y3u : BoxN U xa 57 [Value.int .i64 f.k, Value.int .i64 f.wd, Value.int .i64 f.id, Value.int .i64 f.ix, Value.slice p1 f.kids.length c1] := by rw [hU]; exact y3
    have y4u : BoxN U xb 57 [Value.int .i64 g.k, Value.int .i64 g.wd, Value.int .i64 g.id, Value.int .i64 g.ix, Value.slice p2 g.kids.length c2] := by rw [hU]; exact y4
    have x0 := y3u.row 0 _ rfl
    have x1 := y3u.row 1 _ rfl
    have x2 := y3u.row 2 _ rfl
    have x3 := y3u.row 3 _ rfl
    have x4 := y3u.row 4 _ rfl
    have v0 := y4u.row 0 _ rfl
    have v1 := y4u.row 1 _ rfl
    have v2 := y4u.row 2 _ rfl
    have v3 := y4u.row 3 _ rfl
    have v4 := y4u.row 4 _ rfl
    have hBU : Below w.heap.size w U := by rw [hU]; exact below_drew hBE
    have HBU := Lib.hid hBU
    clear y1 y2 y3 y4 y3u y4u hBE hU hBU
    cases q0 : (f.nm.toList == g.nm.toList) with
    | false =>
      have HE1 := Lib.hid (show eqF f g = false by rw [eqF_eq]; simp [q0])
      go_wp2_with fail
      go_ret
      exact bool_post HE1.out.symm HBU.out
    | true =>
      cases q1 : (f.nl == g.nl) with
      | false =>
        have HE1 := Lib.hid (show eqF f g = false by rw [eqF_eq]; simp [q0, q1])
        go_wp2_with fail
        go_ret
        exact bool_post HE1.out.symm HBU.out
      | true =>
        cases q2 : (f.k == g.k) with
        | false =>
          have HE1 := Lib.hid (show eqF f g = false by rw [eqF_eq]; simp [q0, q1, q2])
          go_wp2_with fail
          go_ret
          exact bool_post HE1.out.symm HBU.out
        | true =>
          cases q3 : (f.wd == g.wd) with
          | false =>
            have HE1 := Lib.hid (show eqF f g = false by rw [eqF_eq]; simp [q0, q1, q2, q3])
            go_wp2_with fail
            go_ret
            exact bool_post HE1.out.symm HBU.out
          | true =>
            cases q4 : (f.id == g.id) with
            | false =>
              have HE1 := Lib.hid (show eqF f g = false by rw [eqF_eq]; simp [q0, q1, q2, q3, q4])
              go_wp2_with fail
              go_ret
              exact bool_post HE1.out.symm HBU.out
            | true =>
              cases q5 : (f.ix == g.ix) with
              | false =>
                have HE1 := Lib.hid (show eqF f g = false by rw [eqF_eq]; simp [q0, q1, q2, q3, q4, q5])
                go_wp2_with fail
                go_ret
                exact bool_post HE1.out.symm HBU.out
              | true =>
                have HE1 := Lib.hid (show eqF f g = eqL f.kids g.kids by rw [eqF_eq]; simp [q0, q1, q2, q3, q4, q5])
                go_wp2_with fail
                refine (eqs_calls (HK1.out.below HBU.out) (HK2.out.below HBU.out) HI.out).mono ?_
                rintro e W9 ⟨rfl, hb9⟩
                have HB9 := Lib.hid (HBU.out.trans (hb9.mono HBU.out.size))
                generalize eqL f.kids g.kids = t at *
                clear hb9 s0 s1 s2 s3 s4 s5 s6 t0 t1 t2 t3 t4 t5 t6 x0 x1 x2 x3 x4 v0 v1 v2 v3 v4
                go_wp2_with fail
                go_ret
                exact bool_post HE1.out.symm HB9.out

theorem eq_calls (f : Fd) : ∀ (g : Fd) (w : World) (p1 p2 : Option Addr) (c1 c2 : Nat), FdAt w f [.string f.nm, .bool f.nl, .int .i64 f.k, .int .i64 f.wd, .int .i64 f.id, .int .i64 f.ix, .slice p1 f.kids.length c1] → FdAt w g [.string g.nm, .bool g.nl, .int .i64 g.k, .int .i64 g.wd, .int .i64 g.id, .int .i64 g.ix, .slice p2 g.kids.length c2] → Calls Tryz.prog 38 #[.agg #[.string f.nm, .bool f.nl, .int .i64 f.k, .int .i64 f.wd, .int .i64 f.id, .int .i64 f.ix, .slice p1 f.kids.length c1], .agg #[.string g.nm, .bool g.nl, .int .i64 g.k, .int .i64 g.wd, .int .i64 g.id, .int .i64 g.ix, .slice p2 g.kids.length c2]] w (BoolPost w (eqF f g)) :=
  fd_ind (P := fun f => ∀ (g : Fd) (w : World) (p1 p2 : Option Addr) (c1 c2 : Nat), FdAt w f [.string f.nm, .bool f.nl, .int .i64 f.k, .int .i64 f.wd, .int .i64 f.id, .int .i64 f.ix, .slice p1 f.kids.length c1] → FdAt w g [.string g.nm, .bool g.nl, .int .i64 g.k, .int .i64 g.wd, .int .i64 g.id, .int .i64 g.ix, .slice p2 g.kids.length c2] → Calls Tryz.prog 38 #[.agg #[.string f.nm, .bool f.nl, .int .i64 f.k, .int .i64 f.wd, .int .i64 f.id, .int .i64 f.ix, .slice p1 f.kids.length c1], .agg #[.string g.nm, .bool g.nl, .int .i64 g.k, .int .i64 g.wd, .int .i64 g.id, .int .i64 g.ix, .slice p2 g.kids.length c2]] w (BoolPost w (eqF f g))) (fun f ih g w p1 p2 c1 c2 h1 h2 => eq_step h1 h2 ih) f

end Go.Fld
