import Derived.Test.YtcllfbhlnjgomaaGreatDoorFx
import Derived.WalkKit
import Derived.ProofKit
import Derived.OpenShut
import Derived.ChangeOld
import Derived.Deep.Slices
set_option linter.unusedVariables false
set_option maxRecDepth 100000
/-!
  ONE Type, ONE New. No conditions.
-/
namespace Go.Fld
open Go Go.RowKit Go.Proofs Go.ChangeShapes Go.WideShapes Go.ChangeAt Go.Shelf

theorem run_eqlNil (w : World) (b : Option Addr) : (binOp .eql 31 (.pointer b) (.pointer none)).run Tryz.prog w = .ok (.bool b.isNone) w := by
  have h : ∀ d : Nat, (Op.equalIn (d + 1) 31 (.pointer b) (.pointer none)).run Tryz.prog w = .ok b.isNone w := fun d => by
    cases b <;> simp [Op.equalIn, run_underlying Tryz.underlying31]
  simp only [binOp]
  simp [Op.equal, Op.maxDepth, h 9999]
theorem run_eqlBool (w : World) (a b : Bool) : (binOp .eql 4 (.bool a) (.bool b)).run Tryz.prog w = .ok (.bool (a == b)) w := by
  have h : ∀ d : Nat, (Op.equalIn (d + 1) 4 (.bool a) (.bool b)).run Tryz.prog w = .ok (a == b) w := fun d => by
    simp [Op.equalIn, run_underlying Tryz.underlying4]
  simp only [binOp]
  simp [Op.equal, Op.maxDepth, h 9999]
attribute [local go_sem] run_eqlNil run_eqlBool

set_option maxHeartbeats 1000000 in
theorem typed_calls {w : World} {f : Fd} {p : Option Addr} {cap : Nat} (op : Int) (hop : i64B op) (hf : FdAt w f [.string f.nm, .bool f.nl, .int .i64 f.k, .int .i64 f.wd, .int .i64 f.id, .int .i64 f.ix, .slice p f.kids.length cap]) (hS : SaysAt w) :
    Calls Tryz.prog 6 #[.int .i64 op, .agg #[.string f.nm, .bool f.nl, .int .i64 f.k, .int .i64 f.wd, .int .i64 f.id, .int .i64 f.ix, .slice p f.kids.length cap]] w (YesPost w) := by
  have HF := Lib.hid hf
  have HS := Lib.hid hS
  have A1 := Lib.hid (BoxN.new w 28 [.string f.nm, .bool f.nl, .int .i64 f.k, .int .i64 f.wd, .int .i64 f.id, .int .i64 f.ix, .slice p f.kids.length cap])
  obtain ⟨r, hr⟩ : ∃ r, r = typeF op f := ⟨_, rfl⟩
  have HR := Lib.hid hr
  clear hf hS hr
  go_enter Tryz.func6, Tryz.ntmps6
  go_wp2_with fail
  obtain ⟨W, hW⟩ : ∃ W, W = w.alloc (.cells #[Value.string f.nm, Value.bool f.nl, Value.int .i64 f.k, Value.int .i64 f.wd, Value.int .i64 f.id, Value.int .i64 f.ix, Value.slice p f.kids.length cap] 28) := ⟨_, rfl⟩
  have hBW : Below w.heap.size w W := by rw [hW]; exact (Below.refl _ w).alloc (Nat.le_refl _) _
  have a1 : BoxN W w.heap.size 28 [.string f.nm, .bool f.nl, .int .i64 f.k, .int .i64 f.wd, .int .i64 f.id, .int .i64 f.ix, .slice p f.kids.length cap] := by rw [hW]; exact A1.out
  rw [← hW]
  clear hW A1
  -- Type
  refine (type_calls op hop (HF.out.below hBW) (HS.out.below hBW)).mono ?_
  rintro e W1 ⟨gp, gc, rfl, hg, hb1⟩
  rw [← HR.out] at hg ⊢
  have HG := Lib.hid hg
  have HB1 := Lib.hid (hBW.trans (hb1.mono hBW.size))
  have B1 := Lib.hid (a1.below hb1 a1.lt)
  clear hg hb1 hBW a1
  have r0 := B1.out.row 0 _ rfl
  have r1 := B1.out.row 1 _ rfl
  have r2 := B1.out.row 2 _ rfl
  have r3 := B1.out.row 3 _ rfl
  have r4 := B1.out.row 4 _ rfl
  have r5 := B1.out.row 5 _ rfl
  have r6 := B1.out.row 6 _ rfl
  have hl1 := B1.out.lt
  go_wp2_with fail
  have t1 := BoxN.new W1 28 [.string r.1.nm, .bool r.1.nl, .int .i64 r.1.k, .int .i64 r.1.wd, .int .i64 r.1.id, .int .i64 r.1.ix, .slice gp r.1.kids.length gc]
  obtain ⟨Y, hY⟩ : ∃ Y, Y = W1.alloc (.cells #[Value.string r.1.nm, Value.bool r.1.nl, Value.int .i64 r.1.k, Value.int .i64 r.1.wd, Value.int .i64 r.1.id, Value.int .i64 r.1.ix, Value.slice gp r.1.kids.length gc] 28) := ⟨_, rfl⟩
  have t1 : BoxN Y W1.heap.size 28 [.string r.1.nm, .bool r.1.nl, .int .i64 r.1.k, .int .i64 r.1.wd, .int .i64 r.1.id, .int .i64 r.1.ix, .slice gp r.1.kids.length gc] := by rw [hY]; exact t1
  have hBY : Below W1.heap.size W1 Y := by rw [hY]; exact (Below.refl _ W1).alloc (Nat.le_refl _) _
  have hBYw := HB1.out.trans (hBY.mono HB1.out.size)
  rw [← hY]
  obtain ⟨tb, htb⟩ : ∃ tb, tb = W1.heap.size := ⟨_, rfl⟩
  rw [← htb] at t1 ⊢
  clear hY htb r0 r1 r2 r3 r4 r5 r6
  have C1 := Lib.hid (B1.out.below hBY B1.out.lt)
  have TB := Lib.hid t1
  have HG := Lib.hid (HG.out.below hBY)
  have HBY := Lib.hid hBYw
  clear t1 hBY hBYw hl1
  -- R.Type
  refine (rtype_calls op hop (HF.out.below HBY.out)).mono ?_
  rintro e W2 ⟨gp2, gc2, rfl, hg, hb1⟩
  rw [← HR.out] at hg ⊢
  have HG2 := Lib.hid hg
  have HG := Lib.hid (HG.out.below hb1)
  have HB2 := Lib.hid (HBY.out.trans (hb1.mono HBY.out.size))
  have B2 := Lib.hid (C1.out.below hb1 C1.out.lt)
  have TB := Lib.hid (TB.out.below hb1 TB.out.lt)
  clear hg hb1
  have r0 := B2.out.row 0 _ rfl
  have r1 := B2.out.row 1 _ rfl
  have r2 := B2.out.row 2 _ rfl
  have r3 := B2.out.row 3 _ rfl
  have r4 := B2.out.row 4 _ rfl
  have r5 := B2.out.row 5 _ rfl
  have r6 := B2.out.row 6 _ rfl
  have hl1 := B2.out.lt
  go_wp2_with fail
  have t1 := BoxN.new W2 28 [.string r.1.nm, .bool r.1.nl, .int .i64 r.1.k, .int .i64 r.1.wd, .int .i64 r.1.id, .int .i64 r.1.ix, .slice gp2 r.1.kids.length gc2]
  obtain ⟨Z, hZ⟩ : ∃ Z, Z = W2.alloc (.cells #[Value.string r.1.nm, Value.bool r.1.nl, Value.int .i64 r.1.k, Value.int .i64 r.1.wd, Value.int .i64 r.1.id, Value.int .i64 r.1.ix, Value.slice gp2 r.1.kids.length gc2] 28) := ⟨_, rfl⟩
  have t1 : BoxN Z W2.heap.size 28 [.string r.1.nm, .bool r.1.nl, .int .i64 r.1.k, .int .i64 r.1.wd, .int .i64 r.1.id, .int .i64 r.1.ix, .slice gp2 r.1.kids.length gc2] := by rw [hZ]; exact t1
  have hBZ : Below W2.heap.size W2 Z := by rw [hZ]; exact (Below.refl _ W2).alloc (Nat.le_refl _) _
  have hBZw := HB2.out.trans (hBZ.mono HB2.out.size)
  rw [← hZ]
  obtain ⟨ub, hub⟩ : ∃ ub, ub = W2.heap.size := ⟨_, rfl⟩
  rw [← hub] at t1 ⊢
  clear hZ hub r0 r1 r2 r3 r4 r5 r6
  have C2 := Lib.hid (B2.out.below hBZ B2.out.lt)
  have TB := Lib.hid (TB.out.below hBZ TB.out.lt)
  have UB := Lib.hid t1
  have HG := Lib.hid (HG.out.below hBZ)
  have HG2 := Lib.hid (HG2.out.below hBZ)
  have HBZ := Lib.hid hBZw
  clear t1 hBZ hBZw hl1
  -- New
  refine (new_calls op hop (HF.out.below HBZ.out) (HS.out.below HBZ.out)).mono ?_
  rintro e W3 ⟨⟨q, rfl, hq⟩, hb1⟩
  rw [← HR.out] at hq ⊢
  have HG := Lib.hid (HG.out.below hb1)
  have HG2 := Lib.hid (HG2.out.below hb1)
  have HB3 := Lib.hid (HBZ.out.trans (hb1.mono HBZ.out.size))
  have TB := Lib.hid (TB.out.below hb1 TB.out.lt)
  have UB := Lib.hid (UB.out.below hb1 UB.out.lt)
  have HQ := Lib.hid hq
  clear hq hb1
  have r0 := TB.out.row 0 _ rfl
  have r1 := TB.out.row 1 _ rfl
  have r2 := TB.out.row 2 _ rfl
  have r3 := TB.out.row 3 _ rfl
  have r4 := TB.out.row 4 _ rfl
  have r5 := TB.out.row 5 _ rfl
  have r6 := TB.out.row 6 _ rfl
  have s0 := UB.out.row 0 _ rfl
  have s1 := UB.out.row 1 _ rfl
  have s2 := UB.out.row 2 _ rfl
  have s3 := UB.out.row 3 _ rfl
  have s4 := UB.out.row 4 _ rfl
  have s5 := UB.out.row 5 _ rfl
  have s6 := UB.out.row 6 _ rfl
  have hl1 := TB.out.lt
  have hl2 := UB.out.lt
  obtain ⟨g, er⟩ := r
  simp only at *
  go_wp2_with fail
  refine (eq_calls g W3 gp gp2 gc gc2 HG.out HG2.out).mono ?_
  rintro e W4 ⟨rfl, hb⟩
  have HB4 := Lib.hid (HB3.out.trans (hb.mono HB3.out.size))
  have hq := HQ.out
  clear hb r0 r1 r2 r3 r4 r5 r6 s0 s1 s2 s3 s4 s5 s6 hl1 hl2
  cases q with
  | none =>
    have hne : er ≠ 0 := hq.mp rfl
    have hx1 : (er == 0) = false := by simpa using hne
    have hx2 : (er != 0) = true := by simpa using hne
    clear hq HQ
    go_wp2_with fail
    go_ret
    exact ⟨rfl, HB4.out⟩
  | some x =>
    have he : er = 0 := by
      by_cases h : er = 0
      · exact h
      · exact absurd (hq.mpr h) (by simp)
    subst he
    clear hq HQ
    go_wp2_with fail
    go_ret
    exact ⟨rfl, HB4.out⟩

end Go.Fld

set_option linter.unusedVariables false
set_option maxRecDepth 100000
/-!
  THE LAW's CODE: every operator, every operator handed over, on every field. No conditions.
-/
namespace Go.Fld
open Go Go.RowKit Go.Proofs Go.ChangeShapes Go.WideShapes Go.ChangeAt Go.Shelf

/-- A list of whole numbers. -/
def IntsAt (w : World) (xs : List Int) (v : Value) : Prop := ∃ p cap, v = .slice p xs.length cap ∧ xs.length ≤ cap ∧ cap ≤ maxLen ∧ ∀ i (hi : i < xs.length), i64B xs[i] ∧ ∃ b o, p = some ⟨b, o, none⟩ ∧ w.cell? ⟨b, o + i, none⟩ = some (.int .i64 xs[i])

set_option maxHeartbeats 1000000 in
theorem law_calls {w : World} {L : List Fd} {v1 : Value} {xs : List Int} {v2 : Value} (h1 : FdsAt w L v1) (h2 : IntsAt w xs v2) (hS : SaysAt w) (ha : Calls Tryz.prog 5 #[] w (YesPost w)) :
    Calls Tryz.prog 4 #[v1, v2] w (YesPost w) := by
  obtain ⟨q1, e1, rfl, hl1, hm1, hC1⟩ := h1
  obtain ⟨q2, e2, rfl, hl2, hm2, hC2⟩ := h2
  unfold maxLen at hm1 hm2
  have H1 := Lib.hid hC1
  have H2 := Lib.hid hC2
  have HS := Lib.hid hS
  have HA := Lib.hid ha
  clear hC1 hC2 hS ha
  go_enter Tryz.func4, Tryz.ntmps4
  go_wp2_with fail
  refine HA.out.mono ?_
  rintro e W ⟨rfl, hb⟩
  have HBW := Lib.hid hb
  clear hb
  go_wp2_with fail
  go_loopw [14] (fun i wr => ∃ k : Nat, k ≤ L.length ∧ i = .int .i64 k ∧ Hid (Below w.heap.size w wr)) (fun i _ => L.length - (intOf i).toNat)
  case atStart => exact ⟨0, by omega, rfl, HBW⟩
  case round =>
    obtain ⟨k, hk, rfl, HB⟩ := hrel
    by_cases hlt : k < L.length
    · obtain ⟨b1, o1, p1, c1, rfl, f1, x0, x1, x2, x3, x4, x5, x6⟩ := H1.out.seven k hlt
      have F1 := Lib.hid f1
      generalize L[k] = g at *
      have y0 := cell_below HB.out x0
      have y1 := cell_below HB.out x1
      have y2 := cell_below HB.out x2
      have y3 := cell_below HB.out x3
      have y4 := cell_below HB.out x4
      have y5 := cell_below HB.out x5
      have y6 := cell_below HB.out x6
      clear x0 x1 x2 x3 x4 x5 x6 f1
      go_wp2_with fail
      have A1 := Lib.hid (BoxN.new wr 28 [.string g.nm, .bool g.nl, .int .i64 g.k, .int .i64 g.wd, .int .i64 g.id, .int .i64 g.ix, .slice p1 g.kids.length c1])
      obtain ⟨V, hV⟩ : ∃ V, V = wr.alloc (.cells #[Value.string g.nm, Value.bool g.nl, Value.int .i64 g.k, Value.int .i64 g.wd, Value.int .i64 g.id, Value.int .i64 g.ix, Value.slice p1 g.kids.length c1] 28) := ⟨_, rfl⟩
      have hBV : Below wr.heap.size wr V := by rw [hV]; exact (Below.refl _ wr).alloc (Nat.le_refl _) _
      have a1 : BoxN V wr.heap.size 28 [.string g.nm, .bool g.nl, .int .i64 g.k, .int .i64 g.wd, .int .i64 g.id, .int .i64 g.ix, .slice p1 g.kids.length c1] := by rw [hV]; exact A1.out
      rw [← hV]
      have HBV := Lib.hid (HB.out.trans (hBV.mono HB.out.size))
      have B1 := Lib.hid a1
      have G1 := Lib.hid ((F1.out.below (HB.out)).below hBV)
      obtain ⟨fb, hfb⟩ : ∃ fb, fb = wr.heap.size := ⟨_, rfl⟩
      rw [← hfb] at B1 ⊢
      clear hV hBV a1 A1 F1 y0 y1 y2 y3 y4 y5 y6 hfb HB
      go_loopw [7] (fun o wi => ∃ op : Int, -1 ≤ op ∧ op ≤ 12 ∧ o = .int .i64 op ∧ Hid (Below V.heap.size V wi)) (fun o _ => (12 - intOf o).toNat)
      case atStart => exact ⟨-1, by omega, by omega, rfl, Lib.hid (Below.refl _ _)⟩
      case round =>
        obtain ⟨op, ho1, ho2, rfl, HBi⟩ := hrel
        have B2 := Lib.hid (B1.out.below HBi.out B1.out.lt)
        have HB2 := Lib.hid (HBV.out.trans (HBi.out.mono HBV.out.size))
        by_cases hlo : op < 12
        · have hop : i64B op := ⟨by omega, by omega⟩
          have r0 := B2.out.row 0 _ rfl
          have r1 := B2.out.row 1 _ rfl
          have r2 := B2.out.row 2 _ rfl
          have r3 := B2.out.row 3 _ rfl
          have r4 := B2.out.row 4 _ rfl
          have r5 := B2.out.row 5 _ rfl
          have r6 := B2.out.row 6 _ rfl
          have hlf := B2.out.lt
          go_wp2_with fail
          refine (typed_calls op hop (G1.out.below HBi.out) (HS.out.below HB2.out)).mono ?_
          rintro e W2 ⟨rfl, hb2⟩
          have HBi2 := Lib.hid (HBi.out.trans (hb2.mono HBi.out.size))
          clear hb2 r0 r1 r2 r3 r4 r5 r6 hlf
          go_wp2_with fail
          go_round
          case rel => exact ⟨op + 1, by omega, by omega, by go_num, HBi2⟩
          case measure => simp [intOf]; omega
        · go_wp2_with fail
          go_loopw [28] (fun i wi => ∃ j : Nat, j ≤ xs.length ∧ i = .int .i64 j ∧ Hid (Below V.heap.size V wi)) (fun i _ => xs.length - (intOf i).toNat)
          case atStart => exact ⟨0, by omega, rfl, HBi⟩
          case round =>
            obtain ⟨j, hj, rfl, HBj⟩ := hrel
            have B2 := Lib.hid (B1.out.below HBj.out B1.out.lt)
            have HB2 := Lib.hid (HBV.out.trans (HBj.out.mono HBV.out.size))
            by_cases hlj : j < xs.length
            · obtain ⟨hx, b2, o2, rfl, z0⟩ := H2.out j hlj
              have z0 := cell_below HB2.out z0
              generalize xs[j] = xj at *
              have r0 := B2.out.row 0 _ rfl
              have r1 := B2.out.row 1 _ rfl
              have r2 := B2.out.row 2 _ rfl
              have r3 := B2.out.row 3 _ rfl
              have r4 := B2.out.row 4 _ rfl
              have r5 := B2.out.row 5 _ rfl
              have r6 := B2.out.row 6 _ rfl
              have hlf := B2.out.lt
              go_wp2_with fail
              refine (typed_calls xj hx (G1.out.below HBj.out) (HS.out.below HB2.out)).mono ?_
              rintro e W2 ⟨rfl, hb2⟩
              have HBj2 := Lib.hid (HBj.out.trans (hb2.mono HBj.out.size))
              clear hb2 r0 r1 r2 r3 r4 r5 r6 hlf z0
              go_wp2_with fail
              go_round
              case rel => exact ⟨j + 1, by omega, by go_num, HBj2⟩
              case measure => simp [intOf]; omega
            · go_wp2_with fail
              go_round
              case rel => exact ⟨k + 1, by omega, by go_num, HB2⟩
              case measure => simp [intOf]; omega
    · go_wp2_with fail
      go_ret
      exact ⟨rfl, HB.out⟩

end Go.Fld

set_option linter.unusedVariables false
/-!
  ARGUMENTS OPENED: slices of whatever elements, at every index; structs field by field.
-/
namespace Go.Fld.Open
open Go.ChangeShapes Go.WideShapes Go.ChangeAt Go.RowKit Go.Deep

theorem add_plain (b off j : Nat) : (⟨b, off, none⟩ : Addr).add j = ⟨b, off + j, none⟩ := by unfold Addr.add; split <;> simp_all

/-- One list for a fact at every index. -/
theorem list_of {α : Type} {n : Nat} {p : Nat → α → Prop} (h : ∀ i, i < n → ∃ x, p i x) : ∃ l : List α, l.length = n ∧ ∀ i (hi : i < l.length), p i l[i] := by
  induction n with
  | zero => exact ⟨[], rfl, fun i hi => by simp at hi⟩
  | succ n ih =>
    obtain ⟨l, hl, hp⟩ := ih (fun i hi => h i (by omega))
    obtain ⟨x, hx⟩ := h n (by omega)
    refine ⟨l ++ [x], by simp [hl], fun i hi => ?_⟩
    by_cases e : i < l.length
    · rw [List.getElem_append_left e]; exact hp i e
    · have : i = l.length := by simp at hi; omega
      subst this
      rw [List.getElem_append_right (Nat.le_refl _)]
      simp [hl]; exact hl ▸ hx

theorem mapM_some {α β : Type} {f : α → Option β} : ∀ {l : List α} {r : List β}, l.mapM f = some r → r.length = l.length ∧ ∀ j (h : j < l.length), f l[j] = r[j]?
  | [], r, h => by simp at h; subst h; simp
  | a :: l, r, h => by
    rw [List.mapM_cons] at h
    cases ha : f a with
    | none => rw [ha] at h; cases h
    | some b =>
      rw [ha] at h
      cases hl : l.mapM f with
      | none => rw [hl] at h; cases h
      | some r' =>
        rw [hl] at h
        obtain rfl : b :: r' = r := Option.some.inj h
        obtain ⟨h1, h2⟩ := mapM_some hl
        refine ⟨by simp [h1], fun j hj => ?_⟩
        cases j with
        | zero => simpa using ha
        | succ j => simpa using h2 j (by simpa using hj)

theorem cells?_some {w : World} {base : Nat} {a : Addr} {n : Nat} {cs : List Value} (h : w.cells? base a n = some cs) : cs.length = n ∧ ∀ j, j < n → w.cell? (a.add j) = cs[j]? := by
  unfold World.cells? at h
  split at h
  · obtain ⟨h1, h2⟩ := mapM_some h
    refine ⟨by simpa using h1, fun j hj => ?_⟩
    have h3 := h2 j (by simpa using hj)
    rw [List.getElem_range] at h3
    exact h3
  · cases h

theorem spot_of_cell {w : World} {a : Addr} {v : Value} (h : w.cell? a = some v) : ∃ b off, a = ⟨b, off, none⟩ := by
  obtain ⟨b, off, sp⟩ := a
  cases sp with
  | none => exact ⟨b, off, rfl⟩
  | some s =>
    exfalso
    unfold World.cell? at h
    split at h <;> simp at h

section
variable {H : Type} {enc : TypeId × Value → H} {P : Program} {w : World}

/-- A SLICE AT EVERY INDEX. -/
theorem slice {t e : TypeId} {p : Option Addr} {len cap : Nat} {d : DataW H} {ps : List MemPlace} (ht : P.underlying t = some (.slice e)) (he : 0 < P.cellsOf e)
    (h : DataW.Trod enc P w 0 (fun _ => true) true t (.slice p len cap) d ps) :
    len ≤ cap ∧ cap ≤ maxLen ∧ ∃ (CS : Nat → List Value) (D : Nat → DataW H) (n : Nat),
      (∀ i, i < len → (CS i).length = P.cellsOf e ∧ (∃ Pl, DataW.trod enc P w 0 (fun _ => true) true n e (CS i) = some (D i, Pl)) ∧
        ∃ b off, p = some ⟨b, off, none⟩ ∧ ∀ j, j < P.cellsOf e → w.cell? ⟨b, off + i * P.cellsOf e + j, none⟩ = (CS i)[j]?) ∧
      ((d = .nil ∧ len = 0) ∨ ∃ sp, d = .slice ((List.range len).map D) sp ∧ len + sp.length = cap) := by
  obtain ⟨fuel, hf⟩ := h
  rcases open_slice ht hf with ⟨hcs, hx⟩ | ⟨a, l, c, m, n, D, Pl, hcs, _, hl, hm, hmm, hx, hel⟩
  · simp [Value.cells] at hcs
    obtain ⟨rfl, rfl, rfl⟩ := hcs
    refine ⟨Nat.le_refl _, Nat.zero_le _, fun _ => [], fun _ => .nil, 0, fun i hi => absurd hi (Nat.not_lt_zero _), .inl ⟨?_, rfl⟩⟩
    simp at hx; exact hx.1
  · simp [Value.cells] at hcs
    obtain ⟨rfl, rfl, rfl⟩ := hcs
    simp only [if_true] at hmm
    subst hmm
    have hcs : ∀ i, ∃ cs, i < m → w.cells? 0 (a.add (i * P.cellsOf e)) (P.cellsOf e) = some cs ∧ DataW.trod enc P w 0 (fun _ => true) true n e cs = some (D i, Pl i) := by
      intro i
      by_cases hi : i < m
      · obtain ⟨cs, h1, h2⟩ := hel i hi; exact ⟨cs, fun _ => ⟨h1, h2⟩⟩
      · exact ⟨[], fun h => absurd h hi⟩
    obtain ⟨CS, hCS⟩ := Classical.axiomOfChoice hcs
    refine ⟨hl, hm, CS, D, n, fun i hi => ?_, .inr ⟨(List.range (m - len)).map fun j => D (len + j), ?_, ?_⟩⟩
    · obtain ⟨h1, h2⟩ := hCS i (by omega)
      obtain ⟨h3, h4⟩ := cells?_some h1
      refine ⟨h3, ⟨_, h2⟩, ?_⟩
      obtain ⟨g1, g2⟩ := hCS 0 (by omega)
      obtain ⟨g3, g4⟩ := cells?_some g1
      have h5 := g4 0 he
      rw [List.getElem?_eq_getElem (by omega)] at h5
      have hadd : (a.add (0 * P.cellsOf e)).add 0 = a := by simp [Addr.add]
      rw [hadd] at h5
      obtain ⟨b, off, rfl⟩ := spot_of_cell h5
      refine ⟨b, off, rfl, fun j hj => ?_⟩
      have := h4 j hj
      rwa [add_plain, add_plain] at this
    · exact (Prod.mk.inj hx).1
    · simp; omega

/-- A field of a struct that is read. -/
theorem field {t : TypeId} {fs : Array Field} {fuel : Nat} {cs : List Value} {x : DataW H × List MemPlace} (ht : P.underlying t = some (.struct fs)) (h : DataW.trod enc P w 0 (fun _ => true) true fuel t cs = some x)
    (i : Nat) (T off size : Nat) (hf : (fs[i]?).map (fun f => (f.type, f.offset)) = some (T, off)) (hc : P.cellsOf T = size) :
    ∃ n y, DataW.trod enc P w 0 (fun _ => true) true n T ((cs.drop off).take size) = some y := by
  obtain ⟨xs, m, _, _, hl, hlen, hff⟩ := DataW.trod_struct ht h
  subst hc
  cases hfi : fs[i]? with
  | none => rw [hfi] at hf; cases hf
  | some f =>
    rw [hfi] at hf
    simp at hf
    obtain ⟨rfl, rfl⟩ := hf
    have h2 := hff i f hfi
    have hi : i < xs.length := by have := (Array.getElem?_eq_some_iff.1 hfi).1; omega
    rw [List.getElem?_eq_getElem hi] at h2
    exact ⟨m, _, h2⟩

theorem struct_len {t : TypeId} {fs : Array Field} {fuel : Nat} {cs : List Value} {x : DataW H × List MemPlace} (ht : P.underlying t = some (.struct fs)) (h : DataW.trod enc P w 0 (fun _ => true) true fuel t cs = some x) : cs.length = P.cellsOf t := by
  obtain ⟨xs, m, _, _, hl, hlen, hff⟩ := DataW.trod_struct ht h
  exact hl

end
end Go.Fld.Open

set_option linter.unusedVariables false
set_option maxRecDepth 100000
/-!
  FIELDS AND NUMBERS AS ARGUMENTS. No conditions.
-/
namespace Go.Fld
open Go Go.ChangeShapes Go.WideShapes Go.ChangeAt Go.RowKit Go.Deep Go.Proofs

theorem FdsC.mk' {w : World} {p : Option Addr} : ∀ {l : List Fd} {off : Nat}, (∀ (i : Nat) (hi : i < l.length), ∃ b o cs, p = some ⟨b, o, none⟩ ∧ (∀ (j : Nat) (u : Value), cs[j]? = some u → w.cell? ⟨b, o + (off + 7 * i) + j, none⟩ = some u) ∧ FdAt w l[i] cs) → FdsC w p off l
  | [], off, h => trivial
  | f :: r, off, h => by
    simp only [FdsC]
    refine ⟨?_, FdsC.mk' (l := r) (off := off + 7) fun i hi => ?_⟩
    · have := h 0 (by simp)
      simpa using this
    · obtain ⟨b, o, cs, h1, h2, h3⟩ := h (i + 1) (by simpa using hi)
      refine ⟨b, o, cs, h1, fun j u hj => ?_, by simpa using h3⟩
      have := h2 j u hj
      rwa [show o + (off + 7 * (i + 1)) + j = o + (off + 7 + 7 * i) + j from by omega] at this

theorem bounds64 {x : Int} (h : (Lit.int .i64 x).wf = true) : i64B x := by
  simp [Lit.wf] at h
  have e : IntKind.i64.min = -9223372036854775808 := rfl
  rw [e] at h
  exact h

section
variable {H : Type} {enc : TypeId × Value → H} {w : World}
theorem fds_open : ∀ (n : Nat) (v : Value) (x : DataW H × List MemPlace), DataW.trod enc Tryz.prog w 0 (fun _ => true) true n 23 [v] = some x → ∃ l : List Fd, FdsAt w l v := by
  intro n
  induction n using Nat.strongRecOn with
  | _ n ih =>
  intro v x h
  have hC : Tryz.prog.cellsOf 28 = 7 := by kernel_rfl
  have hC9 : Tryz.prog.cellsOf 9 = 1 := by kernel_rfl
  have hC4 : Tryz.prog.cellsOf 4 = 1 := by kernel_rfl
  have hC3 : Tryz.prog.cellsOf 3 = 1 := by kernel_rfl
  have hC26 : Tryz.prog.cellsOf 26 = 5 := by kernel_rfl
  have hC23 : Tryz.prog.cellsOf 23 = 1 := by kernel_rfl
  rcases DataW.trod_slice Tryz.underlying23 h with ⟨hcs, _⟩ | ⟨a, len, cap, elems, rest, m, rfl, hcs, rfl, hb, hl, hm, hlen, hel, _, _⟩
  · simp at hcs
    subst hcs
    exact ⟨[], none, 0, rfl, Nat.le_refl _, Nat.zero_le _, trivial⟩
  · simp at hcs
    subst hcs
    rw [hC] at hel
    have hap : 0 < len → ∃ b o, a = ⟨b, o, none⟩ := by
      intro h0
      have h1 := hel 0 h0
      rw [List.getElem?_eq_getElem (by omega)] at h1
      obtain ⟨cs, h2, h3⟩ := Option.bind_eq_some_iff.1 h1
      obtain ⟨hcl, hcc⟩ := Open.cells?_some h2
      have h4 := hcc 0 (by omega)
      rw [show (a.add (0 * 7)).add 0 = a from by simp [Addr.add], List.getElem?_eq_getElem (by omega)] at h4
      exact Open.spot_of_cell h4
    have key : ∀ i, i < len → ∃ y : Fd × List Value, (∃ b o, a = ⟨b, o, none⟩ ∧ ∀ (j : Nat) (u : Value), y.2[j]? = some u → w.cell? ⟨b, o + 7 * i + j, none⟩ = some u) ∧ FdAt w y.1 y.2 := by
      intro i hi
      have h1 := hel i hi
      rw [List.getElem?_eq_getElem (by omega)] at h1
      obtain ⟨cs, h2, h3⟩ := Option.bind_eq_some_iff.1 h1
      obtain ⟨hcl, hcc⟩ := Open.cells?_some h2
      obtain ⟨xs, k, rfl, _, _, hxl, hf⟩ := DataW.trod_struct Tryz.underlying28 h3
      obtain ⟨c0, c1, c2, c3, c4, c5, c6, rfl⟩ : ∃ c0 c1 c2 c3 c4 c5 c6, cs = [c0, c1, c2, c3, c4, c5, c6] := by
        match cs, hcl with
        | [a, b, c, d, e, f, g], _ => exact ⟨a, b, c, d, e, f, g, rfl⟩
      obtain ⟨y0, y1, y2, rfl⟩ : ∃ y0 y1 y2, xs = [y0, y1, y2] := by
        match xs, hxl with
        | [a, b, c], _ => exact ⟨a, b, c, rfl⟩
      have f0 : DataW.trod enc Tryz.prog w 0 (fun _ => true) true k 9 (([c0, c1, c2, c3, c4, c5, c6].drop 0).take (Tryz.prog.cellsOf 9)) = some y0 := hf 0 _ rfl
      have f1 : DataW.trod enc Tryz.prog w 0 (fun _ => true) true k 4 (([c0, c1, c2, c3, c4, c5, c6].drop 1).take (Tryz.prog.cellsOf 4)) = some y1 := hf 1 _ rfl
      have f2 : DataW.trod enc Tryz.prog w 0 (fun _ => true) true k 26 (([c0, c1, c2, c3, c4, c5, c6].drop 2).take (Tryz.prog.cellsOf 26)) = some y2 := hf 2 _ rfl
      rw [hC9] at f0
      rw [hC4] at f1
      rw [hC26] at f2
      obtain ⟨s, e0, _, hs⟩ := DataW.trod_string (x := y0) Tryz.underlying9 f0
      obtain ⟨b, e1, _⟩ := DataW.trod_bool (x := y1) Tryz.underlying4 f1
      obtain ⟨zs, k', rfl, _, _, hzl, hg⟩ := DataW.trod_struct (x := y2) Tryz.underlying26 f2
      obtain ⟨z0, z1, z2, z3, z4, rfl⟩ : ∃ z0 z1 z2 z3 z4, zs = [z0, z1, z2, z3, z4] := by
        match zs, hzl with
        | [a, b, c, d, e], _ => exact ⟨a, b, c, d, e, rfl⟩
      have g0 : DataW.trod enc Tryz.prog w 0 (fun _ => true) true k' 3 (([c2, c3, c4, c5, c6].drop 0).take (Tryz.prog.cellsOf 3)) = some z0 := hg 0 _ rfl
      rw [hC3] at g0
      have g1 : DataW.trod enc Tryz.prog w 0 (fun _ => true) true k' 3 (([c2, c3, c4, c5, c6].drop 1).take (Tryz.prog.cellsOf 3)) = some z1 := hg 1 _ rfl
      rw [hC3] at g1
      have g2 : DataW.trod enc Tryz.prog w 0 (fun _ => true) true k' 3 (([c2, c3, c4, c5, c6].drop 2).take (Tryz.prog.cellsOf 3)) = some z2 := hg 2 _ rfl
      rw [hC3] at g2
      have g3 : DataW.trod enc Tryz.prog w 0 (fun _ => true) true k' 3 (([c2, c3, c4, c5, c6].drop 3).take (Tryz.prog.cellsOf 3)) = some z3 := hg 3 _ rfl
      rw [hC3] at g3
      have g4 : DataW.trod enc Tryz.prog w 0 (fun _ => true) true k' 23 (([c2, c3, c4, c5, c6].drop 4).take (Tryz.prog.cellsOf 23)) = some z4 := hg 4 _ rfl
      rw [hC23] at g4
      obtain ⟨n0, q0, _, w0⟩ := DataW.trod_int (x := z0) Tryz.underlying3 g0
      obtain ⟨n1, q1, _, w1⟩ := DataW.trod_int (x := z1) Tryz.underlying3 g1
      obtain ⟨n2, q2, _, w2⟩ := DataW.trod_int (x := z2) Tryz.underlying3 g2
      obtain ⟨n3, q3, _, w3⟩ := DataW.trod_int (x := z3) Tryz.underlying3 g3
      obtain ⟨L, p, cp, e6, hl6, hm6, hC6⟩ := ih k' (by omega) c6 z4 g4
      simp at e0 e1 q0 q1 q2 q3
      subst e0 e1 q0 q1 q2 q3 e6
      obtain ⟨b', o', rfl⟩ := hap (by omega)
      refine ⟨(.mk s b n0 n1 n2 n3 L, [.string s, .bool b, .int .i64 n0, .int .i64 n1, .int .i64 n2, .int .i64 n3, .slice p L.length cp]), ⟨b', o', rfl, fun j u hj => ?_⟩, ?_⟩
      · have hj7 := (List.getElem?_eq_some_iff.1 hj).1
        have := hcc j (by simpa using hj7)
        rw [Open.add_plain, Open.add_plain] at this
        rw [show o' + 7 * i + j = o' + i * 7 + j from by omega, this]
        exact hj
      · simp only [FdAt]
        exact ⟨hs, bounds64 w0, bounds64 w1, bounds64 w2, bounds64 w3, p, cp, rfl, hl6, hm6, hC6⟩
    obtain ⟨ys, hyl, hy⟩ := Open.list_of key
    refine ⟨ys.map (·.1), some a, cap, by simp [hyl], by simpa [hyl] using hl, hm, FdsC.mk' fun i hi => ?_⟩
    obtain ⟨⟨b, o, rfl, h2⟩, h3⟩ := hy i (by simpa using hi)
    refine ⟨b, o, (ys[i]'(by simpa using hi)).2, rfl, fun j u hj => ?_, by simpa using h3⟩
    rw [Nat.zero_add]
    exact h2 j u hj

theorem ints_open {v : Value} {d : DataW H} {ps : List MemPlace} {n : Nat} (h : DataW.trod enc Tryz.prog w 0 (fun _ => true) true n 24 [v] = some (d, ps)) : ∃ xs : List Int, IntsAt w xs v := by
  have hC3 : Tryz.prog.cellsOf 3 = 1 := by kernel_rfl
  rcases DataW.trod_slice Tryz.underlying24 h with ⟨hcs, _⟩ | ⟨a, len, cap, elems, rest, m, rfl, hcs, _, hb, hl, hm, hlen, hel, _, _⟩
  · simp at hcs
    subst hcs
    exact ⟨[], none, 0, rfl, Nat.le_refl _, Nat.zero_le _, fun i hi => absurd hi (Nat.not_lt_zero _)⟩
  · simp at hcs
    subst hcs
    rw [hC3] at hel
    have hap : 0 < len → ∃ b o, a = ⟨b, o, none⟩ := by
      intro h0
      have h1 := hel 0 h0
      rw [List.getElem?_eq_getElem (by omega)] at h1
      obtain ⟨cs, h2, h3⟩ := Option.bind_eq_some_iff.1 h1
      obtain ⟨hcl, hcc⟩ := Open.cells?_some h2
      have h4 := hcc 0 (by omega)
      rw [show (a.add (0 * 1)).add 0 = a from by simp [Addr.add], List.getElem?_eq_getElem (by omega)] at h4
      exact Open.spot_of_cell h4
    have key : ∀ i, i < len → ∃ y : Int, i64B y ∧ ∃ b o, a = ⟨b, o, none⟩ ∧ w.cell? ⟨b, o + i, none⟩ = some (.int .i64 y) := by
      intro i hi
      have h1 := hel i hi
      rw [List.getElem?_eq_getElem (by omega)] at h1
      obtain ⟨cs, h2, h3⟩ := Option.bind_eq_some_iff.1 h1
      obtain ⟨hcl, hcc⟩ := Open.cells?_some h2
      obtain ⟨n0, rfl, _, w0⟩ := DataW.trod_int Tryz.underlying3 h3
      have h4 := hcc 0 (by omega)
      obtain ⟨b', o', rfl⟩ := hap (by omega)
      rw [Open.add_plain, Open.add_plain] at h4
      exact ⟨n0, bounds64 w0, b', o', rfl, by simpa using h4⟩
    obtain ⟨ys, hyl, hy⟩ := Open.list_of key
    refine ⟨ys, some a, cap, by simp [hyl], by omega, hm, fun i hi => ?_⟩
    obtain ⟨h1, b, o, rfl, h2⟩ := hy i hi
    exact ⟨h1, b, o, rfl, h2⟩
end
end Go.Fld
