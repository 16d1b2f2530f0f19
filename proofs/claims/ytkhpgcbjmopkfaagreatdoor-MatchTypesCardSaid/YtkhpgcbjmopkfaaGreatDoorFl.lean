import Derived.Test.YtkhpgcbjmopkfaaGreatDoorFi
import Derived.Test.YtkhpgcbjmopkfaaGreatDoorFk
import Derived.Test.YtkhpgcbjmopkfaaGreatDoorLate
import Derived.Deep.AppendLies
import Derived.Laws.MakeOwn
import Derived.Laws.CopyRow
set_option linter.unusedVariables false
set_option maxRecDepth 100000
/-!
  ALL FIELDS OF A LIST: the reference's grow. No conditions.
-/
namespace Go.Fld
open Go Go.RowKit Go.Proofs Go.ChangeShapes Go.WideShapes Go.ChangeAt Go.Shelf

/-! ### A list that grows: what else lay lies as it lay -/
structure Grows (W : World) (v : Value) (W' : World) (v' : Value) : Prop where
  grown : W.grownBy W' v.ownBlock
  own : v'.ownBlock = v.ownBlock ∨ ∃ k, v'.ownBlock = some k ∧ W.heap.size ≤ k
theorem Grows.refl (W : World) (v : Value) : Grows W v W v := ⟨World.grownBy.refl _ _, .inl rfl⟩
theorem Grows.trans {A B C : World} {u v x : Value} (h : Grows A u B v) (k : Grows B v C x) : Grows A u C x := by
  refine ⟨⟨k.grown.os.trans h.grown.os, k.grown.tape.trans h.grown.tape, k.grown.output.trans h.grown.output, Nat.le_trans h.grown.size k.grown.size, fun i hi hne => ?_⟩, ?_⟩
  · refine (k.grown.block i (Nat.lt_of_lt_of_le hi h.grown.size) ?_).trans (h.grown.block i hi hne)
    rcases h.own with e | ⟨j, e, hj⟩
    · rw [e]; exact hne
    · rw [e]; intro e'; cases e'; omega
  · rcases k.own with e | ⟨j, e, hj⟩
    · rcases h.own with e' | ⟨i, e', hi⟩
      · exact .inl (e.trans e')
      · exact .inr ⟨i, e.trans e', hi⟩
    · exact .inr ⟨j, e, Nat.le_trans h.grown.size hj⟩
theorem Grows.of_below {A B : World} (v : Value) (h : Below A.heap.size A B) : Grows A v B v := ⟨⟨h.os, h.tape, h.output, h.size, fun k hk _ => h.block k hk⟩, .inl rfl⟩
theorem Grows.block {A B : World} {u v : Value} (h : Grows A u B v) {k : Nat} (hk : k < A.heap.size) (hne : u.ownBlock ≠ some k) : B.heap[k]? = A.heap[k]? := h.grown.block k hk (fun e => hne e.symm)
theorem Grows.off {A B : World} {u v : Value} (h : Grows A u B v) {k : Nat} (hk : k < A.heap.size) (hne : u.ownBlock ≠ some k) : v.ownBlock ≠ some k := by
  rcases h.own with e | ⟨j, e, hj⟩
  · rw [e]; exact hne
  · rw [e]; intro e'; cases e'; omega
theorem Grows.below {A B : World} {u v : Value} (h : Grows A u B v) {n : Nat} (hn : n ≤ A.heap.size) (hu : ∀ k, u.ownBlock = some k → n ≤ k) : Below n A B :=
  ⟨h.grown.os, h.grown.tape, h.grown.output, h.grown.size, fun k hk => h.grown.block k (by omega) (fun e => by have := hu k e.symm; omega)⟩
theorem Grows.size {A B : World} {u v : Value} (h : Grows A u B v) : A.heap.size ≤ B.heap.size := h.grown.size
theorem BoxN.grows {A B : World} {u v : Value} {b : Nat} {t : TypeId} {l : List Value} (h : BoxN A b t l) (g : Grows A u B v) (hne : u.ownBlock ≠ some b) : BoxN B b t l := (g.block h.lt hne).trans h

theorem cell_grows {A B : World} {u v : Value} (g : Grows A u B v) {a : Addr} {x : Value} (h : A.cell? a = some x) (hne : u.ownBlock ≠ some a.block) : B.cell? a = some x :=
  (World.cell?_of_block (g.block (World.block_lt_of_cell? A _ h) hne)).trans h

/-- A way that lies off a list. -/
def WayOff (W : World) (d : Nat) (path u : Value) : Prop := WayAt W d path ∧ ∀ b o n c, path = .slice (some ⟨b, o, none⟩) n c → 0 < d → u.ownBlock ≠ some b
theorem WayOff.grows {A B : World} {u v path : Value} {d : Nat} (h : WayOff A d path u) (g : Grows A u B v) : WayOff B d path v := by
  obtain ⟨h1, h2⟩ := h
  rcases h1 with h0 | ⟨b, o, cap, xs, hv, hc, hm, hx, hcell, h1⟩
  · refine ⟨.inl h0, fun b o n c e => ?_⟩
    rw [h0.2] at e
    cases e
  · by_cases hd : d = 0
    · subst hd
      refine ⟨.inr ⟨b, o, cap, xs, hv, hc, hm, hx, fun j u hj => ?_, h1⟩, fun b o n c e hd => absurd hd (by omega)⟩
      have := (List.getElem?_eq_some_iff.1 hj).1
      omega
    · have hb : b < A.heap.size := by
        have := World.block_lt_of_cell? A _ (hcell 0 (xs[0]'(by omega)) (by simp))
        simpa using this
      have hne := h2 b o d cap hv (by omega)
      refine ⟨.inr ⟨b, o, cap, xs, hv, hc, hm, hx, fun j u hj => cell_grows g (hcell j u hj) hne, h1⟩, fun b' o' n' c' e _ => ?_⟩
      rw [hv] at e
      cases e
      exact g.off hb hne

/-! ### The nodes as the reference holds them -/
def rcells {w0 : World} (x : Place w0) : List Value := [Value.slice x.q x.n.d x.qc] ++ x.cs ++ [x.av, Value.bool x.n.inD]
def OutAt {w0 : World} (W : World) (n0 : Nat) (xs : List (Place w0)) (v : Value) : Prop := W.ownsRow n0 88 10 v xs.length (xs.flatMap rcells)

theorem info88 : (Tryz.prog.info? 88).map (fun i => (i.zero.map (fun z => z.cells.size), i.size, i.bytes)) = some (some 10, 10, 136) := by kernel_rfl
theorem und84 : Tryz.prog.underlying 84 = some (.slice 88) := by kernel_rfl
theorem info150_parts : ∃ i z, Tryz.prog.info? 88 = some i ∧ i.zero = some z ∧ z.cells.size = 10 ∧ i.size = 10 ∧ i.bytes = 136 := by
  obtain ⟨i, hi, hzz⟩ := Option.map_eq_some_iff.1 info88
  simp only [Prod.mk.injEq] at hzz
  obtain ⟨h1, h2, h3⟩ := hzz
  obtain ⟨z, hz, hs⟩ := Option.map_eq_some_iff.1 h1
  exact ⟨i, z, hi, hz, hs, h2, h3⟩

/-- The reference's grow, at a way of p steps. -/
def RGrow (w0 : World) (n0 : Nat) (p : Nat) (nodes : List Fd → Bool → List Node) : Prop :=
  ∀ (L : List Fd) (inD : Bool) (v path outv : Value) (pre : List (Place w0)) (W : World),
    WayOff W p path outv → Below n0 w0 W → FdsAt w0 L v → OutAt W n0 pre outv → pre.length ≤ 257 →
    Calls Tryz.prog 34 #[v, path, .bool inD, outv] W fun e W' => ∃ (xs : List (Place w0)) (outv' : Value), e = .returned outv' ∧ xs.map Place.n = (pre.map Place.n ++ nodes L inD).take 257 ∧ OutAt W' n0 xs outv' ∧ Grows W outv W' outv'

theorem setRow_last (w : World) (C D : Array Value) (T : TypeId) : (w.alloc (.cells C T)).setRow w.heap.size D = w.alloc (.cells D T) := by
  unfold World.setRow World.alloc
  congr 1
  apply Array.ext
  · simp
  · intro i h1 h2
    simp only [Array.getElem_modify, Array.getElem_push]
    by_cases h : i < w.heap.size
    · simp [h, Nat.ne_of_gt h]
    · have : i = w.heap.size := by simp at h2; omega
      subst this; simp

/-- A way is copied onto the head of the last block. -/
theorem run_copy_way {w : World} {p : Nat} {q : Option Addr} {cap : Nat} (h : WayAt w p (.slice q p cap)) (C : Array Value) (hC : C.size = p + 1) :
    ∃ ys : List Value, ys.length = p ∧ (∀ u ∈ ys, u.oneCell' = true) ∧ (Builtin.copy_ #[30, 30] 3 #[.slice (some ⟨w.heap.size, 0, none⟩) (p + 1) (p + 1), .slice q p cap]).run Tryz.prog (w.alloc (.cells C 3)) = .ok (goInt p) (w.alloc (.cells (ys ++ C.toList.drop p).toArray 3)) := by
  have hs : (Tryz.prog.info? 3).map (·.size) = some 1 := by
    obtain ⟨i0, hi, hz0, hz1, hz2⟩ := info_parts info3
    rw [hi]; simp [hz1]
  rcases h with ⟨rfl, e⟩ | ⟨b, o, cap', xs, e, hc, hm, hx, hcell, h1⟩
  · cases e
    refine ⟨[], rfl, by simp, ?_⟩
    have := run_copy_none (P := Tryz.prog) (w.alloc (.cells C 3)) 30 30 3 3 (some ⟨w.heap.size, 0, none⟩) none (0 + 1) (0 + 1) 0 0 und30 hs (by simp)
    simpa using this
  · cases e
    refine ⟨xs, hx, h1, ?_⟩
    by_cases h0 : xs.length = 0
    · have hz : xs = [] := List.eq_nil_of_length_eq_zero h0
      subst hz
      have hp : p = 0 := by simpa using hx.symm
      subst hp
      have := run_copy_none (P := Tryz.prog) (w.alloc (.cells C 3)) 30 30 3 3 (some ⟨w.heap.size, 0, none⟩) (some ⟨b, o, none⟩) (0 + 1) (0 + 1) 0 cap und30 hs (by simp)
      simpa using this
    · have hc0 := hcell 0 (xs[0]'(by omega)) (by simp)
      have hb : b < w.heap.size := World.block_lt_of_cell? w _ hc0
      have h := run_copy_row (P := Tryz.prog) (w.alloc (.cells C 3)) 30 30 3 3 w.heap.size 0 (p + 1) (p + 1) ⟨b, o, none⟩ p cap C 3 xs und30 hs
        (by unfold World.alloc; simp only [Array.getElem?_push_size]) (by simp; omega) (fun j v hj => by
          rw [Addr.add_lit, World.cell?_alloc_lt _ _ _ hb]
          exact hcell j v hj) (by simp; omega) h1
      rw [h, setRow_last]
      simp [hx]

theorem take_le {α : Type} {l : List α} {n : Nat} (h : (l.take n).length < n) : l.take n = l := by
  rw [List.length_take] at h
  exact List.take_of_length_le (by omega)
theorem take_full {α : Type} {a b : List α} {n : Nat} (hp : a <+: b) (h : (a.take n).length = n) : b.take n = a.take n := by
  obtain ⟨r, rfl⟩ := hp
  rw [List.length_take] at h
  rw [List.take_append_of_le_length (by omega)]

theorem made_one (n : Nat) {i0 : TypeInfo} (hs : i0.size = 1) : ∀ u ∈ (madeCells (Value.int .i64 0).cells (n * i0.size)).toList, u.oneCell' = true := by
  intro u hu
  simp [madeCells, Value.cells] at hu
  obtain ⟨j, hj, rfl⟩ := hu
  rw [Nat.mod_one]
  rfl

set_option maxHeartbeats 1000000 in
theorem rgrow_step {w0 : World} {n0 : Nat} (hn0 : n0 = w0.heap.size) (p : Nat) (hp : p ≤ 64) (sub : Nat → List Fd → Bool → List Node) (hrec : p < 64 → RGrow w0 n0 (p + 1) (sub (p + 2))) (hz : p = 64 → ∀ d L b, sub d L b = []) :
    RGrow w0 n0 p (fun L inD => nodesFrom sub (p + 1) L inD 0 L) := by
  intro L inD v path outv pre W hway hb hL hO hpre
  obtain ⟨i1, z1, hi1, hz1, hzc1, hsz1, hby1⟩ := info150_parts
  obtain ⟨i0, hi0, hz0, hzs0, hzb0⟩ := info_parts info3
  have hL' := hL
  obtain ⟨b, cap, rfl, hlc, hcm, hC⟩ := hL
  obtain ⟨q, pc, rfl⟩ : ∃ q pc, path = .slice q p pc := by
    rcases hway.1 with ⟨rfl, rfl⟩ | ⟨b, o, c, xs, rfl, _⟩
    · exact ⟨none, 0, rfl⟩
    · exact ⟨_, _, rfl⟩
  obtain ⟨oq, oc, rfl, hov⟩ : ∃ q c, outv = .slice q pre.length c ∧ ∀ k, outv.ownBlock = some k → n0 ≤ k ∧ k < W.heap.size := by
    refine (fun h => ?_) hO.lt
    rcases hO.2 with ⟨e, e2⟩ | ⟨g, c, cur, e, _⟩
    · exact ⟨none, 0, by rw [e, e2], h⟩
    · exact ⟨_, c, e, h⟩
  unfold maxLen at hcm
  have HC := Lib.hid hC
  have HWY := Lib.hid hway
  have HB := Lib.hid hb
  have HO := Lib.hid hO
  have HR := Lib.hid hrec
  have HZ := Lib.hid hz
  have HOV := Lib.hid hov
  have HN := Lib.hid hn0
  clear hC hway hb hO hrec hz hov hL' hn0
  go_enter Tryz.func34, Tryz.ntmps34
  go_wp2_with fail
  go_loopw [3, 14] (fun o i wr => ∃ (k : Nat) (xs : List (Place w0)) (qo : Option Addr) (co : Nat), k ≤ L.length ∧ o = .slice qo xs.length co ∧ i = .int .i64 k ∧ xs.length ≤ 257 ∧ Hid (xs.map Place.n = (pre.map Place.n ++ uptoK sub (p + 1) L inD k).take 257) ∧ Hid (OutAt wr n0 xs (.slice qo xs.length co)) ∧ Hid (Grows W (.slice oq pre.length oc) wr (.slice qo xs.length co))) (fun _ i _ => L.length - (intOf i).toNat)
  case atStart =>
    refine ⟨0, pre, oq, oc, by omega, rfl, rfl, hpre, Lib.hid ?_, HO, Lib.hid (Grows.refl _ _)⟩
    show _ = (pre.map Place.n ++ []).take 257
    rw [List.append_nil, List.take_of_length_le (by simpa using hpre)]
  case round =>
    obtain ⟨k, xs, qo, co, hk, rfl, rfl, hxl, HX, HOX, HG⟩ := hrel
    have hbw : Below n0 w0 wr := HB.out.trans (HG.out.below (by have := HB.out.size; have := HN.out; omega) (fun k e => (HOV.out k e).1))
    have HBW := Lib.hid hbw
    have HWW := Lib.hid (HWY.out.grows HG.out)
    have hov := HOX.out.lt
    have HOV' := Lib.hid hov
    have hgs := HG.out.size
    have HUP := Lib.hid (uptoK_prefix sub (p + 1) L inD k)
    have HUA := Lib.hid (uptoK_all sub (p + 1) L inD)
    have hsz1 : n0 ≤ wr.heap.size := by have := hbw.size; have := HN.out; omega
    by_cases hlt : k < L.length
    · obtain ⟨b', o', fq, cap', rfl, e3, c0, c1, c2, c3, c4, c5, c6⟩ := HC.out.seven k hlt
      have E3 := Lib.hid e3
      rw [HN.out] at hbw
      replace c0 := cell_below hbw c0
      replace c1 := cell_below hbw c1
      replace c2 := cell_below hbw c2
      replace c3 := cell_below hbw c3
      replace c4 := cell_below hbw c4
      replace c5 := cell_below hbw c5
      replace c6 := cell_below hbw c6
      clear e3 hbw hov
      have HUS := Lib.hid (uptoK_succ sub (p + 1) L inD k hlt)
      generalize hf : L[k] = f at *
      have HF := Lib.hid hf
      clear hf
      by_cases hfull : 256 < xs.length
      · go_wp2_with fail
        go_ret
        refine ⟨xs, _, rfl, ?_, HOX.out.alloc _, HG.out.trans (Grows.of_below _ ((Below.refl _ wr).alloc (Nat.le_refl _) _))⟩
        have e : xs.map Place.n = (pre.map Place.n ++ uptoK sub (p + 1) L inD k).take 257 := HX.out
        rw [e]
        refine (take_full ?_ ?_).symm
        · obtain ⟨r, hr⟩ := HUP.out
          exact ⟨r, by rw [List.append_assoc, hr]⟩
        · rw [← e]; simp; omega
      · go_wp2_with fail
        have R := BoxN.new wr 59 [Value.string f.nm, Value.bool f.nl, Value.int IntKind.i64 f.k, Value.int IntKind.i64 f.wd, Value.int IntKind.i64 f.id, Value.int IntKind.i64 f.ix, Value.slice fq f.kids.length cap']
        obtain ⟨A, hA⟩ : ∃ A, A = wr.alloc (.cells #[Value.string f.nm, Value.bool f.nl, Value.int IntKind.i64 f.k, Value.int IntKind.i64 f.wd, Value.int IntKind.i64 f.id, Value.int IntKind.i64 f.ix, Value.slice fq f.kids.length cap'] 59) := ⟨_, rfl⟩
        have R : BoxN A wr.heap.size 59 [Value.string f.nm, Value.bool f.nl, Value.int IntKind.i64 f.k, Value.int IntKind.i64 f.wd, Value.int IntKind.i64 f.id, Value.int IntKind.i64 f.ix, Value.slice fq f.kids.length cap'] := by rw [hA]; exact R
        have hAs : A.heap.size = wr.heap.size + 1 := by rw [hA, World.size_alloc]
        have BA : Below wr.heap.size wr A := by rw [hA]; exact (Below.refl _ wr).alloc (Nat.le_refl _) _
        rw [← hA]
        clear hA
        have hmk := run_make (P := Tryz.prog) A 30 3 i0 _ und30 hi0 hz0 .i64 .i64 (p + 1) (p + 1) (by omega) (by omega) (by rw [hzb0]; omega) (by omega)
        obtain ⟨C, hC⟩ : ∃ C, C = madeCells (Value.int .i64 0).cells ((p + 1 : Int).toNat * i0.size) := ⟨_, rfl⟩
        rw [← hC] at hmk
        have hCs : C.size = p + 1 := by rw [hC, size_madeCells, hzs0]; omega
        rw [show ((p : Int) + 1).toNat = p + 1 from by omega] at hmk
        have HWA := Lib.hid (HWW.out.grows (Grows.of_below (.slice qo xs.length co) BA))
        obtain ⟨ys, hys, hy1, hcp⟩ := run_copy_way HWA.out.1 C hCs
        have hC1 : ∀ u ∈ C.toList, u.oneCell' = true := by
          rw [hC]
          intro u hu
          exact made_one (p + 1 : Int).toNat hzs0 u hu
        clear hC
        have HRB := Lib.hid R
        have HAS := Lib.hid hAs
        have HBA := Lib.hid BA
        clear R hAs BA c0 c1 c2 c3 c4 c5 c6
        rw [hmk]
        go_simp
        go_wp2_with fail
        obtain ⟨E, hE⟩ : ∃ E, E = ys ++ (List.drop p C.toList).set 0 (Value.int IntKind.i64 ↑k) := ⟨_, rfl⟩
        have hEl : E.length = p + 1 := by rw [hE]; simp; omega
        have hE1 : ∀ u ∈ E, u.oneCell' = true := by
          rw [hE]
          intro u hu
          rcases List.mem_append.1 hu with h | h
          · exact hy1 u h
          · rcases List.mem_or_eq_of_mem_set h with h | h
            · exact hC1 u (List.mem_of_mem_drop h)
            · rw [h]; rfl
        rw [← hE]
        clear hE hcp hmk hy1 hC1 hCs hys
        have bE := BoxN.new A 3 E
        have bF := HRB.out.alloc (.cells E.toArray 3)
        obtain ⟨Y, hY⟩ : ∃ Y, Y = A.alloc (.cells E.toArray 3) := ⟨_, rfl⟩
        have hYs : Y.heap.size = A.heap.size + 1 := by rw [hY, World.size_alloc]
        have hBY : Below A.heap.size A Y := by rw [hY]; exact (Below.refl _ A).alloc (Nat.le_refl _) _
        rw [← hY] at bE bF ⊢
        have hBYw : Below wr.heap.size wr Y := HBA.out.trans (hBY.mono (by have := HAS.out; omega))
        clear hY
        have HYS := Lib.hid hYs
        have HBY := Lib.hid hBYw
        have BE := Lib.hid bE
        have BF := Lib.hid bF
        have HE1 := Lib.hid hE1
        have HEL := Lib.hid hEl
        have OY := Lib.hid (HOX.out.kept (row := none) ⟨hBYw.os, hBYw.tape, hBYw.output, hBYw.size, fun k hk _ => hBYw.block k hk⟩ (by
          rcases HOX.out.2 with ⟨e, _⟩ | ⟨g, c, cur, e, _⟩
          · rw [e]; exact .inl rfl
          · rw [e]; exact .inr (by simp [Value.ownBlock])))
        have hkc : k ≤ cap := by omega
        have hs0 := bF.row
        have s0 : (Y.drew.cell? ⟨wr.heap.size, 0, none⟩ = some (.string f.nm)) ∧ (Y.drew.cell? ⟨wr.heap.size, 1, none⟩ = some (.bool f.nl)) ∧ (Y.drew.cell? ⟨wr.heap.size, 2, none⟩ = some (.int .i64 f.k)) ∧ (Y.drew.cell? ⟨wr.heap.size, 3, none⟩ = some (.int .i64 f.wd)) ∧ (Y.drew.cell? ⟨wr.heap.size, 4, none⟩ = some (.int .i64 f.id)) ∧ (Y.drew.cell? ⟨wr.heap.size, 5, none⟩ = some (.int .i64 f.ix)) ∧ (Y.drew.cell? ⟨wr.heap.size, 6, none⟩ = some (.slice fq f.kids.length cap')) := ⟨hs0 0 _ rfl, hs0 1 _ rfl, hs0 2 _ rfl, hs0 3 _ rfl, hs0 4 _ rfl, hs0 5 _ rfl, hs0 6 _ rfl⟩
        have HS0 := Lib.hid s0
        clear hYs hBY hBYw bE bF hE1 hEl hs0 s0
        refine Late.region (fun w' => (w'.cell? ⟨wr.heap.size, 0, none⟩ = some (.string f.nm)) ∧ (w'.cell? ⟨wr.heap.size, 1, none⟩ = some (.bool f.nl)) ∧ (w'.cell? ⟨wr.heap.size, 2, none⟩ = some (.int .i64 f.k)) ∧ (w'.cell? ⟨wr.heap.size, 3, none⟩ = some (.int .i64 f.wd)) ∧ (w'.cell? ⟨wr.heap.size, 4, none⟩ = some (.int .i64 f.id)) ∧ (w'.cell? ⟨wr.heap.size, 5, none⟩ = some (.int .i64 f.ix)) ∧ (w'.cell? ⟨wr.heap.size, 6, none⟩ = some (.slice fq f.kids.length cap'))) (fun j => j == 9 || j == 10) (by kernel_rfl) ?_
        refine Late.takeC (i := 0) (v := ?_) rfl (by kernel_rfl) (by kernel_rfl) (by kernel_rfl) (by kernel_rfl) (fun _ _ _ h => h) (Or.inl ⟨by rfl, ?_⟩) HS0.out ?_
        rotate_left
        · intro w' hS
          obtain ⟨s1, s2, s3, s4, s5, s6, s7⟩ := hS
          go_simp
          rfl
        refine Late.takeC (i := 1) (v := ?_) rfl (by kernel_rfl) (by kernel_rfl) (by kernel_rfl) (by kernel_rfl) (fun _ _ _ h => h) (Or.inl ⟨by rfl, ?_⟩) HS0.out ?_
        rotate_left
        · intro w' hS
          obtain ⟨s1, s2, s3, s4, s5, s6, s7⟩ := hS
          go_simp
          rfl
        refine Late.takeC (i := 2) (v := ?_) rfl (by kernel_rfl) (by kernel_rfl) (by kernel_rfl) (by kernel_rfl) (fun _ _ _ h => h) (Or.inl ⟨by rfl, ?_⟩) HS0.out ?_
        rotate_left
        · intro w' hS
          obtain ⟨s1, s2, s3, s4, s5, s6, s7⟩ := hS
          go_simp
          rfl
        refine Late.takeC (i := 3) (v := ?_) rfl (by kernel_rfl) (by kernel_rfl) (by kernel_rfl) (by kernel_rfl) (fun _ _ _ h => h) (Or.inl ⟨by rfl, ?_⟩) HS0.out ?_
        rotate_left
        · intro w' hS
          obtain ⟨s1, s2, s3, s4, s5, s6, s7⟩ := hS
          go_simp
          rfl
        refine Late.takeC (i := 4) (v := ?_) rfl (by kernel_rfl) (by kernel_rfl) (by kernel_rfl) (by kernel_rfl) (fun _ _ _ h => h) (Or.inl ⟨by rfl, ?_⟩) HS0.out ?_
        rotate_left
        · intro w' hS
          obtain ⟨s1, s2, s3, s4, s5, s6, s7⟩ := hS
          go_simp
          rfl
        refine Late.takeC (i := 5) (v := ?_) rfl (by kernel_rfl) (by kernel_rfl) (by kernel_rfl) (by kernel_rfl) (fun _ _ _ h => h) (Or.inl ⟨by rfl, ?_⟩) HS0.out ?_
        rotate_left
        · intro w' hS
          obtain ⟨s1, s2, s3, s4, s5, s6, s7⟩ := hS
          go_simp
          rfl
        refine Late.takeC (i := 6) (v := ?_) rfl (by kernel_rfl) (by kernel_rfl) (by kernel_rfl) (by kernel_rfl) (fun _ _ _ h => h) (Or.inl ⟨by rfl, ?_⟩) HS0.out ?_
        rotate_left
        · intro w' hS
          obtain ⟨s1, s2, s3, s4, s5, s6, s7⟩ := hS
          go_simp
          rfl
        refine Late.takeC (i := 7) (v := ?_) rfl (by kernel_rfl) (by kernel_rfl) (by kernel_rfl) (by kernel_rfl) (fun _ _ _ h => h) (Or.inl ⟨by rfl, ?_⟩) HS0.out ?_
        rotate_left
        · intro w' hS
          obtain ⟨s1, s2, s3, s4, s5, s6, s7⟩ := hS
          go_simp
          rfl
        refine Late.one (i := 8) (by kernel_rfl) rfl (fun K hK => ?_)
        go_simp
        obtain ⟨ND, hND⟩ : ∃ ND : List Value, ND = [Value.slice (some ⟨A.heap.size, 0, none⟩) (p + 1) (p + 1), Value.string f.nm, Value.bool f.nl, Value.int IntKind.i64 f.k, Value.int IntKind.i64 f.wd, Value.int IntKind.i64 f.id, Value.int IntKind.i64 f.ix, Value.slice fq f.kids.length cap', Value.slice (some ⟨b', o', none⟩) k cap, Value.bool inD] := ⟨_, rfl⟩
        have hNDl : ND.length = 10 := by rw [hND]; rfl
        have hND1 : ∀ u ∈ ND, u.oneCell' = true := by
          rw [hND]
          intro u hu
          simp only [List.mem_cons, List.not_mem_nil, or_false] at hu
          rcases hu with rfl | rfl | rfl | rfl | rfl | rfl | rfl | rfl | rfl | rfl <;> rfl
        have hZ := BoxN.new Y 88 ND
        obtain ⟨Z, hZe⟩ : ∃ Z, Z = Y.alloc (.cells ND.toArray 88) := ⟨_, rfl⟩
        have BFZ := BF.out.alloc (.cells ND.toArray 88)
        have BEZ := BE.out.alloc (.cells ND.toArray 88)
        have OZ := World.ownsRow.drew (World.ownsRow.alloc OY.out (.cells ND.toArray 88))
        have hBZ : Below wr.heap.size wr Z := by rw [hZe]; exact HBY.out.alloc HBY.out.size _
        have hZs : Z.heap.size = Y.heap.size + 1 := by rw [hZe, World.size_alloc]
        rw [← hZe] at hZ BFZ BEZ OZ
        rw [show (Y.alloc (Obj.cells #[Value.slice (some ⟨A.heap.size, 0, none⟩) (p + 1) (p + 1), Value.string f.nm, Value.bool f.nl, Value.int IntKind.i64 f.k, Value.int IntKind.i64 f.wd, Value.int IntKind.i64 f.id, Value.int IntKind.i64 f.ix, Value.slice fq f.kids.length cap', Value.slice (some ⟨b', o', none⟩) k cap, Value.bool inD] 88)) = Z from by rw [hZe, hND]]
        refine hK _ _ (fun _ => ⟨BFZ.row 0 _ rfl, BFZ.row 1 _ rfl, BFZ.row 2 _ rfl, BFZ.row 3 _ rfl, BFZ.row 4 _ rfl, BFZ.row 5 _ rfl, BFZ.row 6 _ rfl⟩) ?_
        clear hK K
        have hbz := hBZ.size
        refine Late.one (i := 9) (by kernel_rfl) rfl (fun K hK => ?_)
        refine step_append_lies _ (by rfl) _ _ _ (by rfl) n0 88 i1 z1 10 136 und84 hi1 hz1 (by assumption) hby1 hzc1 (by decide) (.slice qo xs.length co) xs.length (xs.flatMap rcells) (by rfl) OZ ⟨Y.heap.size, 0, none⟩ 1 1 ND (by rfl) (by rw [hNDl]) (World.news_of_block (w := Z.drew) (cs := ND.toArray) hZ) hND1 (by decide) (by unfold maxLen; omega) (by omega) (by show n0 ≤ Z.heap.size; omega) Z.heap.size rfl ?_
        intro gg cap1 w1 hown1 hgrow hat hlt1
        refine hK _ _ (fun h => by cases h) ?_
        clear hK K
        refine Late.one (i := 10) (by kernel_rfl) rfl (fun K hK => ?_)
        go_simp
        refine hK _ _ (fun h => by cases h) ?_
        clear hK K
        refine Late.done (by kernel_rfl) ?_ _
        obtain ⟨x, hx⟩ : ∃ x : Place w0, x = ⟨⟨p + 1, L.take k, f, inD⟩, some ⟨A.heap.size, 0, none⟩, p + 1, .slice (some ⟨b', o', none⟩) k cap, [Value.string f.nm, Value.bool f.nl, Value.int IntKind.i64 f.k, Value.int IntKind.i64 f.wd, Value.int IntKind.i64 f.id, Value.int IntKind.i64 f.ix, Value.slice fq f.kids.length cap'], by simp; omega,
          ⟨some ⟨b', o', none⟩, cap, by simp [Nat.min_eq_left (Nat.le_of_lt hlt)], by simp; omega, by unfold maxLen; omega, HC.out.take k⟩, E3.out, ⟨some ⟨A.heap.size, 0, none⟩, p + 1, rfl, Nat.le_refl _, by unfold maxLen; omega, fun h => by cases h⟩⟩ := ⟨_, rfl⟩
        have hxn : x.n = ⟨p + 1, L.take k, f, inD⟩ := by rw [hx]
        have hxr : rcells x = ND := by rw [hx, hND]; rfl
        have hG1 : Grows wr (.slice qo xs.length co) w1 (.slice (some ⟨gg, 0, none⟩) (xs.length + 1) cap1) :=
          (Grows.of_below (.slice qo xs.length co) (below_drew hBZ)).trans ⟨hgrow, by
            rcases hat with h | h
            · exact .inl h.symm
            · exact .inr ⟨gg, rfl, by rw [h]; exact Nat.le_refl _⟩⟩
        have hGZ : Grows Z (.slice qo xs.length co) w1 (.slice (some ⟨gg, 0, none⟩) (xs.length + 1) cap1) := ⟨⟨hgrow.os, hgrow.tape, hgrow.output, hgrow.size, hgrow.block⟩, by
            rcases hat with h | h
            · exact .inl h.symm
            · exact .inr ⟨gg, rfl, by rw [h]; exact Nat.le_refl _⟩⟩
        have hoff : ∀ j, wr.heap.size ≤ j → (Value.slice qo xs.length co).ownBlock ≠ some j := fun j hj e => by have := (HOV'.out j e).2; omega
        have bF1 := BFZ.grows hGZ (hoff _ (Nat.le_refl _))
        have hwayZ : WayOff Z (p + 1) (.slice (some ⟨A.heap.size, 0, none⟩) (p + 1) (p + 1)) (.slice qo xs.length co) :=
          ⟨.inr ⟨A.heap.size, 0, p + 1, E, rfl, Nat.le_refl _, by unfold maxLen; omega, HEL.out, fun j u hj => by rw [Nat.zero_add]; exact BEZ.row j u hj, HE1.out⟩, fun b o n c e _ => by
            cases e
            exact hoff _ (by have := HAS.out; omega)⟩
        have hway1 := hwayZ.grows hGZ
        have hout1 : OutAt w1 n0 (xs ++ [x]) (.slice (some ⟨gg, 0, none⟩) (xs.length + 1) cap1) := by
          unfold OutAt
          rw [List.length_append, List.flatMap_append]
          simpa [hxr] using hown1
        have hxs : xs.map Place.n = pre.map Place.n ++ uptoK sub (p + 1) L inD k := by
          have e : xs.map Place.n = (pre.map Place.n ++ uptoK sub (p + 1) L inD k).take 257 := HX.out
          rw [e]
          refine take_le ?_
          rw [← e]
          simp
          omega
        have hxx : (xs ++ [x]).map Place.n = pre.map Place.n ++ uptoK sub (p + 1) L inD k ++ [⟨p + 1, L.take k, f, inD⟩] := by
          rw [List.map_append, hxs]
          simp [hxn]
        have hbw1 : Below n0 w0 w1 := HBW.out.trans (hG1.below hsz1 (fun k e => (HOV'.out k e).1))
        have r2 := bF1.row 2 _ rfl
        have r6 := bF1.row 6 _ rfl
        have HG1 := Lib.hid hG1
        have HW1 := Lib.hid hway1
        have HO1 := Lib.hid hout1
        have HXX := Lib.hid hxx
        have HB1 := Lib.hid hbw1
        have HKD := Lib.hid (show FdsAt w0 f.kids (.slice fq f.kids.length cap') by obtain ⟨q', c', e, h', _⟩ := E3.out.shape; cases e; exact h')
        have HXL := Lib.hid (show (xs ++ [x]).length = xs.length + 1 by simp)
        clear hx hxn hxr hG1 hGZ hoff bF1 hwayZ hway1 hout1 hxs hxx hbw1 hown1 hgrow hat BFZ BEZ OZ hBZ hZ hbz hND hND1 hNDl hZe hZs
        by_cases hp64 : p < 64
        · have hin : (inD || decide (f.k = 19)) = (if inD then true else f.k == 19) := by cases inD <;> rfl
          have HIN := Lib.hid hin
          clear hin
          cases inD <;>
          (go_wp2_with fail
           refine (HR.out hp64 f.kids _ _ _ _ (xs ++ [x]) w1 HW1.out HB1.out HKD.out HO1.out (by rw [HXL.out]; omega)).mono ?_
           rintro e w2 ⟨xs2, out2, rfl, hx2, ho2, hg2⟩
           have hx2l : xs2.length ≤ 257 := by
             have := congrArg List.length hx2
             simp only [List.length_map, List.length_take] at this
             omega
           obtain ⟨q2, c2, rfl⟩ : ∃ q2 c2, out2 = .slice q2 xs2.length c2 := by
             rcases ho2.2 with ⟨e, e2⟩ | ⟨g, c, cur, e, _⟩
             · exact ⟨none, 0, by rw [e, e2]⟩
             · exact ⟨_, c, e⟩
           have HX2 := Lib.hid hx2
           have HO2 := Lib.hid ho2
           have HG2 := Lib.hid (HG.out.trans (HG1.out.trans hg2))
           clear hx2 ho2 hg2
           go_wp2_with fail
           go_roundw
           case rel =>
             refine ⟨k + 1, xs2, q2, c2, by omega, rfl, by go_num, hx2l, Lib.hid ?_, HO2, HG2⟩
             rw [HX2.out, HXX.out, HUS.out, HIN.out]
             simp
           case measure => simp [intOf]; omega)
        · have hs0 := HZ.out (by omega) (p + 1 + 1) f.kids (inD || decide (f.k = 19))
          have HS1 := Lib.hid hs0
          clear hs0
          go_wp2_with fail
          go_roundw
          case rel =>
            refine ⟨k + 1, xs ++ [x], some ⟨gg, 0, none⟩, cap1, by omega, by rw [HXL.out], by go_num, by rw [HXL.out]; omega, Lib.hid ?_, by rw [HXL.out]; exact HO1, by rw [HXL.out]; exact Lib.hid (HG.out.trans HG1.out)⟩
            rw [HUS.out, HS1.out]
            have h1 := HXX.out
            rw [List.append_assoc] at h1
            rw [← h1]
            exact (List.take_of_length_le (by rw [List.length_map, HXL.out]; omega)).symm
          case measure => simp [intOf]; omega
    · clear hbw hov
      go_wp2_with fail
      go_ret
      refine ⟨xs, _, rfl, ?_, HOX.out, HG.out⟩
      rw [HX.out, show k = L.length by omega, HUA.out]

theorem rgrow_in {w0 : World} {n0 : Nat} (hn0 : n0 = w0.heap.size) : ∀ (r p : Nat), p + r = 64 → RGrow w0 n0 p (nodesD r (p + 1))
  | 0, p, hp => rgrow_step hn0 p (by omega) (fun _ _ _ => []) (fun h => by omega) (fun _ _ _ _ => rfl)
  | r + 1, p, hp => rgrow_step hn0 p (by omega) (nodesD r) (fun _ => rgrow_in hn0 r (p + 1) (by omega)) (fun h => by omega)

end Go.Fld
