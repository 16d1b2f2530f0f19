import Derived.RangeFuncNested
import Derived.RangeFuncBound
import Derived.RangeFuncCalls
import Derived.RangeFuncLeaves
import Derived.RangeFuncKeeps
import Derived.Shelf.Abstract
import Derived.Shelf.RegionOpen
import Derived.OwnWalkIn
import Derived.TacticsInMore
import Derived.LoopNIn
import Derived.LoopIn
import Derived.Maps.OwnIn
import Derived.Test.YtkhpgcbjmopkfaaGreatDoorFy
set_option linter.unusedVariables false
set_option maxRecDepth 100000
/-!
  ALL FIELDS OF A LIST, those within too: the iterator. No conditions.
-/
namespace Go.Fld
open Go Go.RowKit Go.Proofs Go.ChangeShapes Go.WideShapes Go.ChangeAt Go.Shelf
attribute [local go_sem] Oper.semAt_some

/-! ### Where no depth is asked -/
theorem room_none {F : Fence} (hd : F.depth = none) (k : Nat) : F.room k := fun d h => by rw [hd] at h; cases h
theorem round_any {F : Fence} (hd : F.depth = none) {m m' : Nat} {P : Program} {l : Nat} {f : FuncId} {tmps : Array Value} {assign body : Code} {w : World} {R : Ending → World → Prop}
    (h : RoundIn F m P l f tmps assign body w R) : RoundIn F m' P l f tmps assign body w R := ⟨h.1, fun c cs _ => h.2 c cs (room_none hd _)⟩
theorem yield_any {F : Fence} (hd : F.depth = none) {m : Nat} (m' : Nat) {P : Program} {l : Nat} {args : Array Value} {W : World} {R : Ending → World → Prop} (h : YieldAt F m P l args W R) : YieldAt F m' P l args W R := by
  obtain ⟨fn, tmps, assign, body, hy, hR⟩ := h
  exact ⟨fn, tmps, assign, body, hy, round_any hd hR⟩

/-- A way, by its head alone. -/
def WayV (v : Value) (d : Nat) : Prop := ∃ p c, v = .slice p d c ∧ d ≤ c ∧ c ≤ maxLen ∧ (p = none → d = 0)
theorem WayAt.v {w : World} {d : Nat} {v : Value} (h : WayAt w d v) : WayV v d := by
  rcases h with ⟨rfl, rfl⟩ | ⟨b, o, cap, xs, rfl, hc, hm, _⟩
  · exact ⟨none, 0, rfl, Nat.le_refl _, by decide, fun _ => rfl⟩
  · exact ⟨_, cap, rfl, hc, hm, fun h => by cases h⟩

/-- A field on its way as it lies; w₀: where the fields lie. -/
structure Place (w0 : World) where
  n : Node
  q : Option Addr
  qc : Nat
  av : Value
  cs : List Value
  hd : n.d ≤ 65
  ha : FdsAt w0 n.ahead av
  hf : FdAt w0 n.f cs
  hq : WayV (.slice q n.d qc) n.d
def Place.v {w0 : World} (x : Place w0) : Value := placeV x.q x.qc x.av x.cs x.n

/-- What a round keeps: what lay below n₀, and all cells from n₁ on. -/
structure Kp (n0 n1 : Nat) (W W' : World) : Prop where
  below : Below n0 W W'
  cells : ∀ (k : Nat) (o : Obj), n1 ≤ k → W.heap[k]? = some o → o.isCells = true → W'.heap[k]? = some o

theorem Kp.refl (n0 n1 : Nat) (W : World) : Kp n0 n1 W W := ⟨Below.refl _ _, fun _ _ _ h _ => h⟩
theorem Kp.trans {n0 n1 : Nat} {A B C : World} (h : Kp n0 n1 A B) (k : Kp n0 n1 B C) : Kp n0 n1 A C := ⟨h.below.trans k.below, fun i o hi ho hc => k.cells i o hi (h.cells i o hi ho hc) hc⟩
theorem Kp.of_below {n0 n1 : Nat} {A B : World} (h0 : n0 ≤ A.heap.size) (h : Below A.heap.size A B) : Kp n0 n1 A B :=
  ⟨h.mono h0, fun k o _ ho _ => (h.block k (Array.getElem?_eq_some_iff.1 ho).1).trans ho⟩
theorem Kp.cell {n0 n1 : Nat} {A B : World} (h : Kp n0 n1 A B) {a : Addr} {v : Value} (ha : n1 ≤ a.block) (hv : A.cell? a = some v) : B.cell? a = some v := by
  obtain ⟨o, ho, hc⟩ := cells_of_cell hv
  exact (World.cell?_of_block (w := A) ((h.cells _ o ha ho hc).trans ho.symm)).trans hv
theorem Kp.size {n0 n1 : Nat} {A B : World} (h : Kp n0 n1 A B) : A.heap.size ≤ B.heap.size := h.below.size

/-! ### The nodes, one after another -/
theorem nodesFrom_append (sub : Nat → List Fd → Bool → List Node) (d : Nat) (l : List Fd) (inD : Bool) : ∀ (a b : List Fd) (i : Nat), nodesFrom sub d l inD i (a ++ b) = nodesFrom sub d l inD i a ++ nodesFrom sub d l inD (i + a.length) b
  | [], b, i => by simp [nodesFrom]
  | f :: r, b, i => by
    have := nodesFrom_append sub d l inD r b (i + 1)
    simp only [List.cons_append, nodesFrom, this, List.length_cons, List.append_assoc]
    rw [show i + 1 + r.length = i + (r.length + 1) by omega]

/-- The nodes of the first k fields of a list. -/
def uptoK (sub : Nat → List Fd → Bool → List Node) (d : Nat) (l : List Fd) (inD : Bool) (k : Nat) : List Node := nodesFrom sub d l inD 0 (l.take k)
theorem uptoK_succ (sub : Nat → List Fd → Bool → List Node) (d : Nat) (l : List Fd) (inD : Bool) (k : Nat) (hk : k < l.length) :
    uptoK sub d l inD (k + 1) = uptoK sub d l inD k ++ (⟨d, l.take k, l[k], inD⟩ :: sub (d + 1) l[k].kids (inD || decide (l[k].k = 19))) := by
  unfold uptoK
  rw [List.take_succ_eq_append_getElem hk, nodesFrom_append]
  simp [nodesFrom, Nat.min_eq_left (Nat.le_of_lt hk)]
theorem uptoK_all (sub : Nat → List Fd → Bool → List Node) (d : Nat) (l : List Fd) (inD : Bool) : uptoK sub d l inD l.length = nodesFrom sub d l inD 0 l := by
  unfold uptoK
  rw [List.take_length]
def subD : Nat → Nat → List Fd → Bool → List Node
  | 0 => fun _ _ _ => []
  | r + 1 => nodesD r
theorem nodesD_eq (r d : Nat) (l : List Fd) (inD : Bool) : nodesD r d l inD = nodesFrom (subD r) d l inD 0 l := by
  cases r <;> rfl
theorem uptoK_prefix (sub : Nat → List Fd → Bool → List Node) (d : Nat) (l : List Fd) (inD : Bool) (k : Nat) : uptoK sub d l inD k <+: nodesFrom sub d l inD 0 l := by
  refine ⟨nodesFrom sub d l inD (0 + (l.take k).length) (l.drop k), ?_⟩
  unfold uptoK
  rw [← nodesFrom_append, List.take_append_drop]


/-- The iterator's own variables. -/
structure Own3 (l yb mb db : Nat) (W : World) : Prop where
  y : W.cell? ⟨yb, 0, none⟩ = some (.func (.yield l) #[] #[])
  m : W.cell? ⟨mb, 0, none⟩ = some (.int .i64 65)
  d : W.cell? ⟨db, 0, none⟩ = some (.func (.func 43) #[] #[.pointer (some ⟨yb, 0, none⟩), .pointer (some ⟨mb, 0, none⟩), .pointer (some ⟨db, 0, none⟩)])
theorem Own3.kp {l yb mb db n0 n1 : Nat} {A B : World} (h : Own3 l yb mb db A) (hy : n1 ≤ yb) (hm : n1 ≤ mb) (hd : n1 ≤ db) (k : Kp n0 n1 A B) : Own3 l yb mb db B :=
  ⟨k.cell hy h.y, k.cell hm h.m, k.cell hd h.d⟩

theorem WayAt.of_row {w : World} {base : Nat} {v : Value} {d : Nat} {xs : List Value} (h : w.ownsRow base 3 1 v (d + 1) xs) (h1 : ∀ u ∈ xs, u.oneCell' = true) :
    ∃ g cap, v = .slice (some ⟨g, 0, none⟩) (d + 1) cap ∧ base ≤ g ∧ g < w.heap.size ∧ WayAt w (d + 1) v := by
  obtain ⟨e, h2⟩ := h
  rcases h2 with ⟨_, h2⟩ | ⟨g, cap, cur, hv, hg, hh, hc, hm, hs, ht⟩
  · omega
  · refine ⟨g, cap, hv, hg, (Array.getElem?_eq_some_iff.1 hh).1, .inr ⟨g, 0, cap, xs, hv, hc, hm, by omega, fun j u hj => ?_, h1⟩⟩
    have hj' : j < d + 1 := by
      have := (List.getElem?_eq_some_iff.1 hj).1
      omega
    rw [← ht, List.getElem?_take] at hj
    split at hj
    · unfold World.cell?
      rw [hh]
      simpa using hj
    · cases hj

/-- A way that lies among the iterator's own. -/
def WayIn (n1 : Nat) (w : World) (d : Nat) (v : Value) : Prop := WayAt w d v ∧ ∀ b o n c, v = .slice (some ⟨b, o, none⟩) n c → n1 ≤ b
theorem WayIn.kp {n0 n1 : Nat} {A B : World} {d : Nat} {v : Value} (h : WayIn n1 A d v) (k : Kp n0 n1 A B) : WayIn n1 B d v := by
  refine ⟨?_, h.2⟩
  rcases h.1 with h0 | ⟨b, o, cap, xs, hv, hc, hm, hx, hcell, h1⟩
  · exact .inl h0
  · exact .inr ⟨b, o, cap, xs, hv, hc, hm, hx, fun j u hj => k.cell (h.2 _ _ _ _ hv) (hcell j u hj), h1⟩

/-- What a walk over some fields comes to: all have come; or a round has said 'no more'. -/
def DownPost {w0 : World} (n0 n1 : Nat) (J Jx : List (Place w0) → World → Prop) (pre : List (Place w0)) (ns : List Node) (W : World) (e : Ending) (W' : World) : Prop :=
  (e = .returned (.bool true) ∧ (∃ xs, xs.map Place.n = ns ∧ J (pre ++ xs) W') ∧ Kp n0 n1 W W') ∨ (e = .returned (.bool false) ∧ ∃ xs, xs.map Place.n <+: ns ∧ Jx (pre ++ xs) W')

/-- The iterator's inner function, at a way of p steps. -/
def Down {w0 : World} (n0 n1 l yb mb db N : Nat) (J Jx : List (Place w0) → World → Prop) (p : Nat) (nodes : List Fd → Bool → List Node) : Prop :=
  ∀ (L : List Fd) (inD : Bool) (v path : Value) (pre : List (Place w0)) (W : World) (n : Nat),
      WayIn n1 W p path → n1 ≤ W.heap.size → Below n0 w0 W → FdsAt w0 L v → Own3 l yb mb db W → J pre W → pre.length + (nodes L inD).length ≤ N →
      CallsIn Fence.wide n Tryz.prog 43 #[path, v, .bool inD, .pointer (some ⟨yb, 0, none⟩), .pointer (some ⟨mb, 0, none⟩), .pointer (some ⟨db, 0, none⟩)] W (DownPost n0 n1 J Jx pre (nodes L inD) W)

section
variable {n0 n1 l yb mb db N : Nat} {w0 : World} {J Jx : List (Place w0) → World → Prop}

set_option maxHeartbeats 600000 in
theorem down_step (hn0 : n0 ≤ n1) (hw0 : w0.heap.size = n0) (hy : n1 ≤ yb) (hm : n1 ≤ mb) (hdb : n1 ≤ db)
    (hcl : ∀ (n : Nat) (w : World) (d : Nat) (v : Value), WayAt w d v → d ≤ 64 → CallsIn Fence.wide n Tryz.prog 44 #[v] w fun e w' => ∃ v' xs, e = .returned v' ∧ w'.ownsRow w.heap.size 3 1 v' d xs ∧ (∀ u ∈ xs, u.oneCell' = true) ∧ Below w.heap.size w w')
    (hJ : ∀ s A B, J s A → Below A.heap.size A B → J s B)
    (hY : ∀ m pre (x : Place w0) W, J pre W → pre.length < N → YieldAt Fence.wide m Tryz.prog l #[x.v] W fun e W' =>
      (e = .returned (.bool true) ∧ J (pre ++ [x]) W' ∧ Kp n0 n1 W W') ∨ (e = .returned (.bool false) ∧ Jx (pre ++ [x]) W'))
    (p : Nat) (hp : p ≤ 64) (sub : Nat → List Fd → Bool → List Node) (hrec : p < 64 → Down n0 n1 l yb mb db N J Jx (p + 1) (sub (p + 2))) (hz : p = 64 → ∀ d L b, sub d L b = []) :
    Down n0 n1 l yb mb db N J Jx p (fun L inD => nodesFrom sub (p + 1) L inD 0 L) := by
  intro L inD v path pre W n hway hW hb hL hO hj hN
  have hro : Fence.wide.round = none := rfl
  have h66 : Fence.wide.fn 44 := trivial
  have hmx : Tryz.prog.follows .mixedOrders = true := by kernel_rfl
  obtain ⟨b, cap, rfl, hlc, hcm, hC⟩ := hL
  have hdd : ∀ k : Nat, (Fence.wide.depth.isSome = true → 1 ≤ k) := fun k h => by simp [Fence.wide] at h
  obtain ⟨i0, hi, hz0, hz1, hz2⟩ := info_parts info3
  unfold maxLen at hcm
  have HC := Lib.hid hC
  have HW := Lib.hid hway
  have HO := Lib.hid hO
  have HJ := Lib.hid hj
  have HN := Lib.hid hN
  have HB := Lib.hid hb
  have HR := Lib.hid hrec
  have HZ := Lib.hid hz
  have HY := Lib.hid hY
  have HCL := Lib.hid hcl
  have HJB := Lib.hid hJ
  clear hC hway hO hj hN hb hrec hz hY hcl hJ
  refine callsIn_of_wp Tryz.func43 rfl (trivial : Fence.wide.fn 43) ?_ hro
  simp only [Tryz.ntmps43, List.size_toArray, List.length_cons, List.length_nil, Nat.reduceAdd, Nat.reduceSub, Array.replicate_succ, Array.replicate_zero, List.push_toArray, List.append_toArray, List.nil_append, List.cons_append]
  gi_wp2
  gi_loopw [15] (fun i wr => ∃ (k : Nat) (xs : List (Place w0)), k ≤ L.length ∧ i = .int .i64 k ∧ Hid (xs.map Place.n = uptoK sub (p + 1) L inD k) ∧ Hid (J (pre ++ xs) wr) ∧ Hid (Kp n0 n1 W wr)) (fun i _ => L.length - (intOf i).toNat)
  case atStart =>
    exact ⟨0, [], by omega, rfl, Lib.hid rfl, Lib.hid (by simpa using HJ.out), Lib.hid (Kp.refl _ _ _)⟩
  case round =>
    obtain ⟨k, xs, hk, rfl, HX, HJX, HK⟩ := hrel
    by_cases hlt : k < L.length
    · obtain ⟨b', o', q, cap', rfl, e3, c0, c1, c2, c3, c4, c5, c6⟩ := HC.out.seven k hlt
      have E3 := Lib.hid e3
      have hbw : Below w0.heap.size w0 wr := by have := HB.out.trans HK.out.below; rw [← hw0] at this; exact this
      replace c0 := cell_below hbw c0
      replace c1 := cell_below hbw c1
      replace c2 := cell_below hbw c2
      replace c3 := cell_below hbw c3
      replace c4 := cell_below hbw c4
      replace c5 := cell_below hbw c5
      replace c6 := cell_below hbw c6
      clear e3 hbw
      have HUS := Lib.hid (uptoK_succ sub (p + 1) L inD k hlt)
      generalize hf : L[k] = f at *
      have HF := Lib.hid hf
      clear hf
      gi_wp2
      have KA : Kp n0 n1 wr (wr.alloc (.cells #[Value.string f.nm, Value.bool f.nl, Value.int IntKind.i64 f.k, Value.int IntKind.i64 f.wd, Value.int IntKind.i64 f.id, Value.int IntKind.i64 f.ix, Value.slice q f.kids.length cap'] 59)) := Kp.of_below (by have := HK.out.size; omega) ((Below.refl _ wr).alloc (Nat.le_refl _) _)
      have R := RowAt.new wr [Value.string f.nm, Value.bool f.nl, Value.int IntKind.i64 f.k, Value.int IntKind.i64 f.wd, Value.int IntKind.i64 f.id, Value.int IntKind.i64 f.ix, Value.slice q f.kids.length cap'] 59
      obtain ⟨A, hA⟩ : ∃ A, A = wr.alloc (.cells #[Value.string f.nm, Value.bool f.nl, Value.int IntKind.i64 f.k, Value.int IntKind.i64 f.wd, Value.int IntKind.i64 f.id, Value.int IntKind.i64 f.ix, Value.slice q f.kids.length cap'] 59) := ⟨_, rfl⟩
      have KA' : Kp n0 n1 wr A := by rw [hA]; exact KA
      have R : RowAt A wr.heap.size [Value.string f.nm, Value.bool f.nl, Value.int IntKind.i64 f.k, Value.int IntKind.i64 f.wd, Value.int IntKind.i64 f.id, Value.int IntKind.i64 f.ix, Value.slice q f.kids.length cap'] := by rw [hA]; exact R
      have hAs : A.heap.size = wr.heap.size + 1 := by rw [hA, World.size_alloc]
      rw [← hA]
      have BA : Below wr.heap.size wr A := by rw [hA]; exact (Below.refl _ wr).alloc (Nat.le_refl _) _
      clear KA hA
      refine ⟨hdd _, ?_⟩
      refine (HCL.out (n - 1) A p path ((HW.out.kp (HK.out.trans KA')).1) hp).mono ?_
      rintro e W1 ⟨v1, ys, rfl, hown, hone, hb1⟩
      have HOW := Lib.hid hown
      have HON := Lib.hid hone
      have HB1 := Lib.hid hb1
      have hs1 := hb1.size
      have HR0 := Lib.hid R
      have HKA := Lib.hid KA'
      have HBA := Lib.hid BA
      clear hown hone hb1 R KA' BA
      gi_wp2_with (gi_at_builtin; refine wpListIn_append_own _ rfl _ _ 30 rfl A.heap.size 3 i0 (.int .i64 0) 1 8 und30 hi hz0 hz1 hz2 rfl (by decide) v1 p ys rfl (HOW.out.alloc _) ⟨W1.heap.size, 0, none⟩ 1 1 [.int .i64 k] rfl rfl (cell_one_new _ _ _) (by simp [Value.oneCell']) (by unfold maxLen; omega) (by omega) (by simp; omega) ?_; intro way w2 hown2 hgrow2 hnil2; have HO2 := Lib.hid hown2; have HG2 := Lib.hid hgrow2; clear hown2 hgrow2 hnil2)
      have bel2 : Below A.heap.size A w2 := (HB1.out.alloc hs1 _).grown HG2.out (by simp; omega) (fun k e => (HOW.out.lt k e).1)
      obtain ⟨g, gcap, rfl, hg, hgl, hway2⟩ := WayAt.of_row HO2.out (by
        intro u hu
        rcases List.mem_append.1 hu with h | h
        · exact HON.out u h
        · simp at h; subst h; rfl)
      have HWY := Lib.hid hway2
      have BW : Below wr.heap.size wr w2.drew := below_drew (HBA.out.trans (bel2.mono (by omega)))
      have K2 : Kp n0 n1 wr w2.drew := Kp.of_below (by have := HK.out.size; omega) BW
      have R2 : RowAt w2.drew wr.heap.size _ := HR0.out.below (below_drew bel2)
      have O2 := HO.out.kp hy hm hdb (HK.out.trans K2)
      have J2 := HJB.out _ wr w2.drew HJX.out BW
      have hlen : (pre ++ xs).length < N := by
        have h1 := congrArg List.length HX.out
        have h2 := congrArg List.length HUS.out
        have h3 := (uptoK_prefix sub (p + 1) L inD (k + 1)).length_le
        have h4 := HN.out
        simp at h1 h2 h4 ⊢
        omega
      obtain ⟨x, hx⟩ : ∃ x : Place w0, x = ⟨⟨p + 1, L.take k, f, inD⟩, some ⟨g, 0, none⟩, gcap, .slice (some ⟨b', o', none⟩) k cap, [Value.string f.nm, Value.bool f.nl, Value.int IntKind.i64 f.k, Value.int IntKind.i64 f.wd, Value.int IntKind.i64 f.id, Value.int IntKind.i64 f.ix, Value.slice q f.kids.length cap'], by simp; omega,
        ⟨some ⟨b', o', none⟩, cap, by simp [Nat.min_eq_left (Nat.le_of_lt hlt)], by simp; omega, by unfold maxLen; omega, HC.out.take k⟩, E3.out, HWY.out.v⟩ := ⟨_, rfl⟩
      have hxv : x.v = .agg #[.slice (some ⟨g, 0, none⟩) (p + 1) gcap, .slice (some ⟨b', o', none⟩) k cap, Value.string f.nm, Value.bool f.nl, Value.int IntKind.i64 f.k, Value.int IntKind.i64 f.wd, Value.int IntKind.i64 f.id, Value.int IntKind.i64 f.ix, Value.slice q f.kids.length cap', .bool inD] := by
        rw [hx]; rfl
      have hxn : x.n = ⟨p + 1, L.take k, f, inD⟩ := by rw [hx]
      have hyy := (HY.out (n - 1) (pre ++ xs) x w2.drew J2 hlen).mono (R' := fun e W' => ∃ t : Bool, e = .returned (.bool t) ∧ ((e = .returned (.bool true) ∧ J (pre ++ xs ++ [x]) W' ∧ Kp n0 n1 w2.drew W') ∨ (e = .returned (.bool false) ∧ Jx (pre ++ xs ++ [x]) W'))) (fun e W' h => h.elim (fun h => ⟨true, h.1, .inl h⟩) (fun h => ⟨false, h.1, .inr h⟩))
      rw [hxv] at hyy
      have HYY := Lib.hid hyy
      have HXN := Lib.hid hxn
      clear hx hxv hxn hyy
      have y1 := O2.y
      have HJ2 := Lib.hid J2
      have f0 := R2 0 _ rfl
      have f1 := R2 1 _ rfl
      have f2 := R2 2 _ rfl
      have f3 := R2 3 _ rfl
      have f4 := R2 4 _ rfl
      have f5 := R2 5 _ rfl
      have f6 := R2 6 _ rfl
      have HR2 := Lib.hid R2
      have HO3 := Lib.hid O2
      have HK2 := Lib.hid K2
      have HHG := Lib.hid hg
      clear J2 R2 O2 K2 BW bel2 hway2 hg hlen c0 c1 c2 c3 c4 c5 c6
      refine wpIn_thenFalse (yield_region (w := w2) hmx (Nat.le_of_lt hlt) hlc (by omega) y1 f0 f1 f2 f3 f4 f5 f6 HYY.out ?_)
      intro t W3 hT
      have hT' : (t = true ∧ J (pre ++ xs ++ [x]) W3 ∧ Kp n0 n1 w2.drew W3) ∨ (t = false ∧ Jx (pre ++ xs ++ [x]) W3) := by simpa using hT
      have HUP := Lib.hid (uptoK_prefix sub (p + 1) L inD (k + 1))
      have hnode : (xs ++ [x]).map Place.n = uptoK sub (p + 1) L inD k ++ [⟨p + 1, L.take k, f, inD⟩] := by rw [List.map_append, HX.out]; simp [HXN.out]
      have HND := Lib.hid hnode
      clear hT f0 f1 f2 f3 f4 f5 f6 y1 HYY HJ2 hnode
      rcases hT' with ⟨rfl, hJ3, hK3⟩ | ⟨rfl, hJx⟩
      rotate_left
      · have HJX3 := Lib.hid hJx
        clear hJx
        gi_wp2
        go_ret
        refine .inr ⟨rfl, xs ++ [x], ?_, by rw [← List.append_assoc]; exact HJX3.out⟩
        rw [HND.out]
        refine List.IsPrefix.trans ?_ HUP.out
        rw [HUS.out]
        exact ⟨sub (p + 1 + 1) f.kids (inD || decide (f.k = 19)), by simp⟩
      · have HJ3 := Lib.hid hJ3
        have KT := Lib.hid (HK2.out.trans hK3)
        have O3 := HO3.out.kp hy hm hdb hK3
        have m1 := O3.m
        have d1 := O3.d
        have HO4 := Lib.hid O3
        clear O3
        have R3 : RowAt W3 wr.heap.size [Value.string f.nm, Value.bool f.nl, Value.int IntKind.i64 f.k, Value.int IntKind.i64 f.wd, Value.int IntKind.i64 f.id, Value.int IntKind.i64 f.ix, Value.slice q f.kids.length cap'] := fun j u hj => hK3.cell (by have := HK.out.size; show n1 ≤ wr.heap.size; omega) (HR2.out j u hj)
        have f2 := R3 2 _ rfl
        have f6 := R3 6 _ rfl
        have hway3 : WayIn n1 w2 (p + 1) (Value.slice (some ⟨g, 0, none⟩) (p + 1) gcap) := ⟨HWY.out, fun b o n c e => by
          cases e
          have := HHG.out
          have := HK.out.size
          omega⟩
        have HW3 := Lib.hid ((hway3.kp (Kp.of_below (n0 := n0) (by have := HK.out.size; have := HOW.out.1; have := HKA.out.size; have := HK2.out.size; have : w2.drew.heap.size = w2.heap.size := rfl; omega) (below_drew (Below.refl _ w2)))).kp hK3)
        have HBL3 : Hid (Below n0 w0 W3) := Lib.hid (HB.out.trans (HK.out.trans KT.out).below)
        have HKD3 : Hid (FdsAt w0 f.kids (.slice q f.kids.length cap')) := Lib.hid (by obtain ⟨q', c', e, h', _⟩ := E3.out.shape; cases e; exact h')
        have hsz3 : n1 ≤ W3.heap.size := by have := (HK.out.trans KT.out).size; omega
        clear R3 hJ3 hK3 hway3
        by_cases hp64 : p < 64
        · have HN3 : Hid ((pre ++ (xs ++ [x])).length + (sub (p + 2) f.kids (inD || decide (f.k = 19))).length ≤ N) := Lib.hid (by
            have h2 := congrArg List.length HUS.out
            have h3 := HUP.out.length_le
            have h4 := HN.out
            have h5 := congrArg List.length HND.out
            simp only [List.length_map, List.length_append, List.length_cons, List.length_nil] at h2 h3 h4 h5 ⊢
            have e : p + 1 + 1 = p + 2 := rfl
            rw [e] at h2
            omega)
          have hin : (inD || decide (f.k = 19)) = (if inD then true else f.k == 19) := by cases inD <;> rfl
          have HIN := Lib.hid hin
          clear hin
          cases inD <;>
          (gi_wp2
           refine ⟨trivial, hdd _, ?_⟩
           refine (HR.out hp64 f.kids _ _ _ (pre ++ (xs ++ [x])) W3 (n - 1) HW3.out hsz3 HBL3.out HKD3.out HO4.out (by rw [← List.append_assoc]; exact HJ3.out) (by have h1 := HN3.out; rw [HIN.out] at h1; exact h1)).mono ?_
           rintro e W4 (⟨rfl, ⟨ys2, hys, hJ4⟩, hK4⟩ | ⟨rfl, ys2, hys, hJ4⟩)
           · have HJ4 := Lib.hid hJ4
             have HYS := Lib.hid hys
             have HK4 := Lib.hid (HK.out.trans (KT.out.trans hK4))
             clear hJ4 hys hK4
             gi_wp2
             go_roundw
             case rel =>
               refine ⟨k + 1, (xs ++ [x]) ++ ys2, by omega, by go_num, Lib.hid ?_, Lib.hid (by rw [← List.append_assoc]; exact HJ4.out), HK4⟩
               rw [List.map_append, HND.out, HUS.out, HIN.out, HYS.out]
               simp
             case measure => simp [intOf]; omega
           · have HJ4 := Lib.hid hJ4
             have HYS := Lib.hid hys
             clear hJ4 hys
             gi_wp2
             go_ret
             refine .inr ⟨rfl, (xs ++ [x]) ++ ys2, ?_, by rw [← List.append_assoc]; exact HJ4.out⟩
             rw [List.map_append, HND.out]
             refine List.IsPrefix.trans ?_ HUP.out
             rw [HUS.out, HIN.out]
             obtain ⟨zs, hzs⟩ := HYS.out
             exact ⟨zs, by simp [← hzs]⟩)
        · have hs0 := HZ.out (by omega) (p + 1 + 1) f.kids (inD || decide (f.k = 19))
          have HS0 := Lib.hid hs0
          clear hs0
          gi_wp2
          refine ⟨fun f h => (by cases h), ?_⟩
          gi_wp2
          go_roundw
          case rel =>
            refine ⟨k + 1, xs ++ [x], by omega, by go_num, Lib.hid ?_, Lib.hid (by rw [← List.append_assoc]; exact HJ3.out), Lib.hid (HK.out.trans KT.out)⟩
            rw [HND.out, HUS.out, HS0.out]
          case measure => simp [intOf]; omega
    · gi_wp2
      go_ret
      refine .inl ⟨rfl, ⟨xs, ?_, HJX.out⟩, HK.out⟩
      rw [HX.out, show k = L.length by omega, uptoK_all]
end

end Go.Fld
