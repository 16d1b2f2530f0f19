import Derived.Test.YtajaonnpekdklaaVrC
set_option linter.unusedVariables false
set_option maxRecDepth 100000
/-! THE ROOM OF VIEWREADS, part by part (printed by wip/tools/vrd.py). -/
namespace Go.Proofs.Ytajaonnpekdklaa.Mem
open Go.RowKit

theorem Step.store {L : Nat → Nat} {w : World} {kb c j : Nat} {C : Array Value} {T : TypeId} {v : Value} (hk : w.heap[kb]? = some (.cells C T (0, 0))) (hL : L kb = c) :
    Step (· = c) L w L (w.setCell ⟨kb, j, none⟩ v) ∧ (w.setCell ⟨kb, j, none⟩ v).heap[kb]? = some (.cells (C.setIfInBounds j v) T (0, 0)) := by
  refine ⟨⟨rfl, rfl, rfl, by simp [World.setCell], fun k hk' hc => ?_, fun k hk' => rfl⟩, heap_setCell_same hk v⟩
  exact Below.heap_setCell _ _ _ _ (fun e => hc (by rw [e]; exact hL))

/-- A list that an object (of another colour) holds: behind an append onto it and the store of what it gave. -/
theorem list_grown {T e : TypeId} {c co ob j size n m : Nat} {Cs : Array Value} {L : Nat → Nat} {w w1 w2 : World} {v v2 : Value} {xs ys : List Value}
    (hk : w.heap[ob]? = some (.cells Cs T (0, 0))) (hL : L ob = co) (hne : co ≠ c) (hown : Own L c w e size v n xs)
    (hb : Below w.heap.size w w1) (hown2 : w2.ownsRow 0 e size v2 m ys) (hg : w1.grownBy w2 v.ownBlock) (hblk : ∀ g, v2.ownBlock = some g → v.ownBlock = some g ∨ w.heap.size ≤ g) :
    ∃ L'', Step (fun d => d = c ∨ d = co) L w L'' (w2.setCell ⟨ob, j, none⟩ v2) ∧ (w2.setCell ⟨ob, j, none⟩ v2).heap[ob]? = some (.cells (Cs.setIfInBounds j v2) T (0, 0)) ∧
      Own L'' c (w2.setCell ⟨ob, j, none⟩ v2) e size v2 m ys := by
  have hs1 : w.heap.size ≤ w1.heap.size := hb.size
  have st2 : Step (· = c) L w (ext L w.heap.size c) w2 := by
    refine ⟨hg.os.trans hb.os, hg.tape.trans hb.tape, hg.output.trans hb.output, Nat.le_trans hs1 hg.size, fun k hk hc => ?_, fun k hk => ext_old hk⟩
    rw [hg.block k (by omega) (fun e => hc (hown.2 k e.symm)), hb.block k hk]
  have ow2 : Own (ext L w.heap.size c) c w2 e size v2 m ys := ⟨hown2, fun g hg2 => by
    rcases hblk g hg2 with h | h
    · have := hown.2 g h
      by_cases hlt : g < w.heap.size
      · rw [ext_old hlt]; exact this
      · exact ext_new (by omega)
    · exact ext_new h⟩
  have hk2 := st2.heap hk (by rw [hL]; exact hne)
  have hL2 : ext L w.heap.size c ob = co := by rw [ext_old (lt_of_heap hk)]; exact hL
  obtain ⟨st3, hk3⟩ := Step.store (j := j) (v := v2) hk2 hL2
  exact ⟨_, (st2.mono fun d hd => .inl hd).trans (st3.mono fun d hd => .inr hd), hk3, ow2.step st3 (fun e => hne e.symm)⟩

end Go.Proofs.Ytajaonnpekdklaa.Mem

namespace Go.Proofs.Ytajaonnpekdklaa.Vr
open Go.ChangeShapes Go.WideShapes Go.ChangeAt Go.RowKit Mem Vw

/-- A view of the room: where it begins among all, how many; its bytes, the document's; who watches. -/
structure En where
  a : Nat
  n : Nat
  v : Value
  r : Value
  who : Nat
  p : Option Nat

def enCell (e : En) : List Value := [e.v, .int .i64 (e.a : Int), wat e.p, e.r, .int .i64 (e.a : Int), .int .i64 (e.who : Int)]
def enCells (l : List En) : List Value := l.flatMap enCell
def ofCells (l : List En) : List Value := l.flatMap fun e => [e.r, .int .i64 (e.a : Int)]
def mark0 (i : Nat) : Value := .int .u8 ((((i + 1) % 256 : Nat) : Nat) : Int)
def mark1 (i : Nat) : Value := .int .u16 ((((i + 1) % 65536 : Nat) : Nat) : Int)
def mark2 (i : Nat) : Value := .int .u32 ((((i + 1) % 4294967296 : Nat) : Nat) : Int)
def mark3 (i : Nat) : Value := .int .u64 ((((i + 1) % 18446744073709551616 : Nat) : Nat) : Int)

structure Rm where
  all : List UInt8
  N : Nat
  av : Value
  lv : Value
  l : List En
  p1 : Option Nat
  p2 : Option Nat
  u1 : List (Int × Int)
  u2 : List (Int × Int)
  t1v : Value
  t2v : Value
  t1 : List (Int × Int)
  t2 : List (Int × Int)
  rv : Value
  ov : Value
  rl : List Value
  ol : List En
  k0 : Value
  k1 : Value
  k2 : Value
  k3 : Value
  n0 : List (Value × Nat)
  n1 : List (Value × Nat)
  n2 : List (Value × Nat)
  n3 : List (Value × Nat)

def Rm.cells (s : Rm) : Array Value := #[s.av, .int .i64 (s.N : Int), s.lv, .pointer none, wat s.p1, wat s.p2, .slice none 0 0, s.t1v, s.t2v, s.rv, s.ov, s.k0, s.k1, s.k2, s.k3]

/-- The room's colours. -/
def Rc (d : Nat) : Prop := 0 < d ∧ (d < 30 ∨ 100 ≤ d)

/-- THE ROOM: its object (block mb, colour 2), its parts. -/
structure Room (w0 : World) (mb : Nat) (L : Nat → Nat) (w : World) (s : Rm) : Prop where
  base : Step (fun d => d ≠ 0) (fun _ => 0) w0 L w
  obj : w.heap[mb]? = some (.cells s.cells 102 (0, 0))
  objc : L mb = 2
  bytes : Own L 1 w 5 1 s.av s.all.length (s.all.map byt)
  list : Own L 15 w 108 6 s.lv s.l.length (enCells s.l)
  watch1 : WOpt L 4 w s.p1 s.u1
  watch2 : WOpt L 5 w s.p2 s.u2
  told1 : Own L 7 w 62 2 s.t1v s.t1.length (rdCells s.t1)
  told2 : Own L 8 w 62 2 s.t2v s.t2.length (rdCells s.t2)
  raws : Own L 16 w 35 1 s.rv s.rl.length s.rl
  ofs : Own L 17 w 106 2 s.ov s.ol.length (ofCells s.ol)
  outer0 : Own L 20 w 35 1 s.k0 s.n0.length (s.n0.map (·.1))
  outer1 : Own L 21 w 117 1 s.k1 s.n1.length (s.n1.map (·.1))
  outer2 : Own L 22 w 119 1 s.k2 s.n2.length (s.n2.map (·.1))
  outer3 : Own L 23 w 121 1 s.k3 s.n3.length (s.n3.map (·.1))
  inner0 : ∀ (i : Nat) (h : i < s.n0.length), Own L (100 + 4 * i) w 5 1 s.n0[i].1 s.n0[i].2 (List.replicate s.n0[i].2 (mark0 i))
  inner1 : ∀ (i : Nat) (h : i < s.n1.length), Own L (101 + 4 * i) w 118 1 s.n1[i].1 s.n1[i].2 (List.replicate s.n1[i].2 (mark1 i))
  inner2 : ∀ (i : Nat) (h : i < s.n2.length), Own L (102 + 4 * i) w 120 1 s.n2[i].1 s.n2[i].2 (List.replicate s.n2[i].2 (mark2 i))
  inner3 : ∀ (i : Nat) (h : i < s.n3.length), Own L (103 + 4 * i) w 34 1 s.n3[i].1 s.n3[i].2 (List.replicate s.n3[i].2 (mark3 i))

section
variable {w0 : World} {mb : Nat} {L L' : Nat → Nat} {w w' : World} {s : Rm} {C : Nat → Prop}

theorem Room.move (h : Room w0 mb L w s) (st : Step C L w L' w') (hC : ∀ d, C d → 29 ≤ d ∧ d < 100) :
    Room w0 mb L' w' s := by
  have hn : ∀ d, (d < 29 ∨ 100 ≤ d) → ¬ C d := fun d hd hc => by have := hC d hc; omega
  exact ⟨h.base.trans (st.mono fun d hd => by have := hC d hd; show d ≠ 0; omega), st.heap h.obj (by rw [h.objc]; exact hn _ (by omega)), (st.col mb (lt_of_heap h.obj)).trans h.objc, h.bytes.step st (hn _ (by omega)), h.list.step st (hn _ (by omega)), h.watch1.step st (hn _ (by omega)), h.watch2.step st (hn _ (by omega)), h.told1.step st (hn _ (by omega)), h.told2.step st (hn _ (by omega)), h.raws.step st (hn _ (by omega)), h.ofs.step st (hn _ (by omega)), h.outer0.step st (hn _ (by omega)), h.outer1.step st (hn _ (by omega)), h.outer2.step st (hn _ (by omega)), h.outer3.step st (hn _ (by omega)), fun i hi => (h.inner0 i hi).step st (hn _ (by omega)), fun i hi => (h.inner1 i hi).step st (hn _ (by omega)), fun i hi => (h.inner2 i hi).step st (hn _ (by omega)), fun i hi => (h.inner3 i hi).step st (hn _ (by omega))⟩

theorem Room.drewN (h : Room w0 mb L w s) (n : Nat) : Room w0 mb L (w.drewN n) s :=
  h.move (C := fun _ => False) ((Step.refl _ _ _).drewN n) (fun _ x => x.elim)

theorem Room.below (h : Room w0 mb L w s) (hb : Below w.heap.size w w') : Room w0 mb (ext L w.heap.size 30) w' s :=
  h.move (C := fun _ => False) (Step.of_below hb _ 30) (fun _ x => x.elim)

theorem Room.put_u1 (h : Room w0 mb L w s) {l : List (Int × Int)} (st : Step C L w L' w') (hC : ∀ d, C d → d = 4) (hx : WOpt L' 4 w' s.p1 l) :
    Room w0 mb L' w' { s with u1 := l } := by
  have hn : ∀ d, d ≠ 4 → ¬ C d := fun d hd hc => by have := hC d hc; omega
  exact ⟨h.base.trans (st.mono fun d hd => by have := hC d hd; show d ≠ 0; omega), st.heap h.obj (by rw [h.objc]; exact hn _ (by omega)), (st.col mb (lt_of_heap h.obj)).trans h.objc, h.bytes.step st (hn _ (by omega)), h.list.step st (hn _ (by omega)), hx, h.watch2.step st (hn _ (by omega)), h.told1.step st (hn _ (by omega)), h.told2.step st (hn _ (by omega)), h.raws.step st (hn _ (by omega)), h.ofs.step st (hn _ (by omega)), h.outer0.step st (hn _ (by omega)), h.outer1.step st (hn _ (by omega)), h.outer2.step st (hn _ (by omega)), h.outer3.step st (hn _ (by omega)), fun i hi => (h.inner0 i hi).step st (hn _ (by omega)), fun i hi => (h.inner1 i hi).step st (hn _ (by omega)), fun i hi => (h.inner2 i hi).step st (hn _ (by omega)), fun i hi => (h.inner3 i hi).step st (hn _ (by omega))⟩

theorem Room.put_u2 (h : Room w0 mb L w s) {l : List (Int × Int)} (st : Step C L w L' w') (hC : ∀ d, C d → d = 5) (hx : WOpt L' 5 w' s.p2 l) :
    Room w0 mb L' w' { s with u2 := l } := by
  have hn : ∀ d, d ≠ 5 → ¬ C d := fun d hd hc => by have := hC d hc; omega
  exact ⟨h.base.trans (st.mono fun d hd => by have := hC d hd; show d ≠ 0; omega), st.heap h.obj (by rw [h.objc]; exact hn _ (by omega)), (st.col mb (lt_of_heap h.obj)).trans h.objc, h.bytes.step st (hn _ (by omega)), h.list.step st (hn _ (by omega)), h.watch1.step st (hn _ (by omega)), hx, h.told1.step st (hn _ (by omega)), h.told2.step st (hn _ (by omega)), h.raws.step st (hn _ (by omega)), h.ofs.step st (hn _ (by omega)), h.outer0.step st (hn _ (by omega)), h.outer1.step st (hn _ (by omega)), h.outer2.step st (hn _ (by omega)), h.outer3.step st (hn _ (by omega)), fun i hi => (h.inner0 i hi).step st (hn _ (by omega)), fun i hi => (h.inner1 i hi).step st (hn _ (by omega)), fun i hi => (h.inner2 i hi).step st (hn _ (by omega)), fun i hi => (h.inner3 i hi).step st (hn _ (by omega))⟩

theorem Room.put_bytes (h : Room w0 mb L w s) {l : List UInt8} (st : Step C L w L' w') (hC : ∀ d, C d → d = 1) (hx : Own L' 1 w' 5 1 s.av l.length (l.map byt)) :
    Room w0 mb L' w' { s with all := l } := by
  have hn : ∀ d, d ≠ 1 → ¬ C d := fun d hd hc => by have := hC d hc; omega
  exact ⟨h.base.trans (st.mono fun d hd => by have := hC d hd; show d ≠ 0; omega), st.heap h.obj (by rw [h.objc]; exact hn _ (by omega)), (st.col mb (lt_of_heap h.obj)).trans h.objc, hx, h.list.step st (hn _ (by omega)), h.watch1.step st (hn _ (by omega)), h.watch2.step st (hn _ (by omega)), h.told1.step st (hn _ (by omega)), h.told2.step st (hn _ (by omega)), h.raws.step st (hn _ (by omega)), h.ofs.step st (hn _ (by omega)), h.outer0.step st (hn _ (by omega)), h.outer1.step st (hn _ (by omega)), h.outer2.step st (hn _ (by omega)), h.outer3.step st (hn _ (by omega)), fun i hi => (h.inner0 i hi).step st (hn _ (by omega)), fun i hi => (h.inner1 i hi).step st (hn _ (by omega)), fun i hi => (h.inner2 i hi).step st (hn _ (by omega)), fun i hi => (h.inner3 i hi).step st (hn _ (by omega))⟩

theorem Room.put_lv (h : Room w0 mb L w s) {v : Value} {l : List En} (st : Step C L w L' w') (hC : ∀ d, C d → d = 15 ∨ d = 2) (ho : w'.heap[mb]? = some (.cells { s with lv := v, l := l }.cells 102 (0, 0))) (hx : Own L' 15 w' 108 6 v l.length (enCells l)) :
    Room w0 mb L' w' { s with lv := v, l := l } := by
  have hn : ∀ d, (d ≠ 15 ∧ d ≠ 2) → ¬ C d := fun d hd hc => by have := hC d hc; omega
  exact ⟨h.base.trans (st.mono fun d hd => by have := hC d hd; show d ≠ 0; omega), ho, (st.col mb (lt_of_heap h.obj)).trans h.objc, h.bytes.step st (hn _ (by omega)), hx, h.watch1.step st (hn _ (by omega)), h.watch2.step st (hn _ (by omega)), h.told1.step st (hn _ (by omega)), h.told2.step st (hn _ (by omega)), h.raws.step st (hn _ (by omega)), h.ofs.step st (hn _ (by omega)), h.outer0.step st (hn _ (by omega)), h.outer1.step st (hn _ (by omega)), h.outer2.step st (hn _ (by omega)), h.outer3.step st (hn _ (by omega)), fun i hi => (h.inner0 i hi).step st (hn _ (by omega)), fun i hi => (h.inner1 i hi).step st (hn _ (by omega)), fun i hi => (h.inner2 i hi).step st (hn _ (by omega)), fun i hi => (h.inner3 i hi).step st (hn _ (by omega))⟩

theorem Room.put_t1v (h : Room w0 mb L w s) {v : Value} {l : List (Int × Int)} (st : Step C L w L' w') (hC : ∀ d, C d → d = 7 ∨ d = 2) (ho : w'.heap[mb]? = some (.cells { s with t1v := v, t1 := l }.cells 102 (0, 0))) (hx : Own L' 7 w' 62 2 v l.length (rdCells l)) :
    Room w0 mb L' w' { s with t1v := v, t1 := l } := by
  have hn : ∀ d, (d ≠ 7 ∧ d ≠ 2) → ¬ C d := fun d hd hc => by have := hC d hc; omega
  exact ⟨h.base.trans (st.mono fun d hd => by have := hC d hd; show d ≠ 0; omega), ho, (st.col mb (lt_of_heap h.obj)).trans h.objc, h.bytes.step st (hn _ (by omega)), h.list.step st (hn _ (by omega)), h.watch1.step st (hn _ (by omega)), h.watch2.step st (hn _ (by omega)), hx, h.told2.step st (hn _ (by omega)), h.raws.step st (hn _ (by omega)), h.ofs.step st (hn _ (by omega)), h.outer0.step st (hn _ (by omega)), h.outer1.step st (hn _ (by omega)), h.outer2.step st (hn _ (by omega)), h.outer3.step st (hn _ (by omega)), fun i hi => (h.inner0 i hi).step st (hn _ (by omega)), fun i hi => (h.inner1 i hi).step st (hn _ (by omega)), fun i hi => (h.inner2 i hi).step st (hn _ (by omega)), fun i hi => (h.inner3 i hi).step st (hn _ (by omega))⟩

theorem Room.put_t2v (h : Room w0 mb L w s) {v : Value} {l : List (Int × Int)} (st : Step C L w L' w') (hC : ∀ d, C d → d = 8 ∨ d = 2) (ho : w'.heap[mb]? = some (.cells { s with t2v := v, t2 := l }.cells 102 (0, 0))) (hx : Own L' 8 w' 62 2 v l.length (rdCells l)) :
    Room w0 mb L' w' { s with t2v := v, t2 := l } := by
  have hn : ∀ d, (d ≠ 8 ∧ d ≠ 2) → ¬ C d := fun d hd hc => by have := hC d hc; omega
  exact ⟨h.base.trans (st.mono fun d hd => by have := hC d hd; show d ≠ 0; omega), ho, (st.col mb (lt_of_heap h.obj)).trans h.objc, h.bytes.step st (hn _ (by omega)), h.list.step st (hn _ (by omega)), h.watch1.step st (hn _ (by omega)), h.watch2.step st (hn _ (by omega)), h.told1.step st (hn _ (by omega)), hx, h.raws.step st (hn _ (by omega)), h.ofs.step st (hn _ (by omega)), h.outer0.step st (hn _ (by omega)), h.outer1.step st (hn _ (by omega)), h.outer2.step st (hn _ (by omega)), h.outer3.step st (hn _ (by omega)), fun i hi => (h.inner0 i hi).step st (hn _ (by omega)), fun i hi => (h.inner1 i hi).step st (hn _ (by omega)), fun i hi => (h.inner2 i hi).step st (hn _ (by omega)), fun i hi => (h.inner3 i hi).step st (hn _ (by omega))⟩

theorem Room.put_rv (h : Room w0 mb L w s) {v : Value} {l : List Value} (st : Step C L w L' w') (hC : ∀ d, C d → d = 16 ∨ d = 2) (ho : w'.heap[mb]? = some (.cells { s with rv := v, rl := l }.cells 102 (0, 0))) (hx : Own L' 16 w' 35 1 v l.length l) :
    Room w0 mb L' w' { s with rv := v, rl := l } := by
  have hn : ∀ d, (d ≠ 16 ∧ d ≠ 2) → ¬ C d := fun d hd hc => by have := hC d hc; omega
  exact ⟨h.base.trans (st.mono fun d hd => by have := hC d hd; show d ≠ 0; omega), ho, (st.col mb (lt_of_heap h.obj)).trans h.objc, h.bytes.step st (hn _ (by omega)), h.list.step st (hn _ (by omega)), h.watch1.step st (hn _ (by omega)), h.watch2.step st (hn _ (by omega)), h.told1.step st (hn _ (by omega)), h.told2.step st (hn _ (by omega)), hx, h.ofs.step st (hn _ (by omega)), h.outer0.step st (hn _ (by omega)), h.outer1.step st (hn _ (by omega)), h.outer2.step st (hn _ (by omega)), h.outer3.step st (hn _ (by omega)), fun i hi => (h.inner0 i hi).step st (hn _ (by omega)), fun i hi => (h.inner1 i hi).step st (hn _ (by omega)), fun i hi => (h.inner2 i hi).step st (hn _ (by omega)), fun i hi => (h.inner3 i hi).step st (hn _ (by omega))⟩

theorem Room.put_ov (h : Room w0 mb L w s) {v : Value} {l : List En} (st : Step C L w L' w') (hC : ∀ d, C d → d = 17 ∨ d = 2) (ho : w'.heap[mb]? = some (.cells { s with ov := v, ol := l }.cells 102 (0, 0))) (hx : Own L' 17 w' 106 2 v l.length (ofCells l)) :
    Room w0 mb L' w' { s with ov := v, ol := l } := by
  have hn : ∀ d, (d ≠ 17 ∧ d ≠ 2) → ¬ C d := fun d hd hc => by have := hC d hc; omega
  exact ⟨h.base.trans (st.mono fun d hd => by have := hC d hd; show d ≠ 0; omega), ho, (st.col mb (lt_of_heap h.obj)).trans h.objc, h.bytes.step st (hn _ (by omega)), h.list.step st (hn _ (by omega)), h.watch1.step st (hn _ (by omega)), h.watch2.step st (hn _ (by omega)), h.told1.step st (hn _ (by omega)), h.told2.step st (hn _ (by omega)), h.raws.step st (hn _ (by omega)), hx, h.outer0.step st (hn _ (by omega)), h.outer1.step st (hn _ (by omega)), h.outer2.step st (hn _ (by omega)), h.outer3.step st (hn _ (by omega)), fun i hi => (h.inner0 i hi).step st (hn _ (by omega)), fun i hi => (h.inner1 i hi).step st (hn _ (by omega)), fun i hi => (h.inner2 i hi).step st (hn _ (by omega)), fun i hi => (h.inner3 i hi).step st (hn _ (by omega))⟩

theorem Room.put_k0 (h : Room w0 mb L w s) {v x : Value} {m : Nat} (st : Step C L w L' w') (hC : ∀ d, C d → d = 20 ∨ d = 2 ∨ d = 100 + 4 * s.n0.length ∨ (29 ≤ d ∧ d < 100)) (ho : w'.heap[mb]? = some (.cells { s with k0 := v, n0 := s.n0 ++ [(x, m)] }.cells 102 (0, 0)))
    (hx : Own L' 20 w' 35 1 v (s.n0.length + 1) (s.n0.map (·.1) ++ [x])) (hi : Own L' (100 + 4 * s.n0.length) w' 5 1 x m (List.replicate m (mark0 s.n0.length))) :
    Room w0 mb L' w' { s with k0 := v, n0 := s.n0 ++ [(x, m)] } := by
  have hn : ∀ d, (d ≠ 20 ∧ d ≠ 2 ∧ d ≠ 100 + 4 * s.n0.length ∧ (d < 29 ∨ 100 ≤ d)) → ¬ C d := fun d hd hc => by have := hC d hc; omega
  exact ⟨h.base.trans (st.mono fun d hd => by have := hC d hd; show d ≠ 0; omega), ho, (st.col mb (lt_of_heap h.obj)).trans h.objc, h.bytes.step st (hn _ (by omega)), h.list.step st (hn _ (by omega)), h.watch1.step st (hn _ (by omega)), h.watch2.step st (hn _ (by omega)), h.told1.step st (hn _ (by omega)), h.told2.step st (hn _ (by omega)), h.raws.step st (hn _ (by omega)), h.ofs.step st (hn _ (by omega)), by simpa using hx, h.outer1.step st (hn _ (by omega)), h.outer2.step st (hn _ (by omega)), h.outer3.step st (hn _ (by omega)), fun i hj => by
    by_cases e : i < s.n0.length
    · simp only [List.getElem_append_left e]; exact (h.inner0 i e).step st (hn _ (by omega))
    · obtain rfl : i = s.n0.length := by simp at hj; omega
      simpa using hi, fun i hi => (h.inner1 i hi).step st (hn _ (by omega)), fun i hi => (h.inner2 i hi).step st (hn _ (by omega)), fun i hi => (h.inner3 i hi).step st (hn _ (by omega))⟩

theorem Room.grow_k0 (h : Room w0 mb L w s) {i : Nat} (hi : i < s.n0.length) {x : Value} {m : Nat} (st : Step C L w L' w') (hC : ∀ d, C d → d = 20 ∨ d = 100 + 4 * i)
    (hx : Own L' 20 w' 35 1 s.k0 s.n0.length ((s.n0.map (·.1)).set i x)) (hy : Own L' (100 + 4 * i) w' 5 1 x m (List.replicate m (mark0 i))) :
    Room w0 mb L' w' { s with n0 := s.n0.set i (x, m) } := by
  have hn : ∀ d, (d ≠ 20 ∧ d ≠ 100 + 4 * i) → ¬ C d := fun d hd hc => by have := hC d hc; omega
  exact ⟨h.base.trans (st.mono fun d hd => by have := hC d hd; show d ≠ 0; omega), st.heap h.obj (by rw [h.objc]; exact hn _ (by omega)), (st.col mb (lt_of_heap h.obj)).trans h.objc, h.bytes.step st (hn _ (by omega)), h.list.step st (hn _ (by omega)), h.watch1.step st (hn _ (by omega)), h.watch2.step st (hn _ (by omega)), h.told1.step st (hn _ (by omega)), h.told2.step st (hn _ (by omega)), h.raws.step st (hn _ (by omega)), h.ofs.step st (hn _ (by omega)), by rw [List.length_set, List.map_set]; exact hx, h.outer1.step st (hn _ (by omega)), h.outer2.step st (hn _ (by omega)), h.outer3.step st (hn _ (by omega)), fun j hj => by
    by_cases e : i = j
    · subst e; simpa using hy
    · have hj' : j < s.n0.length := by simpa using hj
      simp only [List.getElem_set_ne e]; exact (h.inner0 j hj').step st (hn _ (by omega)), fun i hi => (h.inner1 i hi).step st (hn _ (by omega)), fun i hi => (h.inner2 i hi).step st (hn _ (by omega)), fun i hi => (h.inner3 i hi).step st (hn _ (by omega))⟩

theorem Room.put_k1 (h : Room w0 mb L w s) {v x : Value} {m : Nat} (st : Step C L w L' w') (hC : ∀ d, C d → d = 21 ∨ d = 2 ∨ d = 101 + 4 * s.n1.length ∨ (29 ≤ d ∧ d < 100)) (ho : w'.heap[mb]? = some (.cells { s with k1 := v, n1 := s.n1 ++ [(x, m)] }.cells 102 (0, 0)))
    (hx : Own L' 21 w' 117 1 v (s.n1.length + 1) (s.n1.map (·.1) ++ [x])) (hi : Own L' (101 + 4 * s.n1.length) w' 118 1 x m (List.replicate m (mark1 s.n1.length))) :
    Room w0 mb L' w' { s with k1 := v, n1 := s.n1 ++ [(x, m)] } := by
  have hn : ∀ d, (d ≠ 21 ∧ d ≠ 2 ∧ d ≠ 101 + 4 * s.n1.length ∧ (d < 29 ∨ 100 ≤ d)) → ¬ C d := fun d hd hc => by have := hC d hc; omega
  exact ⟨h.base.trans (st.mono fun d hd => by have := hC d hd; show d ≠ 0; omega), ho, (st.col mb (lt_of_heap h.obj)).trans h.objc, h.bytes.step st (hn _ (by omega)), h.list.step st (hn _ (by omega)), h.watch1.step st (hn _ (by omega)), h.watch2.step st (hn _ (by omega)), h.told1.step st (hn _ (by omega)), h.told2.step st (hn _ (by omega)), h.raws.step st (hn _ (by omega)), h.ofs.step st (hn _ (by omega)), h.outer0.step st (hn _ (by omega)), by simpa using hx, h.outer2.step st (hn _ (by omega)), h.outer3.step st (hn _ (by omega)), fun i hi => (h.inner0 i hi).step st (hn _ (by omega)), fun i hj => by
    by_cases e : i < s.n1.length
    · simp only [List.getElem_append_left e]; exact (h.inner1 i e).step st (hn _ (by omega))
    · obtain rfl : i = s.n1.length := by simp at hj; omega
      simpa using hi, fun i hi => (h.inner2 i hi).step st (hn _ (by omega)), fun i hi => (h.inner3 i hi).step st (hn _ (by omega))⟩

theorem Room.grow_k1 (h : Room w0 mb L w s) {i : Nat} (hi : i < s.n1.length) {x : Value} {m : Nat} (st : Step C L w L' w') (hC : ∀ d, C d → d = 21 ∨ d = 101 + 4 * i)
    (hx : Own L' 21 w' 117 1 s.k1 s.n1.length ((s.n1.map (·.1)).set i x)) (hy : Own L' (101 + 4 * i) w' 118 1 x m (List.replicate m (mark1 i))) :
    Room w0 mb L' w' { s with n1 := s.n1.set i (x, m) } := by
  have hn : ∀ d, (d ≠ 21 ∧ d ≠ 101 + 4 * i) → ¬ C d := fun d hd hc => by have := hC d hc; omega
  exact ⟨h.base.trans (st.mono fun d hd => by have := hC d hd; show d ≠ 0; omega), st.heap h.obj (by rw [h.objc]; exact hn _ (by omega)), (st.col mb (lt_of_heap h.obj)).trans h.objc, h.bytes.step st (hn _ (by omega)), h.list.step st (hn _ (by omega)), h.watch1.step st (hn _ (by omega)), h.watch2.step st (hn _ (by omega)), h.told1.step st (hn _ (by omega)), h.told2.step st (hn _ (by omega)), h.raws.step st (hn _ (by omega)), h.ofs.step st (hn _ (by omega)), h.outer0.step st (hn _ (by omega)), by rw [List.length_set, List.map_set]; exact hx, h.outer2.step st (hn _ (by omega)), h.outer3.step st (hn _ (by omega)), fun i hi => (h.inner0 i hi).step st (hn _ (by omega)), fun j hj => by
    by_cases e : i = j
    · subst e; simpa using hy
    · have hj' : j < s.n1.length := by simpa using hj
      simp only [List.getElem_set_ne e]; exact (h.inner1 j hj').step st (hn _ (by omega)), fun i hi => (h.inner2 i hi).step st (hn _ (by omega)), fun i hi => (h.inner3 i hi).step st (hn _ (by omega))⟩

theorem Room.put_k2 (h : Room w0 mb L w s) {v x : Value} {m : Nat} (st : Step C L w L' w') (hC : ∀ d, C d → d = 22 ∨ d = 2 ∨ d = 102 + 4 * s.n2.length ∨ (29 ≤ d ∧ d < 100)) (ho : w'.heap[mb]? = some (.cells { s with k2 := v, n2 := s.n2 ++ [(x, m)] }.cells 102 (0, 0)))
    (hx : Own L' 22 w' 119 1 v (s.n2.length + 1) (s.n2.map (·.1) ++ [x])) (hi : Own L' (102 + 4 * s.n2.length) w' 120 1 x m (List.replicate m (mark2 s.n2.length))) :
    Room w0 mb L' w' { s with k2 := v, n2 := s.n2 ++ [(x, m)] } := by
  have hn : ∀ d, (d ≠ 22 ∧ d ≠ 2 ∧ d ≠ 102 + 4 * s.n2.length ∧ (d < 29 ∨ 100 ≤ d)) → ¬ C d := fun d hd hc => by have := hC d hc; omega
  exact ⟨h.base.trans (st.mono fun d hd => by have := hC d hd; show d ≠ 0; omega), ho, (st.col mb (lt_of_heap h.obj)).trans h.objc, h.bytes.step st (hn _ (by omega)), h.list.step st (hn _ (by omega)), h.watch1.step st (hn _ (by omega)), h.watch2.step st (hn _ (by omega)), h.told1.step st (hn _ (by omega)), h.told2.step st (hn _ (by omega)), h.raws.step st (hn _ (by omega)), h.ofs.step st (hn _ (by omega)), h.outer0.step st (hn _ (by omega)), h.outer1.step st (hn _ (by omega)), by simpa using hx, h.outer3.step st (hn _ (by omega)), fun i hi => (h.inner0 i hi).step st (hn _ (by omega)), fun i hi => (h.inner1 i hi).step st (hn _ (by omega)), fun i hj => by
    by_cases e : i < s.n2.length
    · simp only [List.getElem_append_left e]; exact (h.inner2 i e).step st (hn _ (by omega))
    · obtain rfl : i = s.n2.length := by simp at hj; omega
      simpa using hi, fun i hi => (h.inner3 i hi).step st (hn _ (by omega))⟩

theorem Room.grow_k2 (h : Room w0 mb L w s) {i : Nat} (hi : i < s.n2.length) {x : Value} {m : Nat} (st : Step C L w L' w') (hC : ∀ d, C d → d = 22 ∨ d = 102 + 4 * i)
    (hx : Own L' 22 w' 119 1 s.k2 s.n2.length ((s.n2.map (·.1)).set i x)) (hy : Own L' (102 + 4 * i) w' 120 1 x m (List.replicate m (mark2 i))) :
    Room w0 mb L' w' { s with n2 := s.n2.set i (x, m) } := by
  have hn : ∀ d, (d ≠ 22 ∧ d ≠ 102 + 4 * i) → ¬ C d := fun d hd hc => by have := hC d hc; omega
  exact ⟨h.base.trans (st.mono fun d hd => by have := hC d hd; show d ≠ 0; omega), st.heap h.obj (by rw [h.objc]; exact hn _ (by omega)), (st.col mb (lt_of_heap h.obj)).trans h.objc, h.bytes.step st (hn _ (by omega)), h.list.step st (hn _ (by omega)), h.watch1.step st (hn _ (by omega)), h.watch2.step st (hn _ (by omega)), h.told1.step st (hn _ (by omega)), h.told2.step st (hn _ (by omega)), h.raws.step st (hn _ (by omega)), h.ofs.step st (hn _ (by omega)), h.outer0.step st (hn _ (by omega)), h.outer1.step st (hn _ (by omega)), by rw [List.length_set, List.map_set]; exact hx, h.outer3.step st (hn _ (by omega)), fun i hi => (h.inner0 i hi).step st (hn _ (by omega)), fun i hi => (h.inner1 i hi).step st (hn _ (by omega)), fun j hj => by
    by_cases e : i = j
    · subst e; simpa using hy
    · have hj' : j < s.n2.length := by simpa using hj
      simp only [List.getElem_set_ne e]; exact (h.inner2 j hj').step st (hn _ (by omega)), fun i hi => (h.inner3 i hi).step st (hn _ (by omega))⟩

theorem Room.put_k3 (h : Room w0 mb L w s) {v x : Value} {m : Nat} (st : Step C L w L' w') (hC : ∀ d, C d → d = 23 ∨ d = 2 ∨ d = 103 + 4 * s.n3.length ∨ (29 ≤ d ∧ d < 100)) (ho : w'.heap[mb]? = some (.cells { s with k3 := v, n3 := s.n3 ++ [(x, m)] }.cells 102 (0, 0)))
    (hx : Own L' 23 w' 121 1 v (s.n3.length + 1) (s.n3.map (·.1) ++ [x])) (hi : Own L' (103 + 4 * s.n3.length) w' 34 1 x m (List.replicate m (mark3 s.n3.length))) :
    Room w0 mb L' w' { s with k3 := v, n3 := s.n3 ++ [(x, m)] } := by
  have hn : ∀ d, (d ≠ 23 ∧ d ≠ 2 ∧ d ≠ 103 + 4 * s.n3.length ∧ (d < 29 ∨ 100 ≤ d)) → ¬ C d := fun d hd hc => by have := hC d hc; omega
  exact ⟨h.base.trans (st.mono fun d hd => by have := hC d hd; show d ≠ 0; omega), ho, (st.col mb (lt_of_heap h.obj)).trans h.objc, h.bytes.step st (hn _ (by omega)), h.list.step st (hn _ (by omega)), h.watch1.step st (hn _ (by omega)), h.watch2.step st (hn _ (by omega)), h.told1.step st (hn _ (by omega)), h.told2.step st (hn _ (by omega)), h.raws.step st (hn _ (by omega)), h.ofs.step st (hn _ (by omega)), h.outer0.step st (hn _ (by omega)), h.outer1.step st (hn _ (by omega)), h.outer2.step st (hn _ (by omega)), by simpa using hx, fun i hi => (h.inner0 i hi).step st (hn _ (by omega)), fun i hi => (h.inner1 i hi).step st (hn _ (by omega)), fun i hi => (h.inner2 i hi).step st (hn _ (by omega)), fun i hj => by
    by_cases e : i < s.n3.length
    · simp only [List.getElem_append_left e]; exact (h.inner3 i e).step st (hn _ (by omega))
    · obtain rfl : i = s.n3.length := by simp at hj; omega
      simpa using hi⟩

theorem Room.grow_k3 (h : Room w0 mb L w s) {i : Nat} (hi : i < s.n3.length) {x : Value} {m : Nat} (st : Step C L w L' w') (hC : ∀ d, C d → d = 23 ∨ d = 103 + 4 * i)
    (hx : Own L' 23 w' 121 1 s.k3 s.n3.length ((s.n3.map (·.1)).set i x)) (hy : Own L' (103 + 4 * i) w' 34 1 x m (List.replicate m (mark3 i))) :
    Room w0 mb L' w' { s with n3 := s.n3.set i (x, m) } := by
  have hn : ∀ d, (d ≠ 23 ∧ d ≠ 103 + 4 * i) → ¬ C d := fun d hd hc => by have := hC d hc; omega
  exact ⟨h.base.trans (st.mono fun d hd => by have := hC d hd; show d ≠ 0; omega), st.heap h.obj (by rw [h.objc]; exact hn _ (by omega)), (st.col mb (lt_of_heap h.obj)).trans h.objc, h.bytes.step st (hn _ (by omega)), h.list.step st (hn _ (by omega)), h.watch1.step st (hn _ (by omega)), h.watch2.step st (hn _ (by omega)), h.told1.step st (hn _ (by omega)), h.told2.step st (hn _ (by omega)), h.raws.step st (hn _ (by omega)), h.ofs.step st (hn _ (by omega)), h.outer0.step st (hn _ (by omega)), h.outer1.step st (hn _ (by omega)), h.outer2.step st (hn _ (by omega)), by rw [List.length_set, List.map_set]; exact hx, fun i hi => (h.inner0 i hi).step st (hn _ (by omega)), fun i hi => (h.inner1 i hi).step st (hn _ (by omega)), fun i hi => (h.inner2 i hi).step st (hn _ (by omega)), fun j hj => by
    by_cases e : i = j
    · subst e; simpa using hy
    · have hj' : j < s.n3.length := by simpa using hj
      simp only [List.getElem_set_ne e]; exact (h.inner3 j hj').step st (hn _ (by omega))⟩

end
end Go.Proofs.Ytajaonnpekdklaa.Vr
