import Derived.Test.YtajaonnpekdklaaVrE
set_option linter.unusedVariables false
set_option maxRecDepth 100000
/-! WHAT THE ROOM OF VIEWREADS KEEPS; what a view of it reads. -/
namespace Go.Proofs.Ytajaonnpekdklaa.Mem
open Go.RowKit
/-- Cells of a block of colour d. -/
def Cells (L : Nat → Nat) (w : World) (b d : Nat) (vs : List Value) : Prop := b < w.heap.size ∧ L b = d ∧ ∀ j v, vs[j]? = some v → w.cell? ⟨b, j, none⟩ = some v
theorem Cells.step {L L' : Nat → Nat} {w w' : World} {C : Nat → Prop} {b d : Nat} {vs : List Value} (h : Cells L w b d vs) (st : Step C L w L' w') (hC : ¬ C d) : Cells L' w' b d vs := by
  obtain ⟨h1, h2, h3⟩ := h
  exact ⟨Nat.lt_of_lt_of_le h1 st.size, (st.col b h1).trans h2, fun j v hj => st.cell (h3 j v hj) (by show ¬ C (L b); rw [h2]; exact hC)⟩
theorem Cells.of {L : Nat → Nat} {w : World} {b d : Nat} {vs : List Value} {T : TypeId} {fr : Nat × Nat} (h : w.heap[b]? = some (.cells vs.toArray T fr)) (hL : L b = d) : Cells L w b d vs :=
  ⟨lt_of_heap h, hL, fun j v hj => by simp [World.cell?, h, hj]⟩
theorem Cells.new (L : Nat → Nat) (w : World) (d : Nat) (T : TypeId) (vs : List Value) : Step (fun _ => False) L w (ext L w.heap.size d) (w.alloc (.cells vs.toArray T)) ∧ Cells (ext L w.heap.size d) (w.alloc (.cells vs.toArray T)) w.heap.size d vs :=
  ⟨Step.of_below (below_alloc w _) _ d, Cells.of (heap_alloc_new w _) (ext_new (Nat.le_refl _))⟩
end Go.Proofs.Ytajaonnpekdklaa.Mem

namespace Go.Proofs.Ytajaonnpekdklaa.Vr
open Go.ChangeShapes Go.WideShapes Go.ChangeAt Go.RowKit Mem Vw

/-- n bytes of block gb from a on. -/
def At (gb a n : Nat) (v : Value) : Prop := ∃ p cap, v = .slice p n cap ∧ n ≤ cap ∧ cap ≤ 1000000000 ∧ (0 < n → p = some ⟨gb, a, none⟩)

def pOf (w1 w2 who : Nat) : Option Nat := if who = 1 then some w1 else if who = 2 then some w2 else none

structure Ent (gb N w1 w2 : Nat) (e : En) : Prop where
  fits : e.a + e.n ≤ N
  v : At gb e.a e.n e.v
  r : At gb e.a e.n e.r
  who : e.who < 3
  p : e.p = pOf w1 w2 e.who

structure Good (gb w1 w2 : Nat) (s : Rm) : Prop where
  len : s.all.length = s.N + 9
  marks : s.all.drop s.N = List.replicate 9 55
  av : s.av = .slice (some ⟨gb, 0, none⟩) (s.N + 9) (s.N + 9)
  small : s.N ≤ 1048576
  p1 : s.p1 = some w1
  p2 : s.p2 = some w2
  ents : ∀ e ∈ s.l, Ent gb s.N w1 w2 e
  pos : 0 < s.l.length
  most : s.l.length ≤ 40
  e1 : s.u1 = s.t1
  e2 : s.u2 = s.t2
  rlen : s.rl.length = s.ol.length
  raws : ∀ (i : Nat) (h : i < s.ol.length), s.ol[i].a + s.ol[i].n ≤ s.N ∧ At gb s.ol[i].a s.ol[i].n s.ol[i].r ∧ ∀ v, s.rl[i]? = some v → At gb s.ol[i].a s.ol[i].n v

structure Bound (s : Rm) (K : Nat) : Prop where
  t1 : s.t1.length ≤ K
  t2 : s.t2.length ≤ K
  rl : s.rl.length ≤ K
  n0 : s.n0.length ≤ K
  n1 : s.n1.length ≤ K
  n2 : s.n2.length ≤ K
  n3 : s.n3.length ≤ K
  m0 : ∀ x ∈ s.n0, x.2 ≤ 1048576
  m1 : ∀ x ∈ s.n1, x.2 ≤ 1048576
  m2 : ∀ x ∈ s.n2, x.2 ≤ 1048576
  m3 : ∀ x ∈ s.n3, x.2 ≤ 1048576

theorem Bound.mono {s : Rm} {K K' : Nat} (h : Bound s K) (hK : K ≤ K') : Bound s K' :=
  ⟨Nat.le_trans h.t1 hK, Nat.le_trans h.t2 hK, Nat.le_trans h.rl hK, Nat.le_trans h.n0 hK, Nat.le_trans h.n1 hK, Nat.le_trans h.n2 hK, Nat.le_trans h.n3 hK, h.m0, h.m1, h.m2, h.m3⟩

section
variable {w0 : World} {mb gb w1 w2 : Nat} {L L' : Nat → Nat} {w w' : World} {s : Rm}

theorem At.rd {all : List UInt8} {a n m : Nat} {v : Value} (hat : At gb a n v) (ho : Own L 1 w 5 1 (.slice (some ⟨gb, 0, none⟩) m m) m (all.map byt)) (hl : a + n ≤ m) :
    ∃ q cap, v = .slice q n cap ∧ n ≤ cap ∧ cap ≤ 1000000000 ∧ Rd L 1 w 1 v n ((got all a n).map byt) := by
  obtain ⟨p, cap, hv, hn, hc, hp⟩ := hat
  have hal : all.length = m := by simpa using ho.length
  refine ⟨p, cap, hv, hn, hc, ?_, p, cap, hv, hn, by unfold maxLen; omega, fun j u hj => ?_⟩
  · simp [got_len (bs := all) (show a + n ≤ all.length by omega)]
  · have hjn : j < n := by
      have := (List.getElem?_eq_some_iff.1 hj).1
      simpa [got_len (bs := all) (show a + n ≤ all.length by omega)] using this
    have hx : (all.map byt)[a + j]? = some u := by
      rw [← hj]; unfold got
      simp only [List.getElem?_map, List.getElem?_take, List.getElem?_drop, hjn, if_true]
    obtain ⟨p', cap', hv', _, _, hcells⟩ := ho.rd.2
    cases hv'
    obtain ⟨b, off, hp', hL, hcell⟩ := hcells (a + j) u hx
    cases hp'
    exact ⟨gb, a, hp (by omega), hL, by simpa using hcell⟩

theorem Room.own (h : Room w0 mb L w s) (g : Good gb w1 w2 s) : Own L 1 w 5 1 (.slice (some ⟨gb, 0, none⟩) (s.N + 9) (s.N + 9)) (s.N + 9) (s.all.map byt) := by
  have := h.bytes
  rwa [g.av, g.len] at this

theorem Room.view (h : Room w0 mb L w s) (g : Good gb w1 w2 s) {e : En} (he : Ent gb s.N w1 w2 e) :
    ∃ q cap, e.v = .slice q e.n cap ∧ e.n ≤ cap ∧ cap ≤ 1000000000 ∧ Rd L 1 w 1 e.v e.n ((got s.all e.a e.n).map byt) := he.v.rd (h.own g) (by have := he.fits; omega)
theorem Room.ref (h : Room w0 mb L w s) (g : Good gb w1 w2 s) {e : En} (he : Ent gb s.N w1 w2 e) :
    ∃ q cap, e.r = .slice q e.n cap ∧ e.n ≤ cap ∧ cap ≤ 1000000000 ∧ Rd L 1 w 1 e.r e.n ((got s.all e.a e.n).map byt) := he.r.rd (h.own g) (by have := he.fits; omega)

/-- The colour of what a watcher is told. -/
def wc (who : Nat) : Nat := if who = 1 then 4 else if who = 2 then 5 else 29
theorem wc_ne (who : Nat) : 1 ≠ wc who := by unfold wc; split <;> (try split) <;> decide

theorem Room.wopt (h : Room w0 mb L w s) (g : Good gb w1 w2 s) {e : En} (he : Ent gb s.N w1 w2 e) : WOpt L (wc e.who) w e.p (s.u e.who) := by
  rw [he.p]
  have hw := he.who
  have : e.who = 0 ∨ e.who = 1 ∨ e.who = 2 := by omega
  rcases this with hw | hw | hw <;> rw [hw]
  · intro wb hb; cases hb
  · have := h.watch1; rw [g.p1] at this; exact this
  · have := h.watch2; rw [g.p2] at this; exact this

theorem wc_rc {who d : Nat} (h : d = wc who) : Rc d := by
  subst h; unfold wc Rc; split <;> (try split) <;> decide
theorem Room.told (h : Room w0 mb L w s) (g : Good gb w1 w2 s) {e : En} (he : Ent gb s.N w1 w2 e) {l : List (Int × Int)} (hr : Vw.Read L (wc e.who) w e.p l w') :
    ∃ L', Step (· = wc e.who) L w L' w' ∧ Room w0 mb L' w' (s.setU e.who l) := by
  obtain ⟨L1, st, hW⟩ := hr
  rw [he.p] at hW
  have hw := he.who
  refine ⟨L1, st, ?_⟩
  have : e.who = 0 ∨ e.who = 1 ∨ e.who = 2 := by omega
  rcases this with hw | hw | hw <;> rw [hw] at st hW ⊢
  · exact h.move st (fun d hd => by rw [show d = 29 from hd]; omega)
  · exact h.put_u1 st (fun d hd => hd) (by rw [g.p1]; exact hW)
  · exact h.put_u2 st (fun d hd => hd) (by rw [g.p2]; exact hW)

theorem setU_good {who : Nat} {l : List (Int × Int)} {v : Value} (g : Good gb w1 w2 s) (hw : who < 3) : Good gb w1 w2 ((s.setU who l).setT who v l) := by
  have : who = 0 ∨ who = 1 ∨ who = 2 := by omega
  rcases this with rfl | rfl | rfl
  · exact g
  · exact ⟨g.len, g.marks, g.av, g.small, g.p1, g.p2, g.ents, g.pos, g.most, rfl, g.e2, g.rlen, g.raws⟩
  · exact ⟨g.len, g.marks, g.av, g.small, g.p1, g.p2, g.ents, g.pos, g.most, g.e1, rfl, g.rlen, g.raws⟩
theorem setU_bound {who : Nat} {l : List (Int × Int)} {v : Value} {K : Nat} (b : Bound s K) (hl : l.length ≤ K) : Bound ((s.setU who l).setT who v l) K := by
  unfold Rm.setT Rm.setU
  split
  · exact ⟨hl, b.t2, b.rl, b.n0, b.n1, b.n2, b.n3, b.m0, b.m1, b.m2, b.m3⟩
  · split
    · exact ⟨b.t1, hl, b.rl, b.n0, b.n1, b.n2, b.n3, b.m0, b.m1, b.m2, b.m3⟩
    · exact b
theorem setU_same {who : Nat} : s.setU who (s.u who) = s := by
  unfold Rm.setU Rm.u; split <;> (try split) <;> simp_all
theorem setU_t {who : Nat} {l : List (Int × Int)} : (s.setU who l).t who = s.t who := by
  unfold Rm.setU Rm.t; split <;> (try split) <;> simp_all
theorem Good.even (g : Good gb w1 w2 s) (who : Nat) : s.u who = s.t who := by
  unfold Rm.u Rm.t; split
  · exact g.e1
  · split
    · exact g.e2
    · rfl
theorem tell_len (l : List (Int × Int)) (p : Int) (a m : Nat) : (tell l p a m).length ≤ l.length + 1 := by unfold tell; split <;> simp
theorem Bound.t {K : Nat} (b : Bound s K) (who : Nat) : (s.t who).length ≤ K := by
  unfold Rm.t; split
  · exact b.t1
  · split
    · exact b.t2
    · simp

theorem Room.box (h : Room w0 mb L w s) (vs : List Value) (T : TypeId) : ∃ LB, Room w0 mb LB (w.alloc (.cells vs.toArray T)) s ∧ Step (fun _ => False) L w LB (w.alloc (.cells vs.toArray T)) ∧ Cells LB (w.alloc (.cells vs.toArray T)) w.heap.size 30 vs := by
  obtain ⟨st, c⟩ := Cells.new L w 30 T vs
  exact ⟨_, h.move st (fun _ x => x.elim), st, c⟩
theorem Room.box2 (h : Room w0 mb L w s) (vs us : List Value) (T U : TypeId) : ∃ LB, Room w0 mb LB ((w.alloc (.cells vs.toArray T)).alloc (.cells us.toArray U)) s ∧ Step (fun _ => False) L w LB ((w.alloc (.cells vs.toArray T)).alloc (.cells us.toArray U)) ∧
    Cells LB ((w.alloc (.cells vs.toArray T)).alloc (.cells us.toArray U)) w.heap.size 30 vs ∧ Cells LB ((w.alloc (.cells vs.toArray T)).alloc (.cells us.toArray U)) (w.heap.size + 1) 30 us := by
  obtain ⟨L1, h1, s1, c1⟩ := h.box vs T
  obtain ⟨L2, h2, s2, c2⟩ := h1.box us U
  exact ⟨L2, h2, s1.trans s2, c1.step s2 (fun x => x), by simpa using c2⟩

/-- What a step leaves. -/
def Stepped (w0 : World) (mb gb w1 w2 K : Nat) (w' : World) : Prop := ∃ L' s', Room w0 mb L' w' s' ∧ Good gb w1 w2 s' ∧ Bound s' (K + 2)

/-- A view has told its watch, and nobody else: and then the room is told. -/
theorem room_told {K : Nat} (h : Room w0 mb L w s) (g : Good gb w1 w2 s) (b : Bound s K) (hK : K ≤ 1000000000) {e : En} (he : Ent gb s.N w1 w2 e) (x y : Nat) (hxy : x + y ≤ e.n) {L1 : Nat → Nat} {wA : World} (hA : Room w0 mb L1 wA (s.setU e.who (tell (s.u e.who) e.a x y))) :
    Calls Try.prog 55 #[.pointer (some ⟨mb, 0, none⟩), enVal e, .int .i64 (x : Int), .int .i64 (y : Int)] wA fun r w' => r = .returned (.tuple #[]) ∧ ∃ L' s', Step Rc L1 wA L' w' ∧ Room w0 mb L' w' s' ∧ Good gb w1 w2 s' ∧ Bound s' (K + 1) ∧ s'.N = s.N := by
  have hf := he.fits
  have hs := g.small
  refine (reads_calls hA e he.who (by rw [setU_t]; have := b.t e.who; omega) x y (by omega)).mono fun r w' ⟨hr, L', v, st, hR⟩ => ⟨hr, L', _, st, hR, ?_, ?_, ?_⟩
  · rw [setU_t, ← g.even]; exact setU_good g he.who
  · rw [setU_t, ← g.even]; exact setU_bound (b.mono (by omega)) (by have := tell_len (s.u e.who) e.a x y; rw [g.even] at this ⊢; have := b.t e.who; omega)
  · unfold Rm.setT Rm.setU; split <;> (try split) <;> rfl

end
end Go.Proofs.Ytajaonnpekdklaa.Vr
