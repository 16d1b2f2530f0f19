import Derived.Test.YtajaonnpekdklaaVrH
import Derived.Laws.MakeOwn
set_option linter.unusedVariables false
set_option maxRecDepth 100000
/-! COPIES, NEW BLOCKS, APPENDS THAT FIND NO ROOM. -/
namespace Go.Proofs.Ytajaonnpekdklaa.Mem
open Go.ChangeShapes Go.WideShapes Go.ChangeAt Go.RowKit

theorem setRow_last (w : World) (C X : Array Value) (T : TypeId) : (w.alloc (.cells C T)).setRow w.heap.size X = w.alloc (.cells X T) := by
  unfold World.setRow World.alloc
  congr 1
  apply Array.ext
  · simp
  · intro i h1 h2
    simp only [Array.getElem_modify, Array.getElem_push]
    by_cases h : i < w.heap.size
    · simp [h, Nat.ne_of_gt h]
    · have : i = w.heap.size := by simp at h2; omega
      subst this; simp

/-- copy of a list that is read into the head of the last block -/
theorem run_copy_last {P : Program} {L : Nat → Nat} {c1 : Nat} (w : World) (dT sT ty elem : TypeId) (C : Array Value) (T : TypeId) (d c n cap : Nat) (p : Option Addr) (xs : List Value)
    (hu : P.underlying dT = some (.slice elem)) (hs : (P.info? elem).map (·.size) = some 1) (hd : n ≤ d) (hC : C.size = c) (hdc : d ≤ c) (h1 : ∀ u ∈ xs, u.oneCell' = true)
    (hr : Rd L c1 w 1 (.slice p n cap) n xs) :
    (Builtin.copy_ #[dT, sT] ty #[.slice (some ⟨w.heap.size, 0, none⟩) d c, .slice p n cap]).run P (w.alloc (.cells C T)) =
      .ok (goInt n) (w.alloc (.cells (xs ++ C.toList.drop n).toArray T)) := by
  obtain ⟨hl, p', cap', hv, hn, hm, hc⟩ := hr
  cases hv
  have hxl : xs.length = n := by simpa using hl
  subst hxl
  by_cases h0 : xs.length = 0
  · have hz : xs = [] := List.eq_nil_of_length_eq_zero h0
    subst hz
    have := run_copy_none (P := P) (w.alloc (.cells C T)) dT sT ty elem (some ⟨w.heap.size, 0, none⟩) p d c 0 cap hu hs (by simp)
    simpa using this
  · obtain ⟨b, off, rfl, _, hc0⟩ := hc 0 (xs[0]'(by omega)) (by simp)
    have hb : b < w.heap.size := World.block_lt_of_cell? w _ hc0
    have h := run_copy_row (P := P) (w.alloc (.cells C T)) dT sT ty elem w.heap.size 0 d c ⟨b, off, none⟩ xs.length cap C T xs hu hs
      (by unfold World.alloc; simp only [Array.getElem?_push_size]) (by simp [Nat.min_eq_left hd]) (fun j v hj => by
        obtain ⟨b', off', e, _, hc⟩ := hc j v hj
        simp at e; obtain ⟨rfl, rfl⟩ := e
        rw [add_lit, World.cell?_alloc_lt _ _ _ hb]
        exact hc) (by simp; omega) h1
    rw [h, setRow_last]
    simp

theorem Own.made (L : Nat → Nat) (c : Nat) (w : World) (e : TypeId) (size n : Nat) (xs : List Value) (hl : xs.length = n * size) (hm : n ≤ maxLen) :
    Step (fun _ => False) L w (ext L w.heap.size c) (w.alloc (.cells xs.toArray e)) ∧ Own (ext L w.heap.size c) c (w.alloc (.cells xs.toArray e)) e size (.slice (some ⟨w.heap.size, 0, none⟩) n n) n xs := by
  refine ⟨Step.of_below (below_alloc w _) _ c, ⟨hl, .inr ⟨w.heap.size, n, xs.toArray, rfl, Nat.zero_le _, heap_alloc_new w _, Nat.le_refl _, hm, by simpa using hl, ?_⟩⟩, fun g hg => ?_⟩
  · rw [← hl]; simp
  · cases hg; exact ext_new (Nat.le_refl _)

/-- APPEND onto a slice without room behind its end: always a new block. -/
theorem run_append_tight {P : Program} {L : Nat → Nat} {c : Nat} (w : World) (t tx ty e : TypeId) (i : TypeInfo) (z : Value) (size bytes : Nat) (ht : P.underlying t = some (.slice e)) (hi : P.info? e = some i) (hz : i.zero = some z)
    (hsize : i.size = size) (hby : i.bytes = bytes) (hzs : z.cells.size = size)
    (p : Option Addr) (n : Nat) (xs : List Value) (hr : Rd L c w size (.slice p n n) n xs) (h1 : ∀ u ∈ xs, u.oneCell' = true) (x : Value) (m : Nat) (news : List Value) (hsrc : Src P size tx x m news w) (hm : 0 < m)
    (h63 : n + m ≤ maxLen) (hbytes : (n + m) * bytes ≤ 140737488355328) :
    ∃ cap' w', (Builtin.append_ #[t, tx] ty #[.slice p n n, x]).run P w = .ok (.slice (some ⟨w.heap.size, 0, none⟩) (n + m) cap') w' ∧ w'.ownsRow 0 e size (.slice (some ⟨w.heap.size, 0, none⟩) (n + m) cap') (n + m) (xs ++ news) ∧ Below w.heap.size w w' := by
  subst hsize
  subst hby
  have hsmall : n + m ≤ 9223372036854775807 := by simp only [maxLen] at h63; omega
  have hlen : (xs ++ news).length = (n + m) * i.size := by rw [List.length_append, hr.1, hsrc.newsLen, Nat.add_mul]
  have hold := (hr.src (P := P) (tx := t) ht h1).cellsD
  have hrun := run_append_grow_src (P := P) w t tx ty e i z ht hi hz p n n xs hold x m news hsrc (by omega) (by omega) (growslice_fits (by omega) hbytes)
  have hge := grownCap_ge w (n + m) n e
  have hcm : grownCap w (n + m) n e ≤ maxLen := grownCap_le_maxLen w (n + m) n e h63
  refine ⟨_, _, hrun, ⟨hlen, .inr ⟨w.heap.size, _, _, rfl, Nat.zero_le _, heap_alloc_new w.drew _, hge, hcm, ?_, ?_⟩⟩, ⟨rfl, rfl, rfl, by simp, fun k hk => Below.heap_alloc w.drew _ k hk⟩⟩
  · simp only [Array.size_append, List.size_toArray, size_zeroCells, hzs, hlen, ← Nat.add_mul]
    congr 1
    omega
  · simp only [Array.toList_append]
    rw [← hlen]
    exact List.take_left

theorem wpList_append_tight {P : Program} {L : Nat → Nat} {c : Nat} {w : World} {ops : Array Oper} {rest : List Oper} {o : Oper} {a : Act} {Q : Exit → Act → World → Prop} (hgd : o.guard = none) (s x : Operand) (t tx : TypeId)
    (ho : o.op = .call { callee := .builtin .append, args := #[s, x], argTypes := #[t, tx] })
    (e : TypeId) {z : Value} {size bytes : Nat} (ht : P.underlying t = some (.slice e)) (hinfo : (P.info? e).map (fun i => (i.zero, i.size, i.bytes)) = some (some z, size, bytes)) (hzs : z.cells.size = size)
    (p : Option Addr) (n : Nat) (xs : List Value) (hs : a.eval s = .slice p n n) (hr : Rd L c w size (.slice p n n) n xs) (h1 : ∀ u ∈ xs, u.oneCell' = true)
    (vx : Value) (m : Nat) (news : List Value) (hx : a.eval x = vx) (hsrc : Src P size tx vx m news w) (hm : 0 < m)
    (h63 : n + m ≤ maxLen) (hbytes : (n + m) * bytes ≤ 140737488355328)
    (h : ∀ cap' w', w'.ownsRow 0 e size (.slice (some ⟨w.heap.size, 0, none⟩) (n + m) cap') (n + m) (xs ++ news) → Below w.heap.size w w' → wpList P ops Q rest (a.put o.dst (.slice (some ⟨w.heap.size, 0, none⟩) (n + m) cap')) w') : wpList P ops Q (o :: rest) a w := by
  refine wpList_plain hgd fun K hK => ?_
  obtain ⟨i, hi, hz, hsize, hby⟩ := info_parts hinfo
  obtain ⟨cap', w', hr, h2, h3⟩ := run_append_tight (P := P) w t tx o.type e i z size bytes ht hi hz hsize hby hzs p n xs hr h1 vx m news hsrc hm h63 hbytes
  unfold Oper.wp execOp
  simp only [ho, resolve, invoke, builtin, Sem.run_bind, Sem.run_pure, Result.andThen_ok, List.map_toArray, List.map_cons, List.map_nil, hs, hx, hr]
  exact hK _ _ (h cap' w' h2 h3)

end Go.Proofs.Ytajaonnpekdklaa.Mem
