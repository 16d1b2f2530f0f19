import Derived.WalkKit
import Derived.ProofKit
import Derived.Below
import Derived.OneCell
import Derived.Deep.AppendSrc
import Derived.Laws.BytesArg
import Derived.Deep.QuietTactic
import Derived.BigQuiet
import Derived.Lib.Hide
set_option linter.unusedVariables false
/-!
  MEMORY BY COLOURS. 'L : Nat → Nat' gives each block a colour (ghost). 'Step C L w L' w'': of the old blocks only those of a colour in C may have turned; new blocks may have come.
-/
namespace Go.Proofs.Ytajaonnpekdklaa.Mem
open Go.RowKit

/-- A byte as the model holds it. -/
def byt (b : UInt8) : Value := .int .u8 (b.toNat : Int)

structure Step (C : Nat → Prop) (L : Nat → Nat) (w : World) (L' : Nat → Nat) (w' : World) : Prop where
  os : w'.os = w.os
  tape : w'.tape = w.tape
  output : w'.output = w.output
  size : w.heap.size ≤ w'.heap.size
  block : ∀ k, k < w.heap.size → ¬ C (L k) → w'.heap[k]? = w.heap[k]?
  col : ∀ k, k < w.heap.size → L' k = L k

/-- The old colours; 'c' for whatever is new. -/
def ext (L : Nat → Nat) (n c : Nat) : Nat → Nat := fun k => if k < n then L k else c
theorem ext_old {L : Nat → Nat} {n c k : Nat} (h : k < n) : ext L n c k = L k := by simp [ext, h]
theorem ext_new {L : Nat → Nat} {n c k : Nat} (h : n ≤ k) : ext L n c k = c := by simp [ext, Nat.not_lt.2 h]

variable {C D : Nat → Prop} {L L' L'' : Nat → Nat} {w w' w'' : World}

theorem Step.refl (C : Nat → Prop) (L : Nat → Nat) (w : World) : Step C L w L w := ⟨rfl, rfl, rfl, Nat.le_refl _, fun _ _ _ => rfl, fun _ _ => rfl⟩

theorem Step.trans (h : Step C L w L' w') (k : Step C L' w' L'' w'') : Step C L w L'' w'' :=
  ⟨k.os.trans h.os, k.tape.trans h.tape, k.output.trans h.output, Nat.le_trans h.size k.size,
    fun i hi hc => (k.block i (Nat.lt_of_lt_of_le hi h.size) (by rw [h.col i hi]; exact hc)).trans (h.block i hi hc),
    fun i hi => (k.col i (Nat.lt_of_lt_of_le hi h.size)).trans (h.col i hi)⟩

theorem Step.mono (h : Step C L w L' w') (hCD : ∀ c, C c → D c) : Step D L w L' w' :=
  ⟨h.os, h.tape, h.output, h.size, fun i hi hc => h.block i hi (fun x => hc (hCD _ x)), h.col⟩

theorem Step.drewN (h : Step C L w L' w') (n : Nat) : Step C L w L' (w'.drewN n) := ⟨h.os, h.tape, h.output, h.size, h.block, h.col⟩
theorem Step.drew (h : Step C L w L' w') : Step C L w L' w'.drew := ⟨h.os, h.tape, h.output, h.size, h.block, h.col⟩
theorem Step.pre_drewN {n : Nat} (h : Step C L (w.drewN n) L' w') : Step C L w L' w' := ⟨h.os, h.tape, h.output, h.size, h.block, h.col⟩

theorem Step.below (h : Step C L w L' w') {B : Nat} (hB : B ≤ w.heap.size) (hC : ∀ k, k < B → ¬ C (L k)) : Below B w w' :=
  ⟨h.os, h.tape, h.output, h.size, fun k hk => h.block k (Nat.lt_of_lt_of_le hk hB) (hC k hk)⟩

/-- A call that wrote nothing old. -/
theorem Step.of_below (hb : Below w.heap.size w w') (C : Nat → Prop) (c : Nat) : Step C L w (ext L w.heap.size c) w' :=
  ⟨hb.os, hb.tape, hb.output, hb.size, fun k hk _ => hb.block k hk, fun k hk => ext_old hk⟩

theorem Step.toExt (h : Step C L w L' w') (c : Nat) : Step C L w (ext L w.heap.size c) w' :=
  ⟨h.os, h.tape, h.output, h.size, h.block, fun k hk => ext_old hk⟩

theorem Step.cell (h : Step C L w L' w') {a : Addr} {v : Value} (hv : w.cell? a = some v) (hc : ¬ C (L a.block)) : w'.cell? a = some v :=
  (World.cell?_of_block (h.block _ (World.block_lt_of_cell? w a hv) hc)).trans hv

theorem Step.heap (h : Step C L w L' w') {k : Nat} {o : Obj} (hv : w.heap[k]? = some o) (hc : ¬ C (L k)) : w'.heap[k]? = some o :=
  (h.block k (Array.getElem?_eq_some_iff.1 hv).1 hc).trans hv

theorem lt_of_heap {w : World} {k : Nat} {o : Obj} (hv : w.heap[k]? = some o) : k < w.heap.size := (Array.getElem?_eq_some_iff.1 hv).1

theorem add_lit (b off j : Nat) : (⟨b, off, none⟩ : Addr).add j = ⟨b, off + j, none⟩ := by unfold Addr.add; split <;> simp_all

/-! ### What is read: a slice of n elements of 'size' cells each, in blocks of colour c. -/
def Rd (L : Nat → Nat) (c : Nat) (w : World) (size : Nat) (v : Value) (n : Nat) (xs : List Value) : Prop :=
  xs.length = n * size ∧ ∃ p cap, v = .slice p n cap ∧ n ≤ cap ∧ cap ≤ maxLen ∧ ∀ j u, xs[j]? = some u → ∃ b off, p = some ⟨b, off, none⟩ ∧ L b = c ∧ w.cell? ⟨b, off + j, none⟩ = some u

theorem Rd.step {c size n : Nat} {v : Value} {xs : List Value} (h : Rd L c w size v n xs) (st : Step C L w L' w') (hc : ¬ C c) : Rd L' c w' size v n xs := by
  obtain ⟨h1, p, cap, hv, hn, hm, hcells⟩ := h
  refine ⟨h1, p, cap, hv, hn, hm, fun j u hj => ?_⟩
  obtain ⟨b, off, hp, hL, hcell⟩ := hcells j u hj
  have hlt : b < w.heap.size := World.block_lt_of_cell? w _ hcell
  exact ⟨b, off, hp, (st.col b hlt).trans hL, st.cell hcell (by rw [show ((⟨b, off + j, none⟩ : Addr).block) = b from rfl, hL]; exact hc)⟩

theorem Rd.drewN {c size n : Nat} {v : Value} {xs : List Value} (h : Rd L c w size v n xs) (k : Nat) : Rd L c (w.drewN k) size v n xs := h

/-! ### What is owned: nil, or the head of a block of colour c. -/
def Own (L : Nat → Nat) (c : Nat) (w : World) (e : TypeId) (size : Nat) (v : Value) (n : Nat) (xs : List Value) : Prop :=
  w.ownsRow 0 e size v n xs ∧ ∀ g, v.ownBlock = some g → L g = c

theorem Own.nil (L : Nat → Nat) (c : Nat) (w : World) (e : TypeId) (size : Nat) : Own L c w e size (.slice none 0 0) 0 [] := ⟨World.ownsRow_nil _ _ _ _, fun g h => by cases h⟩

theorem Own.length {c e size n : Nat} {v : Value} {xs : List Value} (h : Own L c w e size v n xs) : xs.length = n * size := h.1.1

theorem ownsRow_blocks {e : TypeId} {size n : Nat} {v : Value} {xs : List Value} (h : w.ownsRow 0 e size v n xs) (hb : ∀ g, v.ownBlock = some g → w'.heap[g]? = w.heap[g]?) : w'.ownsRow 0 e size v n xs := by
  refine ⟨h.1, ?_⟩
  rcases h.2 with hn | ⟨g, cap, cur, rfl, hg0, hgg, rest⟩
  · exact .inl hn
  · exact .inr ⟨g, cap, cur, rfl, hg0, (hb g rfl).trans hgg, rest⟩

theorem Own.step {c e size n : Nat} {v : Value} {xs : List Value} (h : Own L c w e size v n xs) (st : Step C L w L' w') (hc : ¬ C c) : Own L' c w' e size v n xs := by
  have hlt := h.1.lt
  refine ⟨ownsRow_blocks h.1 fun g hg => st.block g (hlt g hg).2 (by rw [h.2 g hg]; exact hc), fun g hg => (st.col g (hlt g hg).2).trans (h.2 g hg)⟩

theorem Own.drewN {c e size n : Nat} {v : Value} {xs : List Value} (h : Own L c w e size v n xs) (k : Nat) : Own L c (w.drewN k) e size v n xs := h

theorem ownsRow_shape {e : TypeId} {size n : Nat} {v : Value} {xs : List Value} (h : w.ownsRow 0 e size v n xs) : ∃ p cap, v = .slice p n cap ∧ n ≤ cap ∧ cap ≤ maxLen ∧ (p = none → n = 0 ∧ cap = 0) ∧ ∀ j u, xs[j]? = some u → ∃ b, p = some ⟨b, 0, none⟩ ∧ v.ownBlock = some b ∧ w.cell? ⟨b, j, none⟩ = some u := by
  have hcells := fun g hg => World.ownsRow.cells (g := g) h hg
  rcases h.2 with ⟨rfl, rfl⟩ | ⟨g, cap, cur, rfl, hg0, hgg, hn, hm, hs, ht⟩
  · have hx : xs = [] := List.eq_nil_of_length_eq_zero (by simpa using h.1)
    subst hx
    exact ⟨none, 0, rfl, Nat.le_refl _, Nat.zero_le _, fun _ => ⟨rfl, rfl⟩, fun j u hj => by simp at hj⟩
  · refine ⟨some ⟨g, 0, none⟩, cap, rfl, hn, hm, (fun h => by cases h), fun j u hj => ⟨g, rfl, rfl, ?_⟩⟩
    have := hcells g rfl j u hj
    simpa [add_lit] using this

theorem Own.rd {c e size n : Nat} {v : Value} {xs : List Value} (h : Own L c w e size v n xs) : Rd L c w size v n xs := by
  obtain ⟨p, cap, hv, hn, hm, _, hcells⟩ := ownsRow_shape h.1
  refine ⟨h.length, p, cap, hv, hn, hm, fun j u hj => ?_⟩
  obtain ⟨b, hp, hb, hcell⟩ := hcells j u hj
  exact ⟨b, 0, hp, h.2 b hb, by simpa using hcell⟩

/-- What an append takes from a slice that is read. -/
theorem Rd.src {P : Program} {c size n : Nat} {v : Value} {xs : List Value} (h : Rd L c w size v n xs) {tx e' : TypeId} (hk : P.underlying tx = some (.slice e')) (h1 : ∀ u ∈ xs, u.oneCell' = true) : Src P size tx v n xs w := by
  obtain ⟨hl, p, cap, rfl, hn, hm, hcells⟩ := h
  cases p with
  | none =>
    have hx : xs = [] := by
      cases xs with
      | nil => rfl
      | cons u r => obtain ⟨b, off, hp, _⟩ := hcells 0 u (by simp); cases hp
    subst hx
    have hf : ∀ w' : World, (Builtin.firstCells size n (.slice none n cap)).run P w' = .ok #[] w' := fun w' => by simp [Builtin.firstCells]
    exact ⟨.inl ⟨e', hk⟩, fun _ => rfl, hf w, hf w.drew, hl, h1⟩
  | some a =>
    by_cases h0 : xs.length = 0
    · have hx : xs = [] := List.eq_nil_of_length_eq_zero h0
      subst hx
      have hz : n * size = 0 := by simpa using hl.symm
      have hf : ∀ w' : World, (Builtin.firstCells size n (.slice (some a) n cap)).run P w' = .ok #[] w' := fun w' => by simp [Builtin.firstCells, hz, loadCells, loadCellsFrom]
      exact ⟨.inl ⟨e', hk⟩, fun _ => rfl, hf w, hf w.drew, hl, h1⟩
    · obtain ⟨b, off, hp, _⟩ := hcells 0 (xs[0]'(by omega)) (by simp)
      cases hp
      exact Src.ofSlice (P := P) w hk ⟨b, off, none⟩ n cap xs hl (fun j u hj => by
        obtain ⟨b', off', hp', _, hc⟩ := hcells j u hj
        cases hp'
        rw [add_lit]; exact hc) h1

/-- APPEND onto what is owned. -/
theorem run_append {P : Program} (w : World) (t tx ty e : TypeId) (i : TypeInfo) (z : Value) (size bytes : Nat) (ht : P.underlying t = some (.slice e)) (hi : P.info? e = some i) (hz : i.zero = some z)
    (hsize : i.size = size) (hby : i.bytes = bytes) (hzs : z.cells.size = size) (hsz : 0 < size)
    (v : Value) (n : Nat) (xs : List Value) (hown : w.ownsRow 0 e size v n xs) (x : Value) (m : Nat) (news : List Value) (hsrc : Src P size tx x m news w)
    (h63 : n + m ≤ maxLen) (hbytes : (n + m) * bytes ≤ 140737488355328) :
    ∃ v' w', (Builtin.append_ #[t, tx] ty #[v, x]).run P w = .ok v' w' ∧ w'.ownsRow 0 e size v' (n + m) (xs ++ news) ∧ w.grownBy w' v.ownBlock ∧
      (v'.ownBlock = v.ownBlock ∨ v'.ownBlock = some w.heap.size) ∧ (v' = .slice none 0 0 ↔ v = .slice none 0 0 ∧ m = 0) := by
  subst hsize
  subst hby
  have hsmall : n + m ≤ 9223372036854775807 := by simp only [maxLen] at h63; omega
  have hlen : (xs ++ news).length = (n + m) * i.size := by rw [List.length_append, hown.1, hsrc.newsLen, Nat.add_mul]
  have grown : ∀ (old : Nat), old < n + m → ∀ (row : Option Nat),
      (w.drew.alloc (.cells ((xs ++ news).toArray ++ Builtin.zeroCells z.cells (grownCap w (n + m) old e - (n + m))) e)).ownsRow 0 e i.size
        (.slice (some ⟨w.heap.size, 0, none⟩) (n + m) (grownCap w (n + m) old e)) (n + m) (xs ++ news) ∧
      w.grownBy (w.drew.alloc (.cells ((xs ++ news).toArray ++ Builtin.zeroCells z.cells (grownCap w (n + m) old e - (n + m))) e)) row := by
    intro old ho row
    have hge := grownCap_ge w (n + m) old e
    have hcm : grownCap w (n + m) old e ≤ maxLen := grownCap_le_maxLen w (n + m) old e h63
    refine ⟨⟨hlen, .inr ⟨w.heap.size, _, _, rfl, Nat.zero_le _, heap_alloc_new w.drew _, hge, hcm, ?_, ?_⟩⟩, ⟨rfl, rfl, rfl, by simp, fun k hk _ => Below.heap_alloc w.drew _ k hk⟩⟩
    · simp only [Array.size_append, List.size_toArray, size_zeroCells, hzs, hlen, ← Nat.add_mul]
      congr 1
      omega
    · simp only [Array.toList_append]
      rw [← hlen]
      exact List.take_left
  rcases hown.2 with ⟨rfl, rfl⟩ | ⟨g, cap, cur, rfl, hbg, hg, hnc, hcm, hcs, htake⟩
  · have hx : xs = [] := List.eq_nil_of_length_eq_zero (by simpa using hown.1)
    subst hx
    by_cases hm : m = 0
    · subst hm
      have hn : news = [] := List.eq_nil_of_length_eq_zero (by simpa using hsrc.newsLen)
      subst hn
      refine ⟨.slice none 0 0, w, ?_, World.ownsRow_nil w 0 e i.size, ⟨rfl, rfl, rfl, Nat.le_refl _, fun _ _ _ => rfl⟩, .inl rfl, by simp⟩
      rcases hsrc.kind with ⟨e', hk⟩ | hk <;> simp [Builtin.append_, run_underlying ht, run_underlying hk, sizeOf, typeInfo, hi, hsrc.len, hsrc.cells]
    · have hr := run_append_grow_src (P := P) w t tx ty e i z ht hi hz none 0 0 [] (by simp [Builtin.firstCells]) x m news hsrc (by omega) (by omega) (growslice_fits (by omega) hbytes)
      have hgr := grown 0 (by omega) (Value.ownBlock (.slice none 0 0))
      exact ⟨_, _, hr, hgr.1, hgr.2, .inr rfl, by simp [hm]⟩
  · by_cases hroom : n + m ≤ cap
    · have hfit : n * i.size + news.length ≤ cur.size := by rw [hsrc.newsLen, hcs, ← Nat.add_mul]; exact Nat.mul_le_mul_right _ hroom
      have hst := run_storeCells_at P g (n * i.size) e news 0 cur w hg (by simpa using hfit) hsrc.one
      simp only [Nat.add_zero] at hst
      have hr : (Builtin.append_ #[t, tx] ty #[.slice (some ⟨g, 0, none⟩) n cap, x]).run P w = .ok (.slice (some ⟨g, 0, none⟩) (n + m) cap) (w.setRow g (cur.toList.take (n * i.size) ++ news ++ cur.toList.drop (n * i.size + news.length)).toArray) := by
        rcases hsrc.kind with ⟨e', hk⟩ | hk <;> simp [Builtin.append_, run_underlying ht, run_underlying hk, sizeOf, typeInfo, hi, hsrc.len, hroom, hsrc.cells, Addr.add_lit, hst]
      refine ⟨_, _, hr, ⟨hlen, .inr ⟨g, cap, _, rfl, hbg, setRow_heap w g cur _ e _ hg, hroom, hcm, ?_, ?_⟩⟩, ⟨rfl, rfl, rfl, by simp, fun k _ hk => setRow_other w g k _ (fun e => hk (by simp [Value.ownBlock, e]))⟩, .inl rfl, by simp⟩
      · simp only [List.size_toArray, List.length_append, List.length_take, List.length_drop, Array.length_toList]
        omega
      · rw [htake, ← hlen]
        exact List.take_left
    · have holds : ∀ j u, xs[j]? = some u → w.cell? ((⟨g, 0, none⟩ : Addr).add j) = some u := hown.cells (g := g) rfl
      have hold := run_firstCells_some (P := P) w.drew i.size n ⟨g, 0, none⟩ n cap xs hown.1 (by simpa using holds)
      have hr := run_append_grow_src (P := P) w t tx ty e i z ht hi hz (some ⟨g, 0, none⟩) n cap xs hold x m news hsrc (by omega) (by omega) (growslice_fits (by omega) hbytes)
      have hgr := grown cap (by omega) (Value.ownBlock (.slice (some ⟨g, 0, none⟩) n cap))
      exact ⟨_, _, hr, hgr.1, hgr.2, .inr rfl, by simp⟩

/-- THE OPERATION, for the walk. -/
theorem wpList_append {P : Program} {w : World} {ops : Array Oper} {rest : List Oper} {o : Oper} {a : Act} {Q : Exit → Act → World → Prop} (hgd : o.guard = none) (s x : Operand) (t tx : TypeId)
    (ho : o.op = .call { callee := .builtin .append, args := #[s, x], argTypes := #[t, tx] })
    (e : TypeId) {z : Value} {size bytes : Nat} (ht : P.underlying t = some (.slice e)) (hinfo : (P.info? e).map (fun i => (i.zero, i.size, i.bytes)) = some (some z, size, bytes)) (hzs : z.cells.size = size) (hsz : 0 < size)
    (v : Value) (n : Nat) (xs : List Value) (hs : a.eval s = v) (hown : w.ownsRow 0 e size v n xs)
    (vx : Value) (m : Nat) (news : List Value) (hx : a.eval x = vx) (hsrc : Src P size tx vx m news w)
    (h63 : n + m ≤ maxLen) (hbytes : (n + m) * bytes ≤ 140737488355328)
    (h : ∀ v' w', w'.ownsRow 0 e size v' (n + m) (xs ++ news) → w.grownBy w' v.ownBlock → (v'.ownBlock = v.ownBlock ∨ v'.ownBlock = some w.heap.size) → (v' = .slice none 0 0 ↔ v = .slice none 0 0 ∧ m = 0) → wpList P ops Q rest (a.put o.dst v') w') : wpList P ops Q (o :: rest) a w := by
  refine wpList_plain hgd fun K hK => ?_
  obtain ⟨i, hi, hz, hsize, hby⟩ := info_parts hinfo
  obtain ⟨v', w', hr, h2, h3, h4, h5⟩ := run_append (P := P) w t tx o.type e i z size bytes ht hi hz hsize hby hzs hsz v n xs hown vx m news hsrc h63 hbytes
  unfold Oper.wp execOp
  simp only [ho, resolve, invoke, builtin, Sem.run_bind, Sem.run_pure, Result.andThen_ok, List.map_toArray, List.map_cons, List.map_nil, hs, hx, hr]
  exact hK _ _ (h v' w' h2 h3 h4 h5)

theorem heap_setCell_same {w : World} {b o : Nat} {C : Array Value} {T : TypeId} {f : Nat × Nat} (h : w.heap[b]? = some (.cells C T f)) (v : Value) : (w.setCell ⟨b, o, none⟩ v).heap[b]? = some (.cells (C.setIfInBounds o v) T f) := by
  have hlt : b < w.heap.size := lt_of_heap h
  have hv : w.heap[b] = .cells C T f := (Array.getElem?_eq_some_iff.1 h).2
  simp only [World.setCell]
  rw [Array.getElem?_eq_getElem (by simpa using hlt), Array.getElem_modify]
  simp [hv]

theorem cell_of_heap {w : World} {b o : Nat} {C : Array Value} {T : TypeId} {f : Nat × Nat} (h : w.heap[b]? = some (.cells C T f)) : w.cell? ⟨b, o, none⟩ = C[o]? := by
  simp [World.cell?, h]

theorem frozen_of_heap {w : World} {b o : Nat} {C : Array Value} {T : TypeId} (h : w.heap[b]? = some (.cells C T (0, 0))) : w.frozen? ⟨b, o, none⟩ = false := by
  simp [World.frozen?, h]

/-! ### A list of bytes with a bound, in a struct of two fields (an Ink of either make; T: the struct's type). -/
def InkAt (T : TypeId) (L : Nat → Nat) (c : Nat) (w : World) (kb : Nat) (bs : List UInt8) (most : Int) : Prop :=
  ∃ v, w.heap[kb]? = some (.cells #[v, .int .i64 most] T (0, 0)) ∧ L kb = c ∧ Own L c w 5 1 v bs.length (bs.map byt) ∧ v.ownBlock ≠ some kb

theorem InkAt.step {T : TypeId} {c kb : Nat} {bs : List UInt8} {most : Int} (h : InkAt T L c w kb bs most) (st : Step C L w L' w') (hc : ¬ C c) : InkAt T L' c w' kb bs most := by
  obtain ⟨v, h1, h2, h3, h4⟩ := h
  exact ⟨v, st.heap h1 (by rw [h2]; exact hc), (st.col kb (lt_of_heap h1)).trans h2, h3.step st hc, h4⟩

theorem InkAt.drewN {T : TypeId} {c kb : Nat} {bs : List UInt8} {most : Int} (h : InkAt T L c w kb bs most) (n : Nat) : InkAt T L c (w.drewN n) kb bs most := h

/-- Behind an append onto the list and the store of what it gave. 'w1' is 'w' with new blocks (what was appended, if it lay in one). -/
theorem InkAt.grown {T : TypeId} {c kb : Nat} {bs bs' : List UInt8} {most : Int} {w0 w w1 w2 : World} {v v2 : Value} (st : Step (· = c) L w0 L' w)
    (hk : w.heap[kb]? = some (.cells #[v, .int .i64 most] T (0, 0))) (hL : L' kb = c) (hown : Own L' c w 5 1 v bs.length (bs.map byt)) (hne : v.ownBlock ≠ some kb)
    (hb : Below w.heap.size w w1) (hown2 : w2.ownsRow 0 5 1 v2 bs'.length (bs'.map byt)) (hg : w1.grownBy w2 v.ownBlock) (hblk : v2.ownBlock = v.ownBlock ∨ v2.ownBlock = some w1.heap.size) :
    ∃ L'', Step (· = c) L w0 L'' (w2.setCell ⟨kb, 0, none⟩ v2) ∧ InkAt T L'' c (w2.setCell ⟨kb, 0, none⟩ v2) kb bs' most := by
  have hkl := lt_of_heap hk
  have hs1 : w.heap.size ≤ w1.heap.size := hb.size
  have hk2 : w2.heap[kb]? = some (.cells #[v, .int .i64 most] T (0, 0)) := by
    rw [hg.block kb (by omega) (fun e => hne e.symm), hb.block kb hkl]; exact hk
  have hne2 : v2.ownBlock ≠ some kb := by
    rcases hblk with h | h <;> rw [h]
    · exact hne
    · intro e; cases e; omega
  have hcol : ∀ g, v2.ownBlock = some g → ext L' w.heap.size c g = c := by
    intro g hg2
    rcases hblk with h | h
    · have := hown.2 g (h ▸ hg2)
      by_cases hlt : g < w.heap.size
      · rw [ext_old hlt]; exact this
      · exact ext_new (by omega)
    · rw [h] at hg2; cases hg2; exact ext_new hs1
  refine ⟨ext L' w.heap.size c, st.trans ⟨?_, ?_, ?_, ?_, ?_, fun k hk' => ext_old hk'⟩, v2, ?_, ?_, ⟨ownsRow_blocks hown2 ?_, hcol⟩, hne2⟩
  · exact hg.os.trans hb.os
  · exact hg.tape.trans hb.tape
  · exact hg.output.trans hb.output
  · have := hg.size; simp [World.setCell]; omega
  · intro k hk' hc
    have hkk : k ≠ kb := fun e => hc (by rw [e]; exact hL)
    have hkv : some k ≠ v.ownBlock := fun e => hc (hown.2 k e.symm)
    rw [Below.heap_setCell _ _ _ _ (by exact hkk), hg.block k (by omega) hkv, hb.block k hk']
  · have := heap_setCell_same (o := 0) hk2 v2
    simpa using this
  · rw [ext_old hkl]; exact hL
  · intro g hg2
    exact Below.heap_setCell _ _ _ _ (fun e => hne2 (by rw [hg2, e]))

theorem InkAt.behind {T : TypeId} {kb : Nat} {most : Int} {w w1 w2 : World} {v : Value} (hk : w.heap[kb]? = some (.cells #[v, .int .i64 most] T (0, 0))) (hne : v.ownBlock ≠ some kb)
    (hb : Below w.heap.size w w1) (hg : w1.grownBy w2 v.ownBlock) : w2.cell? ⟨kb, 0, none⟩ = some v ∧ w2.frozen? ⟨kb, 0, none⟩ = false := by
  have hkl := lt_of_heap hk
  have hs1 : w.heap.size ≤ w1.heap.size := hb.size
  have hk2 : w2.heap[kb]? = some (.cells #[v, .int .i64 most] T (0, 0)) := by
    rw [hg.block kb (by omega) (fun e => hne e.symm), hb.block kb hkl]; exact hk
  exact ⟨by rw [cell_of_heap hk2]; rfl, frozen_of_heap hk2⟩

/-- What an append takes from a block that was made for it. -/
theorem Src.fresh {P : Program} (w : World) {size : Nat} {tx e' T : TypeId} (hk : P.underlying tx = some (.slice e')) (n c : Nat) (cs : List Value) (hl : cs.length = n * size) (h1 : ∀ u ∈ cs, u.oneCell' = true) :
    Src P size tx (.slice (some ⟨w.heap.size, 0, none⟩) n c) n cs (w.alloc (.cells cs.toArray T)) :=
  Src.ofSlice (P := P) _ hk ⟨w.heap.size, 0, none⟩ n c cs hl (fun j u hj => by rw [add_lit, Nat.zero_add, World.cell?_alloc_new]; simpa using hj) h1

theorem below_alloc (w : World) (o : Obj) : Below w.heap.size w (w.alloc o) := (Below.refl _ _).alloc (Nat.le_refl _) o

theorem below_drewN (w : World) (n : Nat) : Below w.heap.size w (w.drewN n) := ⟨rfl, rfl, rfl, Nat.le_refl _, fun _ _ => rfl⟩
theorem below_drewN_alloc (w : World) (n : Nat) (o : Obj) : Below w.heap.size w ((w.alloc o).drewN n) := (below_alloc w o).trans ⟨rfl, rfl, rfl, Nat.le_refl _, fun _ _ => rfl⟩
theorem byt_bounds (b : UInt8) : 0 ≤ (b.toNat : Int) ∧ (b.toNat : Int) ≤ 255 := by have := b.toNat_lt; omega

/-- The bytes of a number, the lowest first. -/
def lowByte (x : Int) : UInt8 := UInt8.ofNat (x % 256).toNat
theorem lowByte_eq (x : Int) : Value.int .u8 (IntKind.u8.wrap x) = byt (lowByte x) := by
  unfold byt lowByte
  rw [IntKind.wrap_u8]
  congr 1
  simp
  omega
theorem lowByte_emod (x : Int) : byt (lowByte x) = .int .u8 (x % 256) := by rw [← lowByte_eq, IntKind.wrap_u8]
theorem div_pow_succ (x : Int) (j : Nat) : x / 256 ^ (j + 1) = x / 256 ^ j / 256 := by
  rw [Int.pow_succ, Int.ediv_ediv_of_nonneg (Int.le_of_lt (Int.pow_pos (by decide)))]
theorem div_pow_bound {x : Int} (h0 : 0 ≤ x) (h1 : x ≤ 18446744073709551615) (j : Nat) : 0 ≤ x / 256 ^ j ∧ x / 256 ^ j ≤ 18446744073709551615 := by
  have hp : (0 : Int) < 256 ^ j := Int.pow_pos (by decide)
  exact ⟨Int.ediv_nonneg h0 (Int.le_of_lt hp), Int.le_trans (Int.ediv_le_self _ h0) h1⟩
def leB (x : Int) : Nat → List UInt8
  | 0 => []
  | k + 1 => leB x k ++ [lowByte (x / 256 ^ k)]
theorem leB_length (x : Int) (k : Nat) : (leB x k).length = k := by induction k <;> simp_all [leB]

theorem byt_oneCell (bs : List UInt8) : ∀ u ∈ bs.map byt, u.oneCell' = true := by intro u hu; obtain ⟨b, _, rfl⟩ := List.mem_map.1 hu; rfl

/-- 'string(b)'. -/
theorem run_toString {P : Program} {c : Nat} {v : Value} {bs : List UInt8} (h : Rd L c w 1 v bs.length (bs.map byt)) {src e dst : TypeId} (hs : P.underlying src = some (.slice e)) (he : P.underlying e = some (.int .u8)) (hd : P.underlying dst = some .string) :
    (convert src dst v).run P w = .ok (.string ⟨bs.toArray⟩) w := by
  obtain ⟨hl, p, cap, rfl, hn, hm, hcells⟩ := h
  cases p with
  | none =>
    have hb0 : bs = [] := by
      cases bs with
      | nil => rfl
      | cons b r => obtain ⟨_, _, e, _⟩ := hcells 0 (byt b) (by simp); cases e
    subst hb0
    exact run_convert_bytes_nil (P := P) w src e hs he _ _ dst hd
  | some a =>
    by_cases h0 : bs.length = 0
    · have hb0 : bs = [] := List.eq_nil_of_length_eq_zero h0
      subst hb0
      rw [run_convert_bytes_string w src dst e _ _ _ hs he hd]
      have := run_bytesToString (P := P) w a 0 cap [] (by simp [loadCells, loadCellsFrom])
      rw [show ([] : List UInt8).length = 0 from rfl, this]
      rfl
    · obtain ⟨b, off, hp, _⟩ := hcells 0 (byt (bs[0]'(by omega))) (by simp [List.getElem?_eq_getElem (show 0 < bs.length by omega)])
      cases hp
      have := run_convert_bytes_arg (P := P) w src e hs he b off bs.length cap (bs.map fun x => (x.toNat : Int)) (by simp) (fun i hi => by
        obtain ⟨b', off', hp', _, hc⟩ := hcells i (byt bs[i]) (by simp [hi])
        cases hp'
        rw [hc]; simp [byt, hi]) dst hd
      rw [this]
      congr 2
      simp only [strOfNums, List.map_map]
      congr 1
      have : ((fun n : Int => UInt8.ofNat n.toNat) ∘ fun x : UInt8 => (x.toNat : Int)) = id := by funext x; simp
      rw [this, List.map_id]

/-- What a walk asks of a slice of bytes at one place. -/
theorem Rd.at {c : Nat} {p : Option Addr} {n cap : Nat} {bs : List UInt8} (h : Rd L c w 1 (.slice p n cap) n (bs.map byt)) {k : Nat} (hk : k < bs.length) : ∃ b off, p = some ⟨b, off, none⟩ ∧ L b = c ∧ w.cell? ⟨b, off + k, none⟩ = some (.int .u8 (bs[k].toNat : Int)) := by
  obtain ⟨hl, p', cap', hv, hn, hm, hcells⟩ := h
  cases hv
  obtain ⟨b, off, h1, h2, h3⟩ := hcells k (byt bs[k]) (by simp [hk])
  exact ⟨b, off, h1, h2, h3⟩

theorem Rd.shape {c size : Nat} {v : Value} {n : Nat} {xs : List Value} (h : Rd L c w size v n xs) : ∃ p cap, v = .slice p n cap ∧ n ≤ cap ∧ cap ≤ maxLen := by
  obtain ⟨hl, p', cap', hv, hn, hm, hcells⟩ := h
  exact ⟨p', cap', hv, hn, hm⟩

/-- One cell of what is owned is written. -/
theorem Own.set {c e n size : Nat} {v : Value} {xs : List Value} (h : Own L c w e size v n xs) {j : Nat} (hj : j < xs.length) (u : Value) :
    ∃ g cap, v = .slice (some ⟨g, 0, none⟩) n cap ∧ L g = c ∧ (w.cell? ⟨g, j, none⟩ = some xs[j]) ∧ w.frozen? ⟨g, j, none⟩ = false ∧ Own L c (w.setCell ⟨g, j, none⟩ u) e size v n (xs.set j u) ∧ Step (· = c) L w L (w.setCell ⟨g, j, none⟩ u) := by
  obtain ⟨⟨h1, h2⟩, h3⟩ := h
  rcases h2 with ⟨rfl, rfl⟩ | ⟨g, cap, cur, rfl, hg0, hgg, hn, hm, hs, ht⟩
  · simp at h1; subst h1; simp at hj
  · have hLg := h3 g rfl
    have hjc : j < cur.size := by
      have : xs.length ≤ cur.size := by rw [← ht]; simp; omega
      omega
    have hx : cur[j]? = some xs[j] := by
      have : cur.toList[j]? = some xs[j] := by
        have h5 : (cur.toList.take (n * size))[j]? = some xs[j] := by rw [ht]; simp
        rw [List.getElem?_take] at h5
        split at h5
        · exact h5
        · cases h5
      simpa using this
    refine ⟨g, cap, rfl, hLg, ?_, frozen_of_heap hgg, ⟨⟨by simpa using h1, .inr ⟨g, cap, cur.setIfInBounds j u, rfl, hg0, ?_, hn, hm, by simpa using hs, ?_⟩⟩, h3⟩, ?_⟩
    · rw [cell_of_heap hgg]; exact hx
    · exact heap_setCell_same hgg u
    · rw [Array.toList_setIfInBounds, List.take_set, ht]
    · refine ⟨rfl, rfl, rfl, by simp [World.setCell], fun k hk hc => ?_, fun _ _ => rfl⟩
      exact Below.heap_setCell _ _ _ _ (fun e => hc (by rw [e]; exact hLg))

/-- Behind an append onto what is owned. 'w1' is 'w' with new blocks. -/
theorem Own.grown {c e size n m : Nat} {v v2 : Value} {xs ys : List Value} {w0 w w1 w2 : World} {C : Nat → Prop} (st : Step C L w0 L' w) (hC : C c) (hown : Own L' c w e size v n xs) (hb : Below w.heap.size w w1)
    (hown2 : w2.ownsRow 0 e size v2 m ys) (hg : w1.grownBy w2 v.ownBlock) (hblk : v2.ownBlock = v.ownBlock ∨ v2.ownBlock = some w1.heap.size) :
    ∃ L'', Step C L w0 L'' w2 ∧ Own L'' c w2 e size v2 m ys ∧ Step (· = c) L' w L'' w2 := by
  have hs1 : w.heap.size ≤ w1.heap.size := hb.size
  have st2 : Step (· = c) L' w (ext L' w.heap.size c) w2 := by
    refine ⟨hg.os.trans hb.os, hg.tape.trans hb.tape, hg.output.trans hb.output, Nat.le_trans hs1 hg.size, fun k hk hc => ?_, fun k hk => ext_old hk⟩
    rw [hg.block k (by omega) (fun e => hc (hown.2 k e.symm)), hb.block k hk]
  refine ⟨ext L' w.heap.size c, st.trans (st2.mono fun k hk => by rw [hk]; exact hC), ⟨hown2, fun g hg2 => ?_⟩, st2⟩
  rcases hblk with h | h
  · have := hown.2 g (h ▸ hg2)
    by_cases hlt : g < w.heap.size
    · rw [ext_old hlt]; exact this
    · exact ext_new (by omega)
  · rw [h] at hg2; cases hg2; exact ext_new hs1

end Go.Proofs.Ytajaonnpekdklaa.Mem
