import Derived.Test.YtkhpgcbjmopkfaaGreatDoorFg
set_option linter.unusedVariables false
set_option maxRecDepth 100000
/-!
  ALL FIELDS OF A LIST: the iterator's contract. No conditions.
-/
namespace Go.Fld
open Go Go.RowKit Go.Proofs Go.ChangeShapes Go.WideShapes Go.ChangeAt Go.Shelf
attribute [local go_sem] Oper.semAt_some

@[local go_sem] theorem run_store_func (P : Program) (w : World) (a : Addr) (m : Mode) (f : Fn) (x y : Array Value) : (store a (.func f x y) m).run P w = stored P w a (.func f x y) m := run_store P w a _ m rfl

theorem all_calls (p : Option Addr) (n cap : Nat) (w : World) :
    Calls Tryz.prog 32 #[.slice p n cap, .int .i64 65] w fun e w' => e = .returned (.func (.func 42) #[] #[.pointer (some ⟨w.heap.size + 1, 0, none⟩), .pointer (some ⟨w.heap.size, 0, none⟩)]) ∧ w' = (w.alloc (.cells #[.slice p n cap] 23)).alloc (.cells #[.int .i64 65] 3) := by
  go_enter Tryz.func32, Tryz.ntmps32
  go_wp2_with fail
  go_ret
  exact ⟨rfl, rfl⟩

section
variable {n0 n1 l yb mb db N : Nat} {w0 : World} {J Jx : List (Place w0) → World → Prop}

theorem down_in (hn0 : n0 ≤ n1) (hw0 : w0.heap.size = n0) (hy : n1 ≤ yb) (hm : n1 ≤ mb) (hdb : n1 ≤ db)
    (hJ : ∀ s A B, J s A → Below A.heap.size A B → J s B)
    (hY : ∀ m pre (x : Place w0) W, J pre W → pre.length < N → YieldAt Fence.wide m Tryz.prog l #[x.v] W fun e W' =>
      (e = .returned (.bool true) ∧ J (pre ++ [x]) W' ∧ Kp n0 n1 W W') ∨ (e = .returned (.bool false) ∧ Jx (pre ++ [x]) W')) :
    ∀ (r p : Nat), p + r = 64 → Down n0 n1 l yb mb db N J Jx p (nodesD r (p + 1))
  | 0, p, hp => by
    refine down_step hn0 hw0 hy hm hdb (fun n w d v h hd => callsIn_wide.2 (clone_calls h hd)) hJ hY p (by omega) (fun _ _ _ => []) (fun h => by omega) (fun _ _ _ _ => rfl)
  | r + 1, p, hp => by
    refine down_step hn0 hw0 hy hm hdb (fun n w d v h hd => callsIn_wide.2 (clone_calls h hd)) hJ hY p (by omega) (nodesD r) (fun _ => down_in hn0 hw0 hy hm hdb hJ hY r (p + 1) (by omega)) (fun h => by omega)
end

/-- The iterator's contract. -/
theorem all_seq {w0 W0 : World} {L : List Fd} {p : Option Addr} {c : Nat} (hL : FdsAt w0 L (.slice p L.length c)) {mb lb n1 n : Nat} (hb : Below w0.heap.size w0 W0) (hlb : W0.cell? ⟨lb, 0, none⟩ = some (.slice p L.length c)) (hmb : W0.cell? ⟨mb, 0, none⟩ = some (.int .i64 65)) (hm : n1 ≤ mb) (hn0 : w0.heap.size ≤ n1) (hn1 : n1 ≤ W0.heap.size) :
    SeqStopsK Fence.wide n Tryz.prog 42 #[.pointer (some ⟨mb, 0, none⟩), .pointer (some ⟨lb, 0, none⟩)] (fun x : Place w0 => #[x.v]) (Kp w0.heap.size n1) (fun xs => xs.map Place.n = nodesD 64 1 L false) (fun pre => pre.map Place.n <+: nodesD 64 1 L false) (nodesD 64 1 L false).length W0 := by
  intro l J Jx W hbW hJ hJx hY hJ0
  have hro : Fence.wide.round = none := rfl
  have hmx : Tryz.prog.follows .mixedOrders = true := by kernel_rfl
  have hdd : ∀ k : Nat, (Fence.wide.depth.isSome = true → 1 ≤ k) := fun k h => by simp [Fence.wide] at h
  have HY := Lib.hid hY
  have HJ := Lib.hid hJ
  have HJ0 := Lib.hid hJ0
  have HB := Lib.hid (hb.trans (hbW.mono hb.size))
  have hl1 := cell_below hbW hlb
  have hm1 := cell_below hbW hmb
  have hs1 := hbW.size
  have hlt1 := World.block_lt_of_cell? W _ hl1
  have hlt2 := World.block_lt_of_cell? W _ hm1
  simp only at hlt1 hlt2
  have HBW := Lib.hid hbW
  have HL := Lib.hid hL
  clear hY hJ hJ0 hJx hb hlb hmb hbW hL
  simp only [List.append_toArray, List.cons_append, List.nil_append]
  refine callsIn_of_wp Tryz.func42 rfl (trivial : Fence.wide.fn 42) ?_ hro
  simp only [Tryz.ntmps42, List.size_toArray, List.length_cons, List.length_nil, Nat.reduceAdd, Nat.reduceSub, Array.replicate_succ, Array.replicate_zero, List.push_toArray, List.append_toArray, List.nil_append, List.cons_append]
  gi_wp2
  obtain ⟨W2, hW2⟩ : ∃ W2, W2 = (W.alloc (.cells #[Value.func (Fn.yield l) #[] #[]] 94)).alloc (.cells #[Value.func (Fn.func 43) #[] #[.pointer (some ⟨W.heap.size, 0, none⟩), .pointer (some ⟨mb, 0, none⟩), .pointer (some ⟨W.heap.size + 1, 0, none⟩)]] 95) := ⟨_, rfl⟩
  have hB2 : Below W.heap.size W W2 := by rw [hW2]; exact ((Below.refl _ W).alloc (Nat.le_refl _) _).alloc (by simp) _
  have hOwn : Own3 l W.heap.size mb (W.heap.size + 1) W2 := by
    refine ⟨?_, cell_below hB2 hm1, ?_⟩
    · rw [hW2]; go_simp
    · rw [hW2]; go_simp
  rw [← hW2]
  have hs2 := hB2.size
  refine ⟨trivial, hdd _, ?_⟩
  have hJb : ∀ s A B, J s A → Below A.heap.size A B → J s B := fun s A B h hb => HJ.out s A B none h ⟨hb.os, hb.tape, hb.output, hb.size, fun k hk _ => hb.block k hk⟩ (fun r e => by cases e)
  refine (down_in hn0 rfl (by omega) hm (by omega) hJb (fun m pre x W' hj hlen => yield_any rfl m (HY.out pre x W' hj hlen)) 64 0 rfl L false (.slice p L.length c) (.slice none 0 0) [] W2 (n - 1) ⟨.inl ⟨rfl, rfl⟩, fun b o n c e => by cases e⟩ (by omega) (HB.out.trans (hB2.mono (by have := HB.out.size; omega))) HL.out hOwn (hJb _ _ _ HJ0.out hB2) (by simp)).mono ?_
  rintro e W4 (⟨rfl, ⟨ys2, hys, hJ4⟩, hK4⟩ | ⟨rfl, ys2, hys, hJ4⟩)
  · have HJ4 := Lib.hid hJ4
    have HYS := Lib.hid hys
    clear hJ4 hys hK4
    gi_wp2
    first | go_ret | go_end0
    exact ⟨⟨_, rfl⟩, .inl ⟨ys2, HYS.out, by simpa using HJ4.out⟩⟩
  · have HJ4 := Lib.hid hJ4
    have HYS := Lib.hid hys
    clear hJ4 hys
    gi_wp2
    first | go_ret | go_end0
    exact ⟨⟨_, rfl⟩, .inr ⟨ys2, HYS.out, by simpa using HJ4.out⟩⟩

end Go.Fld
