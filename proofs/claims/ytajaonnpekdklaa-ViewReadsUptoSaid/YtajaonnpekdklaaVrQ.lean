import Derived.Test.YtajaonnpekdklaaVrN
set_option linter.unusedVariables false
set_option maxRecDepth 100000
/-! A view has told its watch, and made a list that will be the room's (printed by wip/tools/vrq.py). -/
namespace Go.Proofs.Ytajaonnpekdklaa.Vr
open Go.ChangeShapes Go.WideShapes Go.ChangeAt Go.RowKit Mem Vw
section
variable {w0 : World} {mb gb w1 w2 : Nat} {L L' : Nat → Nat} {w w' : World} {s : Rm} {C : Nat → Prop}
theorem numL_lt {bs : List UInt8} {a n : Int} {W z : Nat} (hz : z ∈ numL bs a n W) : z < 256 ^ W := by
  unfold numL at hz
  split at hz
  · unfold nums at hz
    obtain ⟨i, _, rfl⟩ := List.mem_map.1 hz
    refine Nat.lt_of_lt_of_le (leV_lt _) (Nat.pow_le_pow_right (by decide) ?_)
    unfold got; simp; omega
  · cases hz
theorem numL_len {bs : List UInt8} {a n : Int} {W : Nat} (hW : 0 < W) : (numL bs a n W).length ≤ bs.length := by
  unfold numL
  split
  · rename_i h
    obtain ⟨x, y, rfl, rfl, hxy⟩ := numB_true h
    rw [nums_length]
    have : y * 1 ≤ y * W := Nat.mul_le_mul_left _ hW
    simp
    omega
  · simp
theorem rd_num {L : Nat → Nat} {c : Nat} {w : World} {p : Option Addr} {n cap : Nat} {kd : IntKind} {l : List Nat} (h : Rd L c w 1 (.slice p n cap) n (l.map (numVal kd))) {k : Nat} (hk : k < l.length) :
    ∃ b off, p = some ⟨b, off, none⟩ ∧ L b = c ∧ w.cell? ⟨b, off + k, none⟩ = some (.int kd (l[k] : Nat)) := by
  obtain ⟨_, p', cap', hv, _, _, hc⟩ := h
  cases hv
  exact hc k (numVal kd l[k]) (by simp [hk])
theorem mark_num0 (n : Nat) : Value.int .u8 (IntKind.u8.wrap ((n : Int) + 1)) = mark0 n := by
  unfold mark0; congr 1
theorem mark_num1 (n : Nat) : Value.int .u16 (IntKind.u16.wrap ((n : Int) + 1)) = mark1 n := by
  unfold mark1; congr 1
theorem mark_num2 (n : Nat) : Value.int .u32 (((n : Int) + 1) % 4294967296) = mark2 n := by
  unfold mark2; congr 1
theorem mark_num3 (n : Nat) : Value.int .u64 (IntKind.u64.wrap ((n : Int) + 1)) = mark3 n := by
  unfold mark3; congr 1
theorem wc_small (who : Nat) : wc who < 30 := by unfold wc; split <;> (try split) <;> decide

theorem Room.move0 (h : Room w0 mb L w s) (st : Step C L w L' w') (hC : ∀ d, C d → (29 ≤ d ∧ d < 100) ∨ d = 100 + 4 * s.n0.length) :
    Room w0 mb L' w' s := by
  have hn : ∀ d, ((d < 29 ∨ 100 ≤ d) ∧ d ≠ 100 + 4 * s.n0.length) → ¬ C d := fun d hd hc => by have := hC d hc; omega
  exact ⟨h.base.trans (st.mono fun d hd => by have := hC d hd; show d ≠ 0; omega), st.heap h.obj (by rw [h.objc]; exact hn _ (by omega)), (st.col mb (lt_of_heap h.obj)).trans h.objc, h.bytes.step st (hn _ (by omega)), h.list.step st (hn _ (by omega)), h.watch1.step st (hn _ (by omega)), h.watch2.step st (hn _ (by omega)), h.told1.step st (hn _ (by omega)), h.told2.step st (hn _ (by omega)), h.raws.step st (hn _ (by omega)), h.ofs.step st (hn _ (by omega)), h.outer0.step st (hn _ (by omega)), h.outer1.step st (hn _ (by omega)), h.outer2.step st (hn _ (by omega)), h.outer3.step st (hn _ (by omega)), fun i (hi : i < s.n0.length) => (h.inner0 i hi).step st (hn _ (by omega)), fun i (hi : i < s.n1.length) => (h.inner1 i hi).step st (hn _ (by omega)), fun i (hi : i < s.n2.length) => (h.inner2 i hi).step st (hn _ (by omega)), fun i (hi : i < s.n3.length) => (h.inner3 i hi).step st (hn _ (by omega))⟩

theorem Room.put_u1_0 (h : Room w0 mb L w s) {l : List (Int × Int)} (st : Step C L w L' w') (hC : ∀ d, C d → d = 4 ∨ d = 100 + 4 * s.n0.length) (hx : WOpt L' 4 w' s.p1 l) :
    Room w0 mb L' w' { s with u1 := l } := by
  have hn : ∀ d, (d ≠ 4 ∧ d ≠ 100 + 4 * s.n0.length) → ¬ C d := fun d hd hc => by have := hC d hc; omega
  exact ⟨h.base.trans (st.mono fun d hd => by have := hC d hd; show d ≠ 0; omega), st.heap h.obj (by rw [h.objc]; exact hn _ (by omega)), (st.col mb (lt_of_heap h.obj)).trans h.objc, h.bytes.step st (hn _ (by omega)), h.list.step st (hn _ (by omega)), hx, h.watch2.step st (hn _ (by omega)), h.told1.step st (hn _ (by omega)), h.told2.step st (hn _ (by omega)), h.raws.step st (hn _ (by omega)), h.ofs.step st (hn _ (by omega)), h.outer0.step st (hn _ (by omega)), h.outer1.step st (hn _ (by omega)), h.outer2.step st (hn _ (by omega)), h.outer3.step st (hn _ (by omega)), fun i (hi : i < s.n0.length) => (h.inner0 i hi).step st (hn _ (by omega)), fun i (hi : i < s.n1.length) => (h.inner1 i hi).step st (hn _ (by omega)), fun i (hi : i < s.n2.length) => (h.inner2 i hi).step st (hn _ (by omega)), fun i (hi : i < s.n3.length) => (h.inner3 i hi).step st (hn _ (by omega))⟩

theorem Room.put_u2_0 (h : Room w0 mb L w s) {l : List (Int × Int)} (st : Step C L w L' w') (hC : ∀ d, C d → d = 5 ∨ d = 100 + 4 * s.n0.length) (hx : WOpt L' 5 w' s.p2 l) :
    Room w0 mb L' w' { s with u2 := l } := by
  have hn : ∀ d, (d ≠ 5 ∧ d ≠ 100 + 4 * s.n0.length) → ¬ C d := fun d hd hc => by have := hC d hc; omega
  exact ⟨h.base.trans (st.mono fun d hd => by have := hC d hd; show d ≠ 0; omega), st.heap h.obj (by rw [h.objc]; exact hn _ (by omega)), (st.col mb (lt_of_heap h.obj)).trans h.objc, h.bytes.step st (hn _ (by omega)), h.list.step st (hn _ (by omega)), h.watch1.step st (hn _ (by omega)), hx, h.told1.step st (hn _ (by omega)), h.told2.step st (hn _ (by omega)), h.raws.step st (hn _ (by omega)), h.ofs.step st (hn _ (by omega)), h.outer0.step st (hn _ (by omega)), h.outer1.step st (hn _ (by omega)), h.outer2.step st (hn _ (by omega)), h.outer3.step st (hn _ (by omega)), fun i (hi : i < s.n0.length) => (h.inner0 i hi).step st (hn _ (by omega)), fun i (hi : i < s.n1.length) => (h.inner1 i hi).step st (hn _ (by omega)), fun i (hi : i < s.n2.length) => (h.inner2 i hi).step st (hn _ (by omega)), fun i (hi : i < s.n3.length) => (h.inner3 i hi).step st (hn _ (by omega))⟩

theorem Room.tells0 (h : Room w0 mb L w s) (g : Good gb w1 w2 s) {e : En} (he : Ent gb s.N w1 w2 e) {l : List (Int × Int)} (st : Step (fun d => d = wc e.who ∨ d = 100 + 4 * s.n0.length) L w L' w') (hW : WOpt L' (wc e.who) w' e.p l) :
    Room w0 mb L' w' (s.setU e.who l) := by
  rw [he.p] at hW
  have hw := he.who
  have : e.who = 0 ∨ e.who = 1 ∨ e.who = 2 := by omega
  rcases this with hw | hw | hw <;> rw [hw] at st hW ⊢
  · exact h.move0 st (fun d hd => by rcases hd with hd | hd; left; rw [hd]; decide; exact .inr hd)
  · exact h.put_u1_0 st (fun d hd => hd) (by rw [g.p1]; exact hW)
  · exact h.put_u2_0 st (fun d hd => hd) (by rw [g.p2]; exact hW)

theorem num_good0 (v : Value) (l : List (Value × Nat)) (g : Good gb w1 w2 s) : Good gb w1 w2 { s with k0 := v, n0 := l } :=
  ⟨g.len, g.marks, g.av, g.small, g.p1, g.p2, g.ents, g.pos, g.most, g.e1, g.e2, g.rlen, g.raws⟩
theorem num_comm0 (who : Nat) (l : List (Int × Int)) (v x : Value) (y : List (Value × Nat)) (l2 : List (Int × Int)) : ({ s.setU who l with k0 := x, n0 := y } : Rm).setT who v l2 = { (s.setU who l).setT who v l2 with k0 := x, n0 := y } := by
  unfold Rm.setT Rm.setU; split <;> (try split) <;> rfl
theorem num_bound0 {K : Nat} (b : Bound s K) (v x : Value) (m : Nat) (hm : m ≤ 1048576) : Bound { s with k0 := v, n0 := s.n0 ++ [(x, m)] } (K + 1) := by
  have hb := b.mono (Nat.le_succ K)
  refine ⟨hb.t1, hb.t2, hb.rl, by have := b.n0; simp; omega, hb.n1, hb.n2, hb.n3, ?_, b.m1, b.m2, b.m3⟩
  intro z hz
  rcases List.mem_append.1 hz with hz | hz
  · exact b.m0 z hz
  · rw [List.mem_singleton.1 hz]; exact hm

theorem Room.move1 (h : Room w0 mb L w s) (st : Step C L w L' w') (hC : ∀ d, C d → (29 ≤ d ∧ d < 100) ∨ d = 101 + 4 * s.n1.length) :
    Room w0 mb L' w' s := by
  have hn : ∀ d, ((d < 29 ∨ 100 ≤ d) ∧ d ≠ 101 + 4 * s.n1.length) → ¬ C d := fun d hd hc => by have := hC d hc; omega
  exact ⟨h.base.trans (st.mono fun d hd => by have := hC d hd; show d ≠ 0; omega), st.heap h.obj (by rw [h.objc]; exact hn _ (by omega)), (st.col mb (lt_of_heap h.obj)).trans h.objc, h.bytes.step st (hn _ (by omega)), h.list.step st (hn _ (by omega)), h.watch1.step st (hn _ (by omega)), h.watch2.step st (hn _ (by omega)), h.told1.step st (hn _ (by omega)), h.told2.step st (hn _ (by omega)), h.raws.step st (hn _ (by omega)), h.ofs.step st (hn _ (by omega)), h.outer0.step st (hn _ (by omega)), h.outer1.step st (hn _ (by omega)), h.outer2.step st (hn _ (by omega)), h.outer3.step st (hn _ (by omega)), fun i (hi : i < s.n0.length) => (h.inner0 i hi).step st (hn _ (by omega)), fun i (hi : i < s.n1.length) => (h.inner1 i hi).step st (hn _ (by omega)), fun i (hi : i < s.n2.length) => (h.inner2 i hi).step st (hn _ (by omega)), fun i (hi : i < s.n3.length) => (h.inner3 i hi).step st (hn _ (by omega))⟩

theorem Room.put_u1_1 (h : Room w0 mb L w s) {l : List (Int × Int)} (st : Step C L w L' w') (hC : ∀ d, C d → d = 4 ∨ d = 101 + 4 * s.n1.length) (hx : WOpt L' 4 w' s.p1 l) :
    Room w0 mb L' w' { s with u1 := l } := by
  have hn : ∀ d, (d ≠ 4 ∧ d ≠ 101 + 4 * s.n1.length) → ¬ C d := fun d hd hc => by have := hC d hc; omega
  exact ⟨h.base.trans (st.mono fun d hd => by have := hC d hd; show d ≠ 0; omega), st.heap h.obj (by rw [h.objc]; exact hn _ (by omega)), (st.col mb (lt_of_heap h.obj)).trans h.objc, h.bytes.step st (hn _ (by omega)), h.list.step st (hn _ (by omega)), hx, h.watch2.step st (hn _ (by omega)), h.told1.step st (hn _ (by omega)), h.told2.step st (hn _ (by omega)), h.raws.step st (hn _ (by omega)), h.ofs.step st (hn _ (by omega)), h.outer0.step st (hn _ (by omega)), h.outer1.step st (hn _ (by omega)), h.outer2.step st (hn _ (by omega)), h.outer3.step st (hn _ (by omega)), fun i (hi : i < s.n0.length) => (h.inner0 i hi).step st (hn _ (by omega)), fun i (hi : i < s.n1.length) => (h.inner1 i hi).step st (hn _ (by omega)), fun i (hi : i < s.n2.length) => (h.inner2 i hi).step st (hn _ (by omega)), fun i (hi : i < s.n3.length) => (h.inner3 i hi).step st (hn _ (by omega))⟩

theorem Room.put_u2_1 (h : Room w0 mb L w s) {l : List (Int × Int)} (st : Step C L w L' w') (hC : ∀ d, C d → d = 5 ∨ d = 101 + 4 * s.n1.length) (hx : WOpt L' 5 w' s.p2 l) :
    Room w0 mb L' w' { s with u2 := l } := by
  have hn : ∀ d, (d ≠ 5 ∧ d ≠ 101 + 4 * s.n1.length) → ¬ C d := fun d hd hc => by have := hC d hc; omega
  exact ⟨h.base.trans (st.mono fun d hd => by have := hC d hd; show d ≠ 0; omega), st.heap h.obj (by rw [h.objc]; exact hn _ (by omega)), (st.col mb (lt_of_heap h.obj)).trans h.objc, h.bytes.step st (hn _ (by omega)), h.list.step st (hn _ (by omega)), h.watch1.step st (hn _ (by omega)), hx, h.told1.step st (hn _ (by omega)), h.told2.step st (hn _ (by omega)), h.raws.step st (hn _ (by omega)), h.ofs.step st (hn _ (by omega)), h.outer0.step st (hn _ (by omega)), h.outer1.step st (hn _ (by omega)), h.outer2.step st (hn _ (by omega)), h.outer3.step st (hn _ (by omega)), fun i (hi : i < s.n0.length) => (h.inner0 i hi).step st (hn _ (by omega)), fun i (hi : i < s.n1.length) => (h.inner1 i hi).step st (hn _ (by omega)), fun i (hi : i < s.n2.length) => (h.inner2 i hi).step st (hn _ (by omega)), fun i (hi : i < s.n3.length) => (h.inner3 i hi).step st (hn _ (by omega))⟩

theorem Room.tells1 (h : Room w0 mb L w s) (g : Good gb w1 w2 s) {e : En} (he : Ent gb s.N w1 w2 e) {l : List (Int × Int)} (st : Step (fun d => d = wc e.who ∨ d = 101 + 4 * s.n1.length) L w L' w') (hW : WOpt L' (wc e.who) w' e.p l) :
    Room w0 mb L' w' (s.setU e.who l) := by
  rw [he.p] at hW
  have hw := he.who
  have : e.who = 0 ∨ e.who = 1 ∨ e.who = 2 := by omega
  rcases this with hw | hw | hw <;> rw [hw] at st hW ⊢
  · exact h.move1 st (fun d hd => by rcases hd with hd | hd; left; rw [hd]; decide; exact .inr hd)
  · exact h.put_u1_1 st (fun d hd => hd) (by rw [g.p1]; exact hW)
  · exact h.put_u2_1 st (fun d hd => hd) (by rw [g.p2]; exact hW)

theorem num_good1 (v : Value) (l : List (Value × Nat)) (g : Good gb w1 w2 s) : Good gb w1 w2 { s with k1 := v, n1 := l } :=
  ⟨g.len, g.marks, g.av, g.small, g.p1, g.p2, g.ents, g.pos, g.most, g.e1, g.e2, g.rlen, g.raws⟩
theorem num_comm1 (who : Nat) (l : List (Int × Int)) (v x : Value) (y : List (Value × Nat)) (l2 : List (Int × Int)) : ({ s.setU who l with k1 := x, n1 := y } : Rm).setT who v l2 = { (s.setU who l).setT who v l2 with k1 := x, n1 := y } := by
  unfold Rm.setT Rm.setU; split <;> (try split) <;> rfl
theorem num_bound1 {K : Nat} (b : Bound s K) (v x : Value) (m : Nat) (hm : m ≤ 1048576) : Bound { s with k1 := v, n1 := s.n1 ++ [(x, m)] } (K + 1) := by
  have hb := b.mono (Nat.le_succ K)
  refine ⟨hb.t1, hb.t2, hb.rl, hb.n0, by have := b.n1; simp; omega, hb.n2, hb.n3, b.m0, ?_, b.m2, b.m3⟩
  intro z hz
  rcases List.mem_append.1 hz with hz | hz
  · exact b.m1 z hz
  · rw [List.mem_singleton.1 hz]; exact hm

theorem Room.move2 (h : Room w0 mb L w s) (st : Step C L w L' w') (hC : ∀ d, C d → (29 ≤ d ∧ d < 100) ∨ d = 102 + 4 * s.n2.length) :
    Room w0 mb L' w' s := by
  have hn : ∀ d, ((d < 29 ∨ 100 ≤ d) ∧ d ≠ 102 + 4 * s.n2.length) → ¬ C d := fun d hd hc => by have := hC d hc; omega
  exact ⟨h.base.trans (st.mono fun d hd => by have := hC d hd; show d ≠ 0; omega), st.heap h.obj (by rw [h.objc]; exact hn _ (by omega)), (st.col mb (lt_of_heap h.obj)).trans h.objc, h.bytes.step st (hn _ (by omega)), h.list.step st (hn _ (by omega)), h.watch1.step st (hn _ (by omega)), h.watch2.step st (hn _ (by omega)), h.told1.step st (hn _ (by omega)), h.told2.step st (hn _ (by omega)), h.raws.step st (hn _ (by omega)), h.ofs.step st (hn _ (by omega)), h.outer0.step st (hn _ (by omega)), h.outer1.step st (hn _ (by omega)), h.outer2.step st (hn _ (by omega)), h.outer3.step st (hn _ (by omega)), fun i (hi : i < s.n0.length) => (h.inner0 i hi).step st (hn _ (by omega)), fun i (hi : i < s.n1.length) => (h.inner1 i hi).step st (hn _ (by omega)), fun i (hi : i < s.n2.length) => (h.inner2 i hi).step st (hn _ (by omega)), fun i (hi : i < s.n3.length) => (h.inner3 i hi).step st (hn _ (by omega))⟩

theorem Room.put_u1_2 (h : Room w0 mb L w s) {l : List (Int × Int)} (st : Step C L w L' w') (hC : ∀ d, C d → d = 4 ∨ d = 102 + 4 * s.n2.length) (hx : WOpt L' 4 w' s.p1 l) :
    Room w0 mb L' w' { s with u1 := l } := by
  have hn : ∀ d, (d ≠ 4 ∧ d ≠ 102 + 4 * s.n2.length) → ¬ C d := fun d hd hc => by have := hC d hc; omega
  exact ⟨h.base.trans (st.mono fun d hd => by have := hC d hd; show d ≠ 0; omega), st.heap h.obj (by rw [h.objc]; exact hn _ (by omega)), (st.col mb (lt_of_heap h.obj)).trans h.objc, h.bytes.step st (hn _ (by omega)), h.list.step st (hn _ (by omega)), hx, h.watch2.step st (hn _ (by omega)), h.told1.step st (hn _ (by omega)), h.told2.step st (hn _ (by omega)), h.raws.step st (hn _ (by omega)), h.ofs.step st (hn _ (by omega)), h.outer0.step st (hn _ (by omega)), h.outer1.step st (hn _ (by omega)), h.outer2.step st (hn _ (by omega)), h.outer3.step st (hn _ (by omega)), fun i (hi : i < s.n0.length) => (h.inner0 i hi).step st (hn _ (by omega)), fun i (hi : i < s.n1.length) => (h.inner1 i hi).step st (hn _ (by omega)), fun i (hi : i < s.n2.length) => (h.inner2 i hi).step st (hn _ (by omega)), fun i (hi : i < s.n3.length) => (h.inner3 i hi).step st (hn _ (by omega))⟩

theorem Room.put_u2_2 (h : Room w0 mb L w s) {l : List (Int × Int)} (st : Step C L w L' w') (hC : ∀ d, C d → d = 5 ∨ d = 102 + 4 * s.n2.length) (hx : WOpt L' 5 w' s.p2 l) :
    Room w0 mb L' w' { s with u2 := l } := by
  have hn : ∀ d, (d ≠ 5 ∧ d ≠ 102 + 4 * s.n2.length) → ¬ C d := fun d hd hc => by have := hC d hc; omega
  exact ⟨h.base.trans (st.mono fun d hd => by have := hC d hd; show d ≠ 0; omega), st.heap h.obj (by rw [h.objc]; exact hn _ (by omega)), (st.col mb (lt_of_heap h.obj)).trans h.objc, h.bytes.step st (hn _ (by omega)), h.list.step st (hn _ (by omega)), h.watch1.step st (hn _ (by omega)), hx, h.told1.step st (hn _ (by omega)), h.told2.step st (hn _ (by omega)), h.raws.step st (hn _ (by omega)), h.ofs.step st (hn _ (by omega)), h.outer0.step st (hn _ (by omega)), h.outer1.step st (hn _ (by omega)), h.outer2.step st (hn _ (by omega)), h.outer3.step st (hn _ (by omega)), fun i (hi : i < s.n0.length) => (h.inner0 i hi).step st (hn _ (by omega)), fun i (hi : i < s.n1.length) => (h.inner1 i hi).step st (hn _ (by omega)), fun i (hi : i < s.n2.length) => (h.inner2 i hi).step st (hn _ (by omega)), fun i (hi : i < s.n3.length) => (h.inner3 i hi).step st (hn _ (by omega))⟩

theorem Room.tells2 (h : Room w0 mb L w s) (g : Good gb w1 w2 s) {e : En} (he : Ent gb s.N w1 w2 e) {l : List (Int × Int)} (st : Step (fun d => d = wc e.who ∨ d = 102 + 4 * s.n2.length) L w L' w') (hW : WOpt L' (wc e.who) w' e.p l) :
    Room w0 mb L' w' (s.setU e.who l) := by
  rw [he.p] at hW
  have hw := he.who
  have : e.who = 0 ∨ e.who = 1 ∨ e.who = 2 := by omega
  rcases this with hw | hw | hw <;> rw [hw] at st hW ⊢
  · exact h.move2 st (fun d hd => by rcases hd with hd | hd; left; rw [hd]; decide; exact .inr hd)
  · exact h.put_u1_2 st (fun d hd => hd) (by rw [g.p1]; exact hW)
  · exact h.put_u2_2 st (fun d hd => hd) (by rw [g.p2]; exact hW)

theorem num_good2 (v : Value) (l : List (Value × Nat)) (g : Good gb w1 w2 s) : Good gb w1 w2 { s with k2 := v, n2 := l } :=
  ⟨g.len, g.marks, g.av, g.small, g.p1, g.p2, g.ents, g.pos, g.most, g.e1, g.e2, g.rlen, g.raws⟩
theorem num_comm2 (who : Nat) (l : List (Int × Int)) (v x : Value) (y : List (Value × Nat)) (l2 : List (Int × Int)) : ({ s.setU who l with k2 := x, n2 := y } : Rm).setT who v l2 = { (s.setU who l).setT who v l2 with k2 := x, n2 := y } := by
  unfold Rm.setT Rm.setU; split <;> (try split) <;> rfl
theorem num_bound2 {K : Nat} (b : Bound s K) (v x : Value) (m : Nat) (hm : m ≤ 1048576) : Bound { s with k2 := v, n2 := s.n2 ++ [(x, m)] } (K + 1) := by
  have hb := b.mono (Nat.le_succ K)
  refine ⟨hb.t1, hb.t2, hb.rl, hb.n0, hb.n1, by have := b.n2; simp; omega, hb.n3, b.m0, b.m1, ?_, b.m3⟩
  intro z hz
  rcases List.mem_append.1 hz with hz | hz
  · exact b.m2 z hz
  · rw [List.mem_singleton.1 hz]; exact hm

theorem Room.move3 (h : Room w0 mb L w s) (st : Step C L w L' w') (hC : ∀ d, C d → (29 ≤ d ∧ d < 100) ∨ d = 103 + 4 * s.n3.length) :
    Room w0 mb L' w' s := by
  have hn : ∀ d, ((d < 29 ∨ 100 ≤ d) ∧ d ≠ 103 + 4 * s.n3.length) → ¬ C d := fun d hd hc => by have := hC d hc; omega
  exact ⟨h.base.trans (st.mono fun d hd => by have := hC d hd; show d ≠ 0; omega), st.heap h.obj (by rw [h.objc]; exact hn _ (by omega)), (st.col mb (lt_of_heap h.obj)).trans h.objc, h.bytes.step st (hn _ (by omega)), h.list.step st (hn _ (by omega)), h.watch1.step st (hn _ (by omega)), h.watch2.step st (hn _ (by omega)), h.told1.step st (hn _ (by omega)), h.told2.step st (hn _ (by omega)), h.raws.step st (hn _ (by omega)), h.ofs.step st (hn _ (by omega)), h.outer0.step st (hn _ (by omega)), h.outer1.step st (hn _ (by omega)), h.outer2.step st (hn _ (by omega)), h.outer3.step st (hn _ (by omega)), fun i (hi : i < s.n0.length) => (h.inner0 i hi).step st (hn _ (by omega)), fun i (hi : i < s.n1.length) => (h.inner1 i hi).step st (hn _ (by omega)), fun i (hi : i < s.n2.length) => (h.inner2 i hi).step st (hn _ (by omega)), fun i (hi : i < s.n3.length) => (h.inner3 i hi).step st (hn _ (by omega))⟩

theorem Room.put_u1_3 (h : Room w0 mb L w s) {l : List (Int × Int)} (st : Step C L w L' w') (hC : ∀ d, C d → d = 4 ∨ d = 103 + 4 * s.n3.length) (hx : WOpt L' 4 w' s.p1 l) :
    Room w0 mb L' w' { s with u1 := l } := by
  have hn : ∀ d, (d ≠ 4 ∧ d ≠ 103 + 4 * s.n3.length) → ¬ C d := fun d hd hc => by have := hC d hc; omega
  exact ⟨h.base.trans (st.mono fun d hd => by have := hC d hd; show d ≠ 0; omega), st.heap h.obj (by rw [h.objc]; exact hn _ (by omega)), (st.col mb (lt_of_heap h.obj)).trans h.objc, h.bytes.step st (hn _ (by omega)), h.list.step st (hn _ (by omega)), hx, h.watch2.step st (hn _ (by omega)), h.told1.step st (hn _ (by omega)), h.told2.step st (hn _ (by omega)), h.raws.step st (hn _ (by omega)), h.ofs.step st (hn _ (by omega)), h.outer0.step st (hn _ (by omega)), h.outer1.step st (hn _ (by omega)), h.outer2.step st (hn _ (by omega)), h.outer3.step st (hn _ (by omega)), fun i (hi : i < s.n0.length) => (h.inner0 i hi).step st (hn _ (by omega)), fun i (hi : i < s.n1.length) => (h.inner1 i hi).step st (hn _ (by omega)), fun i (hi : i < s.n2.length) => (h.inner2 i hi).step st (hn _ (by omega)), fun i (hi : i < s.n3.length) => (h.inner3 i hi).step st (hn _ (by omega))⟩

theorem Room.put_u2_3 (h : Room w0 mb L w s) {l : List (Int × Int)} (st : Step C L w L' w') (hC : ∀ d, C d → d = 5 ∨ d = 103 + 4 * s.n3.length) (hx : WOpt L' 5 w' s.p2 l) :
    Room w0 mb L' w' { s with u2 := l } := by
  have hn : ∀ d, (d ≠ 5 ∧ d ≠ 103 + 4 * s.n3.length) → ¬ C d := fun d hd hc => by have := hC d hc; omega
  exact ⟨h.base.trans (st.mono fun d hd => by have := hC d hd; show d ≠ 0; omega), st.heap h.obj (by rw [h.objc]; exact hn _ (by omega)), (st.col mb (lt_of_heap h.obj)).trans h.objc, h.bytes.step st (hn _ (by omega)), h.list.step st (hn _ (by omega)), h.watch1.step st (hn _ (by omega)), hx, h.told1.step st (hn _ (by omega)), h.told2.step st (hn _ (by omega)), h.raws.step st (hn _ (by omega)), h.ofs.step st (hn _ (by omega)), h.outer0.step st (hn _ (by omega)), h.outer1.step st (hn _ (by omega)), h.outer2.step st (hn _ (by omega)), h.outer3.step st (hn _ (by omega)), fun i (hi : i < s.n0.length) => (h.inner0 i hi).step st (hn _ (by omega)), fun i (hi : i < s.n1.length) => (h.inner1 i hi).step st (hn _ (by omega)), fun i (hi : i < s.n2.length) => (h.inner2 i hi).step st (hn _ (by omega)), fun i (hi : i < s.n3.length) => (h.inner3 i hi).step st (hn _ (by omega))⟩

theorem Room.tells3 (h : Room w0 mb L w s) (g : Good gb w1 w2 s) {e : En} (he : Ent gb s.N w1 w2 e) {l : List (Int × Int)} (st : Step (fun d => d = wc e.who ∨ d = 103 + 4 * s.n3.length) L w L' w') (hW : WOpt L' (wc e.who) w' e.p l) :
    Room w0 mb L' w' (s.setU e.who l) := by
  rw [he.p] at hW
  have hw := he.who
  have : e.who = 0 ∨ e.who = 1 ∨ e.who = 2 := by omega
  rcases this with hw | hw | hw <;> rw [hw] at st hW ⊢
  · exact h.move3 st (fun d hd => by rcases hd with hd | hd; left; rw [hd]; decide; exact .inr hd)
  · exact h.put_u1_3 st (fun d hd => hd) (by rw [g.p1]; exact hW)
  · exact h.put_u2_3 st (fun d hd => hd) (by rw [g.p2]; exact hW)

theorem num_good3 (v : Value) (l : List (Value × Nat)) (g : Good gb w1 w2 s) : Good gb w1 w2 { s with k3 := v, n3 := l } :=
  ⟨g.len, g.marks, g.av, g.small, g.p1, g.p2, g.ents, g.pos, g.most, g.e1, g.e2, g.rlen, g.raws⟩
theorem num_comm3 (who : Nat) (l : List (Int × Int)) (v x : Value) (y : List (Value × Nat)) (l2 : List (Int × Int)) : ({ s.setU who l with k3 := x, n3 := y } : Rm).setT who v l2 = { (s.setU who l).setT who v l2 with k3 := x, n3 := y } := by
  unfold Rm.setT Rm.setU; split <;> (try split) <;> rfl
theorem num_bound3 {K : Nat} (b : Bound s K) (v x : Value) (m : Nat) (hm : m ≤ 1048576) : Bound { s with k3 := v, n3 := s.n3 ++ [(x, m)] } (K + 1) := by
  have hb := b.mono (Nat.le_succ K)
  refine ⟨hb.t1, hb.t2, hb.rl, hb.n0, hb.n1, hb.n2, by have := b.n3; simp; omega, b.m0, b.m1, b.m2, ?_⟩
  intro z hz
  rcases List.mem_append.1 hz with hz | hz
  · exact b.m3 z hz
  · rw [List.mem_singleton.1 hz]; exact hm

end
end Go.Proofs.Ytajaonnpekdklaa.Vr
