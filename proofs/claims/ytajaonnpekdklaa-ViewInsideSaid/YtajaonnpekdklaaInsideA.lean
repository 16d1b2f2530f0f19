import Derived.Test.YtajaonnpekdklaaVwD
set_option linter.unusedVariables false
set_option maxRecDepth 100000
namespace Go.Proofs.Ytajaonnpekdklaa.Vw
open Go.ChangeShapes Go.WideShapes Go.ChangeAt Go.RowKit Mem

/-- What stays through the walk: the watch (colour 1), the bytes (colour 0), the walk's own variables (colour 9). -/
structure St (L : Nat → Nat) (w : World) (q : Option Addr) (len cap : Nat) (bs : List UInt8) (wb : Nat) (l : List (Int × Int)) (ks : List (Addr × Value)) (L1 : Nat → Nat) (w1 : World) : Prop where
  watch : WatchAt L1 1 w1 wb l
  rd : Rd L1 0 w1 1 (.slice q len cap) len (bs.map byt)
  step : Step (fun c => 1 ≤ c) L w L1 w1
  kept : ∀ x ∈ ks, w1.cell? x.1 = some x.2 ∧ L1 x.1.block = 9

section
variable {L L1 L2 : Nat → Nat} {w w1 w2 : World} {q : Option Addr} {len cap : Nat} {bs : List UInt8} {wb : Nat} {l l2 : List (Int × Int)} {ks : List (Addr × Value)}
theorem St.on (h : St L w q len cap bs wb l ks L1 w1) {C : Nat → Prop} (st : Step C L1 w1 L2 w2) (h0 : ¬ C 0) (h9 : ¬ C 9) (hw : WatchAt L2 1 w2 wb l2) : St L w q len cap bs wb l2 ks L2 w2 :=
  ⟨hw, h.rd.step st h0, h.step.trans (st.mono (fun c h => Nat.one_le_iff_ne_zero.2 (fun e => h0 (e ▸ h)))), fun x hx => by
    obtain ⟨k1, k2⟩ := h.kept x hx
    have hlt : x.1.block < w1.heap.size := World.block_lt_of_cell? w1 _ k1
    exact ⟨st.cell k1 (by rw [k2]; exact h9), (st.col _ hlt).trans k2⟩⟩
theorem St.below (h : St L w q len cap bs wb l ks L1 w1) (hb : Below w1.heap.size w1 w2) : St L w q len cap bs wb l ks (ext L1 w1.heap.size 9) w2 :=
  have st : Step (fun _ => False) L1 w1 (ext L1 w1.heap.size 9) w2 := Step.of_below hb _ 9
  h.on st (fun h => h) (fun h => h) (h.watch.step st (fun h => h))
theorem St.below' (h : St L w q len cap bs wb l ks L1 w1) (hb : Below w1.heap.size w1 w2) : ∃ L2, St L w q len cap bs wb l ks L2 w2 := ⟨_, h.below hb⟩
theorem St.told (h : St L w q len cap bs wb l ks L1 w1) (hr : Read L1 1 w1 (some wb) l2 w2) : ∃ L2, St L w q len cap bs wb l2 ks L2 w2 := by
  obtain ⟨L2, st, hw⟩ := hr
  exact ⟨L2, h.on st (by decide) (by decide) (hw wb rfl)⟩
theorem St.quiet (h : St L w q len cap bs wb l ks L1 w1) (hr : Read L1 5 w1 none l2 w2) : ∃ L2, St L w q len cap bs wb l ks L2 w2 := by
  obtain ⟨L2, st, _⟩ := hr
  exact ⟨L2, h.on st (by decide) (by decide) (h.watch.step st (by decide))⟩
theorem St.fresh (h : St L w q len cap bs wb l ks L1 w1) {c : Nat} (st : Step (fun _ => False) L1 w1 (ext L1 w1.heap.size c) w2) : St L w q len cap bs wb l ks (ext L1 w1.heap.size c) w2 :=
  h.on st (fun h => h) (fun h => h) (h.watch.step st (fun h => h))
/-- A variable of the walk's own. -/
theorem St.var (h : St L w q len cap bs wb l ks L1 w1) (cs : Array Value) (T : TypeId) (ks2 : List (Addr × Value)) (hk : ∀ x ∈ ks2, ∃ o, x.1 = ⟨w1.heap.size, o, none⟩ ∧ cs[o]? = some x.2) :
    ∃ L2, St L w q len cap bs wb l (ks2 ++ ks) L2 (w1.alloc (.cells cs T)) := by
  have h2 := h.below (below_alloc w1 (.cells cs T))
  refine ⟨_, h2.watch, h2.rd, h2.step, fun x hx => ?_⟩
  rcases List.mem_append.1 hx with hx | hx
  · obtain ⟨o, e1, e2⟩ := hk x hx
    rw [e1]
    exact ⟨by rw [World.cell?_alloc_new]; exact e2, ext_new (Nat.le_refl _)⟩
  · exact h2.kept x hx
theorem St.drewN (h : St L w q len cap bs wb l ks L1 w1) (n : Nat) : St L w q len cap bs wb l ks L1 (w1.drewN n) := h.on ((Step.refl (fun _ => False) L1 w1).drewN n) (fun h => h) (fun h => h) h.watch
end

/-- The beginning of the walk, up to the part. -/
theorem inside_no {L : Nat → Nat} {w : World} {q : Option Addr} {len cap : Nat} {bs : List UInt8} (hr : Rd L 0 w 1 (.slice q len cap) len (bs.map byt)) (hL : ∀ k, k < w.heap.size → L k = 0)
    (f n a m : Int) (hf : -9223372036854775808 ≤ f) (hf2 : f ≤ 9223372036854775807) (hi : insideB f n len = false) :
    Calls Try.prog 6 #[.slice q len cap, .agg #[.int .i64 f, .int .i64 n, .int .i64 a, .int .i64 m]] w fun e w' => e = .returned (.bool true) ∧ Below w.heap.size w w' := by
  obtain ⟨_, _, hv, hn, hm⟩ := hr.shape
  cases hv
  unfold maxLen at hm
  have hq : (¬ 0 ≤ f) ∨ (0 ≤ f ∧ ¬ 0 ≤ n) ∨ (0 ≤ f ∧ 0 ≤ n ∧ ¬ f ≤ len) ∨ (0 ≤ f ∧ 0 ≤ n ∧ f ≤ len ∧ ¬ n ≤ len - f) := by
    simp [insideB] at hi; omega
  have HI := Lib.hid hi
  clear hi
  obtain ⟨wA, hA⟩ : ∃ wA : World, wA = (w.alloc (.cells #[.int .i64 f, .int .i64 n, .int .i64 a, .int .i64 m] 47)) := ⟨_, rfl⟩
  have bA : Below w.heap.size w wA := by rw [hA]; exact below_alloc w _
  have a0 : wA.cell? ⟨w.heap.size, 0, none⟩ = some (.int .i64 f) ∧ wA.cell? ⟨w.heap.size, 1, none⟩ = some (.int .i64 n) ∧ wA.cell? ⟨w.heap.size, 2, none⟩ = some (.int .i64 a) ∧ wA.cell? ⟨w.heap.size, 3, none⟩ = some (.int .i64 m) := by rw [hA]; simp
  obtain ⟨a0, a1, a2, a3⟩ := a0
  have HA := Lib.hid hA
  have BA := Lib.hid bA
  clear hA bA
  go_enter Try.func6, Try.ntmps6
  go_wp2_with fail
  rw [← HA.out]
  go_quiet (fail)
  go_wp2_with fail
  have stA : Step (fun _ => False) L w (ext L w.heap.size 9) (wA.drewN nq) := (Step.of_below BA.out (fun _ => False) 9).drewN nq
  refine (newwatch_calls (ext L w.heap.size 9) 1 (wA.drewN nq)).mono ?_; rintro e w1 ⟨rfl, s1, wt1⟩
  have S1 : St L w q len cap bs wA.heap.size [] [] _ w1 := ⟨wt1, (hr.step stA (by simp)).step s1 (by simp), (stA.trans s1).mono (by simp), fun x hx => by cases hx⟩
  clear s1 wt1 stA
  generalize ext (ext L w.heap.size 9) (wA.drewN nq).heap.size 1 = L1 at *
  go_wp2_with fail
  refine (of_calls q len cap hn hm).mono ?_; rintro e w2 ⟨rfl, b2⟩
  obtain ⟨L2, S2⟩ := S1.below' b2
  clear S1 b2
  go_wp2_with fail
  refine (watched_calls q len len 0 none (some ⟨wA.heap.size, 0, none⟩)).mono ?_; rintro e w3 ⟨rfl, b3⟩
  obtain ⟨L3, S3⟩ := S2.below' b3
  clear S2 b3
  go_wp2_with fail
  obtain ⟨L4, S4⟩ := S3.var #[.slice q len len, .int .i64 0, .pointer (some ⟨wA.heap.size, 0, none⟩)] 51 [(⟨w3.heap.size, 0, none⟩, .slice q len len), (⟨w3.heap.size, 1, none⟩, .int .i64 0), (⟨w3.heap.size, 2, none⟩, .pointer (some ⟨wA.heap.size, 0, none⟩))] (by simp)
  clear S3
  refine (len_calls q len len _ _).mono ?_; rintro e w4 ⟨rfl, b4⟩
  obtain ⟨L5, S5⟩ := S4.below' b4
  clear S4 b4
  generalize w3.heap.size = vb at *
  have k0 := (S5.kept (⟨vb, 0, none⟩, .slice q len len) (by simp)).1
  have k1 := (S5.kept (⟨vb, 1, none⟩, .int .i64 0) (by simp)).1
  have k2 := (S5.kept (⟨vb, 2, none⟩, .pointer (some ⟨wA.heap.size, 0, none⟩)) (by simp)).1
  have hne : ((len : Int) != len) = false := by simp
  go_wp2_with fail
  refine (part_no q len len 0 _ f n (by omega) hf2 HI.out).mono ?_; rintro e w5 ⟨rfl, b5⟩
  obtain ⟨L6, S6⟩ := S5.below' b5
  clear S5 b5 k0 k1 k2
  obtain ⟨L7, S7⟩ := S6.var #[.slice none 0 0, .int .i64 0, .pointer none] 51 [] (by simp)
  clear S6
  rcases hq with q1 | ⟨q1, q2⟩ | ⟨q1, q2, q3⟩ | ⟨q1, q2, q3, q4⟩
  · have d1 : decide (0 ≤ f) = false := by simp; omega
    go_wp2_with fail
    refine (reads_calls L7 1 9 _ S7.watch (by simp)).mono ?_; rintro e w6 ⟨v6, rfl, s6, o6⟩
    have S8 := S7.fresh s6
    obtain ⟨p6, cap6, rfl, _⟩ := ownsRow_shape o6.1
    clear S7 s6 o6
    go_wp2_with fail
    go_ret
    exact ⟨rfl, S8.step.below (Nat.le_refl _) (fun k hk => by rw [hL k hk]; omega)⟩
  · have d1 : decide (0 ≤ n) = false := by simp; omega
    go_wp2_with fail
    refine (reads_calls L7 1 9 _ S7.watch (by simp)).mono ?_; rintro e w6 ⟨v6, rfl, s6, o6⟩
    have S8 := S7.fresh s6
    obtain ⟨p6, cap6, rfl, _⟩ := ownsRow_shape o6.1
    clear S7 s6 o6
    go_wp2_with fail
    go_ret
    exact ⟨rfl, S8.step.below (Nat.le_refl _) (fun k hk => by rw [hL k hk]; omega)⟩
  · have d1 : decide (f ≤ len) = false := by simp; omega
    go_wp2_with fail
    refine (reads_calls L7 1 9 _ S7.watch (by simp)).mono ?_; rintro e w6 ⟨v6, rfl, s6, o6⟩
    have S8 := S7.fresh s6
    obtain ⟨p6, cap6, rfl, _⟩ := ownsRow_shape o6.1
    clear S7 s6 o6
    go_wp2_with fail
    go_ret
    exact ⟨rfl, S8.step.below (Nat.le_refl _) (fun k hk => by rw [hL k hk]; omega)⟩
  · have d1 : decide (n ≤ len - f) = false := by simp; omega
    go_wp2_with fail
    refine (reads_calls L7 1 9 _ S7.watch (by simp)).mono ?_; rintro e w6 ⟨v6, rfl, s6, o6⟩
    have S8 := S7.fresh s6
    obtain ⟨p6, cap6, rfl, _⟩ := ownsRow_shape o6.1
    clear S7 s6 o6
    go_wp2_with fail
    go_ret
    exact ⟨rfl, S8.step.below (Nat.le_refl _) (fun k hk => by rw [hL k hk]; omega)⟩

end Go.Proofs.Ytajaonnpekdklaa.Vw
