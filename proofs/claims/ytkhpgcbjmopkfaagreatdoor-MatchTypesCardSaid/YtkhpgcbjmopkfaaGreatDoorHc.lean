import Derived.Test.YtkhpgcbjmopkfaaGreatDoorHb
set_option linter.unusedVariables false
set_option maxRecDepth 100000
/-!
  ARE TWO BARE TYPES ALIKE? No conditions.
-/
namespace Go.Fld
open Go Go.RowKit Go.Proofs Go.ChangeShapes Go.WideShapes Go.ChangeAt Go.Shelf
attribute [local go_sem] run_eqlBool

/-- Are the types of two fields the same in all? -/
def eqT (f g : Fd) : Bool := ((((f.k == g.k) && (f.wd == g.wd)) && (f.id == g.id)) && (f.ix == g.ix)) && eqL f.kids g.kids
theorem eqT_def (f g : Fd) : eqT f g = (((((f.k == g.k) && (f.wd == g.wd)) && (f.id == g.id)) && (f.ix == g.ix)) && eqL f.kids g.kids) := rfl
theorem eqF_T (f g : Fd) : eqF f g = (((f.nm.toList == g.nm.toList) && (f.nl == g.nl)) && eqT f g) := by
  rw [eqF_eq, eqT_def]
  simp only [Bool.and_assoc]

set_option maxHeartbeats 1000000 in
/-- Two fields, of whose types it is known. -/
theorem pair_calls {w : World} {f g : Fd} {p1 p2 : Option Addr} {c1 c2 : Nat} (h1 : FdAt w f [.string f.nm, .bool f.nl, .int .i64 f.k, .int .i64 f.wd, .int .i64 f.id, .int .i64 f.ix, .slice p1 f.kids.length c1]) (h2 : FdAt w g [.string g.nm, .bool g.nl, .int .i64 g.k, .int .i64 g.wd, .int .i64 g.id, .int .i64 g.ix, .slice p2 g.kids.length c2])
    (hT : ∀ w : World, FdAt w f [.string f.nm, .bool f.nl, .int .i64 f.k, .int .i64 f.wd, .int .i64 f.id, .int .i64 f.ix, .slice p1 f.kids.length c1] → FdAt w g [.string g.nm, .bool g.nl, .int .i64 g.k, .int .i64 g.wd, .int .i64 g.id, .int .i64 g.ix, .slice p2 g.kids.length c2] → Calls Tryz.prog 31 #[.agg #[.int .i64 f.k, .int .i64 f.wd, .int .i64 f.id, .int .i64 f.ix, .slice p1 f.kids.length c1], .agg #[.int .i64 g.k, .int .i64 g.wd, .int .i64 g.id, .int .i64 g.ix, .slice p2 g.kids.length c2]] w (BoolPost w (eqT f g))) :
    Calls Tryz.prog 41 #[.agg #[.string f.nm, .bool f.nl, .int .i64 f.k, .int .i64 f.wd, .int .i64 f.id, .int .i64 f.ix, .slice p1 f.kids.length c1], .agg #[.string g.nm, .bool g.nl, .int .i64 g.k, .int .i64 g.wd, .int .i64 g.id, .int .i64 g.ix, .slice p2 g.kids.length c2]] w (BoolPost w (eqF f g)) := by
  have H1 := Lib.hid h1
  have H2 := Lib.hid h2
  have HT := Lib.hid hT
  clear h1 h2 hT
  have hBW : Below w.heap.size w ((w.alloc (.cells #[.string f.nm, .bool f.nl, .int .i64 f.k, .int .i64 f.wd, .int .i64 f.id, .int .i64 f.ix, .slice p1 f.kids.length c1] 59)).alloc (.cells #[.string g.nm, .bool g.nl, .int .i64 g.k, .int .i64 g.wd, .int .i64 g.id, .int .i64 g.ix, .slice p2 g.kids.length c2] 59)) := ((Below.refl _ w).alloc (Nat.le_refl _) _).alloc (by simp) _
  have HBW := Lib.hid hBW
  clear hBW
  cases q0 : (f.nm.toList == g.nm.toList) with
  | false =>
    have HE1 := Lib.hid (show eqF f g = false by rw [eqF_T]; simp [q0])
    go_enter Tryz.func41, Tryz.ntmps41
    go_wp2_with fail
    go_ret
    exact bool_post HE1.out.symm HBW.out
  | true =>
    cases q1 : (f.nl == g.nl) with
    | false =>
      have HE1 := Lib.hid (show eqF f g = false by rw [eqF_T]; simp [q0, q1])
      go_enter Tryz.func41, Tryz.ntmps41
      go_wp2_with fail
      go_ret
      exact bool_post HE1.out.symm HBW.out
    | true =>
      have HE1 := Lib.hid (show eqF f g = eqT f g by rw [eqF_T]; simp [q0, q1])
      go_enter Tryz.func41, Tryz.ntmps41
      go_wp2_with fail
      refine (HT.out _ (H1.out.below HBW.out) (H2.out.below HBW.out)).mono ?_
      rintro e W9 ⟨rfl, hb9⟩
      have HB9 := Lib.hid (HBW.out.trans (hb9.mono HBW.out.size))
      generalize eqT f g = t at *
      clear hb9
      go_wp2_with fail
      go_ret
      exact bool_post HE1.out.symm HB9.out

set_option maxHeartbeats 1000000 in
theorem pairs_calls {w : World} {L R : List Fd} {v1 v2 : Value} (h1 : FdsAt w L v1) (h2 : FdsAt w R v2)
    (ih : ∀ f ∈ L, ∀ (g : Fd) (w : World) (p1 p2 : Option Addr) (c1 c2 : Nat), FdAt w f [.string f.nm, .bool f.nl, .int .i64 f.k, .int .i64 f.wd, .int .i64 f.id, .int .i64 f.ix, .slice p1 f.kids.length c1] → FdAt w g [.string g.nm, .bool g.nl, .int .i64 g.k, .int .i64 g.wd, .int .i64 g.id, .int .i64 g.ix, .slice p2 g.kids.length c2] → Calls Tryz.prog 31 #[.agg #[.int .i64 f.k, .int .i64 f.wd, .int .i64 f.id, .int .i64 f.ix, .slice p1 f.kids.length c1], .agg #[.int .i64 g.k, .int .i64 g.wd, .int .i64 g.id, .int .i64 g.ix, .slice p2 g.kids.length c2]] w (BoolPost w (eqT f g))) :
    Calls Tryz.prog 40 #[v1, v2, .func (.func 41) #[] #[]] w (BoolPost w (eqL L R)) := by
  obtain ⟨q1, e1, rfl, hl1, hm1, hC1⟩ := h1
  obtain ⟨q2, e2, rfl, hl2, hm2, hC2⟩ := h2
  unfold maxLen at hm1 hm2
  have H1 := Lib.hid hC1
  have H2 := Lib.hid hC2
  have HI := Lib.hid ih
  clear hC1 hC2 ih
  by_cases hlen : L.length ≠ R.length
  · have HE := Lib.hid (eqL_len hlen)
    have hn : ((L.length : Int) == (R.length : Int)) = false := by simp; omega
    have hn2 : ((L.length : Int) != (R.length : Int)) = true := by simp; omega
    go_enter Tryz.func40, Tryz.ntmps40
    go_wp2_with fail
    go_ret
    exact bool_post HE.out.symm (Below.refl _ _)
  have hlen : L.length = R.length := by omega
  have HL := Lib.hid hlen
  have hn : ((L.length : Int) == (R.length : Int)) = true := by simp; omega
  have hn2 : ((L.length : Int) != (R.length : Int)) = false := by simp; omega
  clear hlen
  go_enter Tryz.func40, Tryz.ntmps40
  go_wp2_with fail
  clear hn hn2
  go_loopw [17] (fun i wr => ∃ k : Nat, k ≤ L.length ∧ i = .int .i64 k ∧ Hid (Below w.heap.size w wr) ∧ Hid (∀ (j : Nat) (hj : j < L.length) (hj2 : j < R.length), j < k → eqF L[j] R[j] = true)) (fun i _ => L.length - (intOf i).toNat)
  case atStart => exact ⟨0, by omega, rfl, Lib.hid (Below.refl _ _), Lib.hid (fun j _ _ h => absurd h (Nat.not_lt_zero _))⟩
  case round =>
    obtain ⟨k, hk, rfl, HB, HA⟩ := hrel
    by_cases hlt : k < L.length
    · have hlt2 : k < R.length := by have := HL.out; omega
      obtain ⟨b1, o1, p1, c1, rfl, f1, x0, x1, x2, x3, x4, x5, x6⟩ := H1.out.seven k hlt
      obtain ⟨b2, o2, p2, c2, rfl, f2, y0, y1, y2, y3, y4, y5, y6⟩ := H2.out.seven k hlt2
      have HIG := Lib.hid (HI.out L[k] (List.getElem_mem hlt) R[k])
      have F1 := Lib.hid (f1.below HB.out)
      have F2 := Lib.hid (f2.below HB.out)
      have hnx : eqF L[k] R[k] = true → ∀ (j : Nat) (hj : j < L.length) (hj2 : j < R.length), j < k + 1 → eqF L[j] R[j] = true := fun ht j hj hj2 hjk => by
        by_cases e : j = k
        · subst e; exact ht
        · exact HA.out j hj hj2 (by omega)
      have Next := Lib.hid hnx
      have Bad := Lib.hid (fun hf => eqL_at k hlt hlt2 hf)
      clear hnx
      generalize L[k] = f at *
      generalize R[k] = g at *
      have x0 := cell_below HB.out x0
      have x1 := cell_below HB.out x1
      have x2 := cell_below HB.out x2
      have x3 := cell_below HB.out x3
      have x4 := cell_below HB.out x4
      have x5 := cell_below HB.out x5
      have x6 := cell_below HB.out x6
      have y0 := cell_below HB.out y0
      have y1 := cell_below HB.out y1
      have y2 := cell_below HB.out y2
      have y3 := cell_below HB.out y3
      have y4 := cell_below HB.out y4
      have y5 := cell_below HB.out y5
      have y6 := cell_below HB.out y6
      have hlb2 := World.block_lt_of_cell? wr _ y0
      clear f1 f2
      go_wp2_with fail
      have hb8 : Below wr.heap.size wr ((wr.alloc (.cells #[.string f.nm, .bool f.nl, .int .i64 f.k, .int .i64 f.wd, .int .i64 f.id, .int .i64 f.ix, .slice p1 f.kids.length c1] 59)).alloc (.cells #[.string g.nm, .bool g.nl, .int .i64 g.k, .int .i64 g.wd, .int .i64 g.id, .int .i64 g.ix, .slice p2 g.kids.length c2] 59)) := ((Below.refl _ wr).alloc (Nat.le_refl _) _).alloc (by simp) _
      refine (pair_calls (F1.out.below hb8) (F2.out.below hb8) (fun w a b => HIG.out w p1 p2 c1 c2 a b)).mono ?_
      rintro e W9 ⟨rfl, hb9⟩
      have HB9 := Lib.hid (HB.out.trans ((hb8.trans (hb9.mono hb8.size)).mono HB.out.size))
      generalize eqF f g = t at *
      clear x0 x1 x2 x3 x4 x5 x6 y0 y1 y2 y3 y4 y5 y6 hlb2 hb8 hb9
      cases t with
      | true =>
        have HN := Lib.hid (Next.out rfl)
        clear Next Bad
        go_wp2_with fail
        go_round
        case rel => exact ⟨k + 1, by omega, by go_num, HB9, HN⟩
        case measure => simp [intOf]; omega
      | false =>
        have HN := Lib.hid (Bad.out rfl)
        clear Next Bad
        go_wp2_with fail
        go_ret
        exact bool_post HN.out.symm HB9.out
    · have HE := Lib.hid (eqL_all HL.out (fun i hi hi2 => HA.out i hi hi2 (by omega)))
      go_wp2_with fail
      go_ret
      exact bool_post HE.out.symm HB.out

set_option maxHeartbeats 1000000 in
theorem alike_step {w : World} {f g : Fd} {p1 p2 : Option Addr} {c1 c2 : Nat} (h1 : FdAt w f [.string f.nm, .bool f.nl, .int .i64 f.k, .int .i64 f.wd, .int .i64 f.id, .int .i64 f.ix, .slice p1 f.kids.length c1]) (h2 : FdAt w g [.string g.nm, .bool g.nl, .int .i64 g.k, .int .i64 g.wd, .int .i64 g.id, .int .i64 g.ix, .slice p2 g.kids.length c2])
    (ih : ∀ f' ∈ f.kids, ∀ (g : Fd) (w : World) (p1 p2 : Option Addr) (c1 c2 : Nat), FdAt w f' [.string f'.nm, .bool f'.nl, .int .i64 f'.k, .int .i64 f'.wd, .int .i64 f'.id, .int .i64 f'.ix, .slice p1 f'.kids.length c1] → FdAt w g [.string g.nm, .bool g.nl, .int .i64 g.k, .int .i64 g.wd, .int .i64 g.id, .int .i64 g.ix, .slice p2 g.kids.length c2] → Calls Tryz.prog 31 #[.agg #[.int .i64 f'.k, .int .i64 f'.wd, .int .i64 f'.id, .int .i64 f'.ix, .slice p1 f'.kids.length c1], .agg #[.int .i64 g.k, .int .i64 g.wd, .int .i64 g.id, .int .i64 g.ix, .slice p2 g.kids.length c2]] w (BoolPost w (eqT f' g))) :
    Calls Tryz.prog 31 #[.agg #[.int .i64 f.k, .int .i64 f.wd, .int .i64 f.id, .int .i64 f.ix, .slice p1 f.kids.length c1], .agg #[.int .i64 g.k, .int .i64 g.wd, .int .i64 g.id, .int .i64 g.ix, .slice p2 g.kids.length c2]] w (BoolPost w (eqT f g)) := by
  obtain ⟨_, _, e1, hk1, _⟩ := h1.shape
  obtain ⟨_, _, e2, hk2, _⟩ := h2.shape
  cases e1
  cases e2
  have HK1 := Lib.hid hk1
  have HK2 := Lib.hid hk2
  have HI := Lib.hid ih
  clear h1 h2 ih hk1 hk2
  have hBW : Below w.heap.size w ((w.alloc (.cells #[.int .i64 f.k, .int .i64 f.wd, .int .i64 f.id, .int .i64 f.ix, .slice p1 f.kids.length c1] 57)).alloc (.cells #[.int .i64 g.k, .int .i64 g.wd, .int .i64 g.id, .int .i64 g.ix, .slice p2 g.kids.length c2] 57)) := ((Below.refl _ w).alloc (Nat.le_refl _) _).alloc (by simp) _
  have HBW := Lib.hid hBW
  clear hBW
  cases q0 : (f.k == g.k) with
  | false =>
    have r0 : (f.k != g.k) = true := by simpa [bne] using q0
    have HE1 := Lib.hid (show eqT f g = false by rw [eqT_def]; simp [q0])
    go_enter Tryz.func31, Tryz.ntmps31
    go_wp2_with fail
    go_ret
    exact bool_post HE1.out.symm HBW.out
  | true =>
    have r0 : (f.k != g.k) = false := by simpa [bne] using q0
    cases q1 : (f.wd == g.wd) with
    | false =>
      have r1 : (f.wd != g.wd) = true := by simpa [bne] using q1
      have HE1 := Lib.hid (show eqT f g = false by rw [eqT_def]; simp [q0, q1])
      go_enter Tryz.func31, Tryz.ntmps31
      go_wp2_with fail
      go_ret
      exact bool_post HE1.out.symm HBW.out
    | true =>
      have r1 : (f.wd != g.wd) = false := by simpa [bne] using q1
      cases q2 : (f.id == g.id) with
      | false =>
        have r2 : (f.id != g.id) = true := by simpa [bne] using q2
        have HE1 := Lib.hid (show eqT f g = false by rw [eqT_def]; simp [q0, q1, q2])
        go_enter Tryz.func31, Tryz.ntmps31
        go_wp2_with fail
        go_ret
        exact bool_post HE1.out.symm HBW.out
      | true =>
        have r2 : (f.id != g.id) = false := by simpa [bne] using q2
        cases q3 : (f.ix == g.ix) with
        | false =>
          have r3 : (f.ix != g.ix) = true := by simpa [bne] using q3
          have HE1 := Lib.hid (show eqT f g = false by rw [eqT_def]; simp [q0, q1, q2, q3])
          go_enter Tryz.func31, Tryz.ntmps31
          go_wp2_with fail
          go_ret
          exact bool_post HE1.out.symm HBW.out
        | true =>
          have r3 : (f.ix != g.ix) = false := by simpa [bne] using q3
          have HE1 := Lib.hid (show eqT f g = eqL f.kids g.kids by rw [eqT_def]; simp [q0, q1, q2, q3])
          go_enter Tryz.func31, Tryz.ntmps31
          go_wp2_with fail
          refine (pairs_calls (HK1.out.below HBW.out) (HK2.out.below HBW.out) HI.out).mono ?_
          rintro e W9 ⟨rfl, hb9⟩
          have HB9 := Lib.hid (HBW.out.trans (hb9.mono HBW.out.size))
          generalize eqL f.kids g.kids = t at *
          clear hb9
          go_wp2_with fail
          go_ret
          exact bool_post HE1.out.symm HB9.out

theorem alike_calls (f : Fd) : ∀ (g : Fd) (w : World) (p1 p2 : Option Addr) (c1 c2 : Nat), FdAt w f [.string f.nm, .bool f.nl, .int .i64 f.k, .int .i64 f.wd, .int .i64 f.id, .int .i64 f.ix, .slice p1 f.kids.length c1] → FdAt w g [.string g.nm, .bool g.nl, .int .i64 g.k, .int .i64 g.wd, .int .i64 g.id, .int .i64 g.ix, .slice p2 g.kids.length c2] → Calls Tryz.prog 31 #[.agg #[.int .i64 f.k, .int .i64 f.wd, .int .i64 f.id, .int .i64 f.ix, .slice p1 f.kids.length c1], .agg #[.int .i64 g.k, .int .i64 g.wd, .int .i64 g.id, .int .i64 g.ix, .slice p2 g.kids.length c2]] w (BoolPost w (eqT f g)) :=
  fd_ind (P := fun f => ∀ (g : Fd) (w : World) (p1 p2 : Option Addr) (c1 c2 : Nat), FdAt w f [.string f.nm, .bool f.nl, .int .i64 f.k, .int .i64 f.wd, .int .i64 f.id, .int .i64 f.ix, .slice p1 f.kids.length c1] → FdAt w g [.string g.nm, .bool g.nl, .int .i64 g.k, .int .i64 g.wd, .int .i64 g.id, .int .i64 g.ix, .slice p2 g.kids.length c2] → Calls Tryz.prog 31 #[.agg #[.int .i64 f.k, .int .i64 f.wd, .int .i64 f.id, .int .i64 f.ix, .slice p1 f.kids.length c1], .agg #[.int .i64 g.k, .int .i64 g.wd, .int .i64 g.id, .int .i64 g.ix, .slice p2 g.kids.length c2]] w (BoolPost w (eqT f g))) (fun f ih g w p1 p2 c1 c2 h1 h2 => alike_step h1 h2 ih) f

set_option maxHeartbeats 1000000 in
/-- The reference does not look at numbers and indices: bare fields that may be have none. -/
theorem ralike_calls {w : World} {f g : Fd} {p1 p2 : Option Addr} {c1 c2 : Nat} (h1 : FdAt w f [.string f.nm, .bool f.nl, .int .i64 f.k, .int .i64 f.wd, .int .i64 f.id, .int .i64 f.ix, .slice p1 f.kids.length c1]) (h2 : FdAt w g [.string g.nm, .bool g.nl, .int .i64 g.k, .int .i64 g.wd, .int .i64 g.id, .int .i64 g.ix, .slice p2 g.kids.length c2]) (hi : f.id = g.id) (hx : f.ix = g.ix) :
    Calls Tryz.prog 37 #[.agg #[.int .i64 f.k, .int .i64 f.wd, .int .i64 f.id, .int .i64 f.ix, .slice p1 f.kids.length c1], .agg #[.int .i64 g.k, .int .i64 g.wd, .int .i64 g.id, .int .i64 g.ix, .slice p2 g.kids.length c2]] w (BoolPost w (eqT f g)) := by
  obtain ⟨_, _, e1, hk1, _⟩ := h1.shape
  obtain ⟨_, _, e2, hk2, _⟩ := h2.shape
  cases e1
  cases e2
  have HK1 := Lib.hid hk1
  have HK2 := Lib.hid hk2
  have hd : eqT f g = (((f.k == g.k) && (f.wd == g.wd)) && eqL f.kids g.kids) := by rw [eqT_def, hi, hx]; simp
  have HD := Lib.hid hd
  clear h1 h2 hk1 hk2 hi hx hd
  have hBW : Below w.heap.size w ((w.alloc (.cells #[.int .i64 f.k, .int .i64 f.wd, .int .i64 f.id, .int .i64 f.ix, .slice p1 f.kids.length c1] 57)).alloc (.cells #[.int .i64 g.k, .int .i64 g.wd, .int .i64 g.id, .int .i64 g.ix, .slice p2 g.kids.length c2] 57)) := ((Below.refl _ w).alloc (Nat.le_refl _) _).alloc (by simp) _
  have HBW := Lib.hid hBW
  clear hBW
  cases q0 : (f.k == g.k) with
  | false =>
    have HE1 := Lib.hid (show eqT f g = false by rw [HD.out]; simp [q0])
    go_enter Tryz.func37, Tryz.ntmps37
    go_wp2_with fail
    go_ret
    exact bool_post HE1.out.symm HBW.out
  | true =>
    cases q1 : (f.wd == g.wd) with
    | false =>
      have HE1 := Lib.hid (show eqT f g = false by rw [HD.out]; simp [q0, q1])
      go_enter Tryz.func37, Tryz.ntmps37
      go_wp2_with fail
      go_ret
      exact bool_post HE1.out.symm HBW.out
    | true =>
      have HE1 := Lib.hid (show eqT f g = eqL f.kids g.kids by rw [HD.out]; simp [q0, q1])
      go_enter Tryz.func37, Tryz.ntmps37
      go_wp2_with fail
      refine (eqs_calls (HK1.out.below HBW.out) (HK2.out.below HBW.out) (fun f' hf' g' w' a b c d x y => eq_calls f' g' w' a b c d x y)).mono ?_
      rintro e W9 ⟨rfl, hb9⟩
      have HB9 := Lib.hid (HBW.out.trans (hb9.mono HBW.out.size))
      generalize eqL f.kids g.kids = t at *
      clear hb9
      go_wp2_with fail
      go_ret
      exact bool_post HE1.out.symm HB9.out

end Go.Fld
