import Derived.Test.YtajaonnpekdklaaVrA
set_option linter.unusedVariables false
set_option maxRecDepth 100000
/-! THE DOCUMENT'S NUMBERS AND TEXTS; Byte and Raw of a view. -/
namespace Go.Proofs.Ytajaonnpekdklaa.Vw
open Go.ChangeShapes Go.WideShapes Go.ChangeAt Go.RowKit Mem

theorem got_len {bs : List UInt8} {a m : Nat} (h : a + m ≤ bs.length) : (got bs a m).length = m := by unfold got; simp; omega
theorem got_at {bs : List UInt8} {a m k : Nat} (h : a + m ≤ bs.length) (hk : k < m) : (got bs a m)[k]'(by rw [got_len h]; exact hk) = bs[a + k] := by
  unfold got; simp

theorem rload_step {g : List UInt8} {k : Nat} (hk : k < g.length) (hl : g.length ≤ 8) :
    IntKind.u64.wrap (IntKind.u64.wrap (((leV (g.drop (k + 1)) : Nat) : Int) * 256) + IntKind.u64.wrap ((g[k].toNat : Nat) : Int)) = ((leV (g.drop k) : Nat) : Int) := by
  have h1 := leV_lt (g.drop (k + 1))
  have h2 := leV_lt (g.drop k)
  have hb := g[k].toNat_lt
  rw [leV_drop g hk] at h2
  rw [leV_drop g hk]
  have h3 : (256 : Nat) ^ (g.drop k).length ≤ 256 ^ 8 := Nat.pow_le_pow_right (by decide) (by simp; omega)
  have h4 : (256 : Nat) ^ 8 = 18446744073709551616 := by decide
  rw [IntWalk.u64_in ((leV (g.drop (k + 1)) : Nat) * 256 : Int) (by omega), IntWalk.u64_in ((g[k].toNat : Nat) : Int) (by omega), IntWalk.u64_in _ (by omega)]
  omega

theorem rload_calls {L : Nat → Nat} {c0 : Nat} {w : World} {q : Option Addr} {n cap : Nat} {bs : List UInt8}
    (hr : Rd L c0 w 1 (.slice q n cap) n (bs.map byt)) (p : Int) (a m : Int) (ha : a ≤ 9223372036854775807) :
    Calls Try.prog 63 #[.agg #[.slice q n cap, .int .i64 p], .int .i64 a, .int .i64 m] w fun e w' => e = .returned (.tuple #[.int .u64 (loadV bs a m), .int .i64 (loadE bs.length a m)]) ∧ Below w.heap.size w w' := by
  have hbl : bs.length = n := by simpa using hr.1
  obtain ⟨q', cap', hv, hn, hm⟩ := hr.shape
  cases hv
  subst hbl
  unfold maxLen at hm
  have hb : Below w.heap.size w (w.alloc (Obj.cells #[.slice q bs.length cap, .int .i64 p] 106)) := below_alloc w _
  by_cases hw : Ink.wideB m = true
  · have hws : ∃ x : Nat, m = x ∧ x ≤ 8 ∧ 1 ≤ x := by
      simp [Ink.wideB] at hw
      exact ⟨m.toNat, by omega, by omega, by omega⟩
    by_cases hi : insideB a m bs.length = true
    · obtain ⟨x, y, rfl, rfl, hxy⟩ := insideB_true hi
      have hy8 : y ≤ 8 ∧ 1 ≤ y := by obtain ⟨z, hz, hz8⟩ := hws; omega
      have hE : loadE bs.length x y = 0 := by rw [loadE, if_pos hw, if_pos hi]
      have hV : loadV bs x y = leV (got bs x y) := by rw [loadV, if_pos hE]; rfl
      have HE := Lib.hid hE
      have HV := Lib.hid hV
      have HW := Lib.hid hw
      have HI := Lib.hid hi
      have hgl := got_len hxy
      have HG := Lib.hid hgl
      have hr1 := hr.step (Step.of_below (L := L) hb (fun _ => False) 0) (by simp)
      clear hE hV hw hi hws hgl
      go_enter Try.func63, Try.ntmps63
      go_wp2_with fail
      refine (Ink.rwide_calls _ _).mono ?_; rintro e w1 ⟨rfl, rfl⟩
      rw [HW.out]
      go_wp2_with fail
      refine (rinside_calls bs.length x y (by omega) (by omega)).mono ?_; rintro e w1 ⟨rfl, rfl⟩
      rw [HI.out]
      go_wp2_with fail
      go_loop [9, 10] (fun s i => ∃ k : Nat, k ≤ y ∧ i = .int .i64 ((k : Int) - 1) ∧ s = .int .u64 (leV ((got bs x y).drop k))) (fun _ i => (intOf i + 1).toNat)
      case atStart => exact ⟨y, by omega, rfl, by rw [List.drop_of_length_le (by rw [HG.out]; exact Nat.le_refl _)]; rfl⟩
      case round =>
        obtain ⟨k, hk, rfl, rfl⟩ := hrel
        cases k with
        | zero =>
          go_wp2_with fail
          go_ret2
          exact ⟨by rw [HV.out, HE.out]; rfl, hb⟩
        | succ k =>
          have hg := rload_step (g := got bs x y) (k := k) (by rw [HG.out]; omega) (by rw [HG.out]; omega)
          rw [got_at hxy (by omega)] at hg
          have HS := Lib.hid hg
          clear hg
          obtain ⟨b, off, rfl, _, e0⟩ := hr1.at (k := x + k) (by omega)
          go_wp2_with fail
          go_round
          case rel => exact ⟨k, by omega, by go_num, by rw [← HS.out]⟩
          case measure => simp [intOf]
    · have hi' : insideB a m bs.length = false := by simpa using hi
      have hE : loadE bs.length a m = 2 := by rw [loadE, if_pos hw, if_neg hi]
      have hV : loadV bs a m = 0 := by rw [loadV, if_neg (by rw [hE]; decide)]
      have HE := Lib.hid hE
      have HV := Lib.hid hV
      have HW := Lib.hid hw
      have HI := Lib.hid hi'
      clear hE hV hw hi hi' hws
      go_enter Try.func63, Try.ntmps63
      go_wp2_with fail
      refine (Ink.rwide_calls _ _).mono ?_; rintro e w1 ⟨rfl, rfl⟩
      rw [HW.out]
      go_wp2_with fail
      refine (rinside_calls bs.length a m (by omega) ha).mono ?_; rintro e w1 ⟨rfl, rfl⟩
      rw [HI.out]
      go_wp2_with fail
      go_ret2
      exact ⟨by rw [HV.out, HE.out]; rfl, hb⟩
  · have hw' : Ink.wideB m = false := by simpa using hw
    have hE : loadE bs.length a m = 1 := by rw [loadE, if_neg hw]
    have hV : loadV bs a m = 0 := by rw [loadV, if_neg (by rw [hE]; decide)]
    have HE := Lib.hid hE
    have HV := Lib.hid hV
    have HW := Lib.hid hw'
    clear hE hV hw hw'
    go_enter Try.func63, Try.ntmps63
    go_wp2_with fail
    refine (Ink.rwide_calls _ _).mono ?_; rintro e w1 ⟨rfl, rfl⟩
    rw [HW.out]
    go_wp2_with fail
    go_ret2
    exact ⟨by rw [HV.out, HE.out]; rfl, hb⟩

theorem sign_calls {w : World} (x : Nat) (m : Int) (hm : m = 1 ∨ m = 2 ∨ m = 4 ∨ m = 8) :
    Calls Try.prog 72 #[.int .u64 x, .int .i64 m] w fun e w' => e = .returned (.int .i64 (signV x m)) ∧ w = w' := by
  have h64 : ∀ z : Int, -9223372036854775808 ≤ z → z ≤ 9223372036854775807 → wrap64 z = z := fun z h1 h2 => by unfold wrap64; omega
  rcases hm with rfl | rfl | rfl | rfl
  · have hE : signV x 1 = wrap64 (IntKind.i8.wrap x) := by
      have e : signV x 1 = IntKind.i8.wrap x := by simp [signV]
      rw [e, h64] <;> (simp [IntKind.wrap, IntKind.bits, IntKind.signed]; split <;> omega)
    have HE := Lib.hid hE
    clear hE h64
    go_enter Try.func72, Try.ntmps72
    go_wp2_with fail
    go_ret
    exact ⟨by rw [HE.out]; rfl, rfl⟩
  · have hE : signV x 2 = wrap64 (IntKind.i16.wrap x) := by
      have e : signV x 2 = IntKind.i16.wrap x := by simp [signV]
      rw [e, h64] <;> (simp [IntKind.wrap, IntKind.bits, IntKind.signed]; split <;> omega)
    have HE := Lib.hid hE
    clear hE h64
    go_enter Try.func72, Try.ntmps72
    go_wp2_with fail
    go_ret
    exact ⟨by rw [HE.out]; rfl, rfl⟩
  · have hE : signV x 4 = wrap64 (wrap32 x) := by
      have e : signV x 4 = wrap32 x := by simp [signV, IntKind.wrap_i32]; unfold wrap32; omega
      rw [e, h64] <;> (unfold wrap32; omega)
    have HE := Lib.hid hE
    clear hE h64
    go_enter Try.func72, Try.ntmps72
    go_wp2_with fail
    go_ret
    exact ⟨by rw [HE.out]; rfl, rfl⟩
  · have hE : signV x 8 = wrap64 x := by simp [signV, IntKind.wrap_i64]; unfold wrap64; omega
    have HE := Lib.hid hE
    clear hE h64
    go_enter Try.func72, Try.ntmps72
    go_wp2_with fail
    go_ret
    exact ⟨by rw [HE.out]; rfl, rfl⟩

theorem rsigned_calls {L : Nat → Nat} {c0 : Nat} {w : World} {q : Option Addr} {n cap : Nat} {bs : List UInt8}
    (hr : Rd L c0 w 1 (.slice q n cap) n (bs.map byt)) (p : Int) (a m : Int) (ha : a ≤ 9223372036854775807) :
    Calls Try.prog 64 #[.agg #[.slice q n cap, .int .i64 p], .int .i64 a, .int .i64 m] w fun e w' => e = .returned (.tuple #[.int .i64 (signedV bs a m), .int .i64 (loadE bs.length a m)]) ∧ Below w.heap.size w w' := by
  have hb : Below w.heap.size w (w.alloc (Obj.cells #[.slice q n cap, .int .i64 p] 106)) := below_alloc w _
  have hr0 := hr.step (Step.of_below (L := L) hb (fun _ => False) 0) (by simp)
  have HB := Lib.hid hb
  clear hb
  by_cases hE : loadE bs.length a m = 0
  · have hws : m = 1 ∨ m = 2 ∨ m = 4 ∨ m = 8 := by
      unfold loadE at hE
      by_cases hw : Ink.wideB m = true
      · simp [Ink.wideB] at hw; omega
      · rw [if_neg hw] at hE; cases hE
    have hS : signedV bs a m = signV (loadV bs a m) m := by rw [signedV, if_pos hE]
    have HE := Lib.hid hE
    have HS := Lib.hid hS
    clear hE hS
    go_enter Try.func64, Try.ntmps64
    go_wp2_with fail
    refine (rload_calls hr0 p a m ha).mono ?_; rintro e w1 ⟨rfl, b1⟩
    rw [HE.out]
    go_wp2_with fail
    refine (sign_calls _ m hws).mono ?_; rintro e w2 ⟨rfl, rfl⟩
    go_wp2_with fail
    go_ret2
    exact ⟨by rw [HS.out, HE.out]; rfl, HB.out.trans (b1.mono (by simp))⟩
  · have hne : ((loadE bs.length a m) != 0) = true := by simpa using hE
    have hS : signedV bs a m = 0 := by rw [signedV, if_neg hE]
    have HS := Lib.hid hS
    clear hE hS
    go_enter Try.func64, Try.ntmps64
    go_wp2_with fail
    refine (rload_calls hr0 p a m ha).mono ?_; rintro e w1 ⟨rfl, b1⟩
    go_wp2_with fail
    go_ret2
    exact ⟨by rw [HS.out]; rfl, HB.out.trans (b1.mono (by simp))⟩

/-- A part of what is read, with the room behind it. -/
theorem Rd.rcut {L : Nat → Nat} {c : Nat} {w : World} {q : Option Addr} {n cap : Nat} {bs : List UInt8} (h : Rd L c w 1 (.slice q n cap) n (bs.map byt)) {a m : Nat} (hm : a + m ≤ n) :
    Rd L c w 1 (.slice (rcut q a (cap - a)) m (cap - a)) m (((bs.drop a).take m).map byt) := by
  obtain ⟨h1, q', cap', hv, hn, hmx, hc⟩ := h
  cases hv
  have hbl : bs.length = n := by simpa using h1
  refine ⟨by simp; omega, _, _, rfl, by omega, by omega, fun j u hj => ?_⟩
  have hjm : j < m := by
    have := (List.getElem?_eq_some_iff.1 hj).1
    simp at this; omega
  obtain ⟨b, off, rfl, hL, hcell⟩ := hc (a + j) u (by
    rw [← hj]
    simp only [List.getElem?_map, List.getElem?_take, List.getElem?_drop, hjm, if_true])
  unfold Vw.rcut
  rw [if_neg (by omega)]
  exact ⟨b, off + a, by simp [add_lit], hL, by rw [Nat.add_assoc]; exact hcell⟩

theorem rtext_calls {L : Nat → Nat} {c0 : Nat} {w : World} {q : Option Addr} {n cap : Nat} {bs : List UInt8}
    (hr : Rd L c0 w 1 (.slice q n cap) n (bs.map byt)) (p : Int) (hp : 0 ≤ p) (hp2 : p + n ≤ 9223372036854775807) (a m : Int) (ha : a ≤ 9223372036854775807) :
    Calls Try.prog 57 #[.agg #[.slice q n cap, .int .i64 p], .int .i64 a, .int .i64 m] w fun e w' => e = .returned (.tuple #[.string (vtextV bs a m), .int .i64 (vtextE bs.length a m)]) ∧ Below w.heap.size w w' := by
  have hbl : bs.length = n := by simpa using hr.1
  obtain ⟨q', cap', hv, hn, hm⟩ := hr.shape
  cases hv
  subst hbl
  unfold maxLen at hm
  have hb : Below w.heap.size w (w.alloc (Obj.cells #[.slice q bs.length cap, .int .i64 p] 106)) := below_alloc w _
  have hr0 := hr.step (Step.of_below (L := L) hb (fun _ => False) 0) (by simp)
  have HB := Lib.hid hb
  clear hb
  by_cases hi : insideB a m bs.length = true
  · obtain ⟨x, y, rfl, rfl, hxy⟩ := insideB_true hi
    have hE : vtextE bs.length x y = 0 := by rw [vtextE, if_pos hi]
    have hV : vtextV bs x y = ⟨(got bs x y).toArray⟩ := by rw [vtextV, if_pos hi]; rfl
    have HE := Lib.hid hE
    have HV := Lib.hid hV
    have HL := Lib.hid (got_len hxy)
    clear hE hV hi
    go_enter Try.func57, Try.ntmps57
    go_wp2_with fail
    refine (rpart_yes q bs.length cap p x y (by omega) hxy hn hp hp2).mono ?_; rintro e w1 ⟨rfl, b1⟩
    have hb1 : Below w.heap.size w (w1.alloc (Obj.cells #[.slice (rcut q x (cap - x)) y (cap - x), .int .i64 (p + x)] 106)) := (HB.out.trans (b1.mono (by simp))).alloc (by have := b1.size; simp at this; omega) _
    have HB1 := Lib.hid hb1
    have hr1 := (Rd.rcut hr hxy).step (Step.of_below (L := L) hb1 (fun _ => False) 0) (by simp)
    have hr3 : Rd (ext L w.heap.size 0) c0 (w1.alloc (Obj.cells #[.slice (rcut q x (cap - x)) y (cap - x), .int .i64 (p + x)] 106)) 1 (.slice (rcut q x (cap - x)) y (cap - x)) (got bs x y).length ((got bs x y).map byt) := by rw [HL.out]; exact hr1
    have hcv := run_toString (P := Try.prog) hr3 (src := 35) (e := 5) (dst := 9) Try.underlying35 Try.underlying5 Try.underlying9
    clear hr1 hr3 hb1 b1 hr0
    go_wp2_with fail
    go_ret2
    exact ⟨by rw [HV.out, HE.out]; rfl, HB1.out⟩
  · have hi' : insideB a m bs.length = false := by simpa using hi
    have hE : vtextE bs.length a m = 2 := by rw [vtextE, if_neg hi]
    have hV : vtextV bs a m = ByteArray.empty := by rw [vtextV, if_neg hi]
    have HE := Lib.hid hE
    have HV := Lib.hid hV
    clear hE hV hi
    go_enter Try.func57, Try.ntmps57
    go_wp2_with fail
    refine (rpart_no q bs.length cap p a m (by omega) ha hi').mono ?_; rintro e w1 ⟨rfl, b1⟩
    have hb1 : Below w.heap.size w w1 := HB.out.trans (b1.mono (by simp))
    go_wp2_with fail
    go_ret2
    exact ⟨by rw [HV.out, HE.out]; rfl, hb1.alloc hb1.size _⟩

/-- Byte of a view. -/
theorem vbyte_calls {L : Nat → Nat} {c c0 : Nat} (hcc : c0 ≠ c) {w : World} {u : Option Nat} {l : List (Int × Int)} (hW : WOpt L c w u l) (hl : l.length ≤ 1000000000000) {q : Option Addr} {n cap : Nat} {bs : List UInt8}
    (hr : Rd L c0 w 1 (.slice q n cap) n (bs.map byt)) (p : Int) (hp : 0 ≤ p) (hp2 : p + n ≤ 9223372036854775807) (a : Int) (ha : a ≤ 9223372036854775807) :
    Calls Try.prog 52 #[.agg #[.slice q n cap, .int .i64 p, wat u], .int .i64 a] w fun e w' => e = .returned (.tuple #[.int .u8 (byteV bs a), .int .i64 (byteE bs.length a)]) ∧ Read L c w u (byteT l bs.length p a) w' := by
  have hbl : bs.length = n := by simpa using hr.1
  obtain ⟨q', cap', hv, hn, hm⟩ := hr.shape
  cases hv
  subst hbl
  unfold maxLen at hm
  by_cases hi : insideB a 1 bs.length = true
  · obtain ⟨x, y, rfl, h1, hxy⟩ := insideB_true hi
    obtain rfl : y = 1 := by omega
    have hlt : x < bs.length := by omega
    have hE : byteE bs.length x = 0 := by rw [byteE, if_pos hi]
    have hV : byteV bs x = (bs[x].toNat : Int) := by rw [byteV, if_pos hi]; simp [hlt]
    have hT : byteT l bs.length p x = tell l p x 1 := by rw [byteT, if_pos hi]; rfl
    have HE := Lib.hid hE
    have HV := Lib.hid hV
    have HT := Lib.hid hT
    have HI := Lib.hid hi
    clear hE hV hT hi h1
    go_enter Try.func52, Try.ntmps52
    go_wp2_with fail
    refine (there_calls q bs.length cap p _ x 1 (by omega) (by omega)).mono ?_; rintro e w1 ⟨rfl, b1⟩
    rw [HI.out]
    obtain ⟨d0, d1, d2, hb1⟩ := box_cells b1
    have HB1 := Lib.hid hb1
    clear hb1 b1
    have st1 := Step.of_below (L := L) HB1.out (fun _ => False) 0
    have hW1 := hW.step st1 (by simp)
    have hr1 := hr.step st1 (by simp)
    go_wp2_with fail
    refine (read_calls hW1 hl q bs.length cap p x 1 hn (by omega) hxy hp hp2).mono ?_; rintro e w2 ⟨rfl, L2, st2, hW2⟩
    have hr2 := (Rd.cut hr1 hxy 1 (Nat.le_refl _) (by unfold maxLen; omega)).step st2 hcc
    have hg1 : 0 < ((bs.drop x).take 1).length := by simp; omega
    obtain ⟨b, off, hq, _, e0⟩ := hr2.at hg1
    have hgx : ((bs.drop x).take 1)[0] = bs[x] := by simp
    rw [hgx, Nat.add_zero] at e0
    rw [hq]
    clear hr2 hr1 hg1 hgx hq
    go_wp2_with fail
    go_ret2
    exact ⟨by rw [HV.out, HE.out]; rfl, L2, (st1.mono (fun _ h => h.elim)).trans st2, by rw [HT.out]; exact hW2⟩
  · have hi' : insideB a 1 bs.length = false := by simpa using hi
    have hE : byteE bs.length a = 2 := by rw [byteE, if_neg hi]
    have hV : byteV bs a = 0 := by rw [byteV, if_neg hi]
    have hT : byteT l bs.length p a = l := by rw [byteT, if_neg hi]
    have HE := Lib.hid hE
    have HV := Lib.hid hV
    have HT := Lib.hid hT
    have HI := Lib.hid hi'
    clear hE hV hT hi hi'
    go_enter Try.func52, Try.ntmps52
    go_wp2_with fail
    refine (there_calls q bs.length cap p _ a 1 (by omega) ha).mono ?_; rintro e w1 ⟨rfl, b1⟩
    rw [HI.out]
    obtain ⟨d0, d1, d2, hb1⟩ := box_cells b1
    have HB1 := Lib.hid hb1
    clear hb1 b1
    go_wp2_with fail
    go_ret2
    exact ⟨by rw [HV.out, HE.out]; rfl, by rw [HT.out]; exact Read.of_below hW HB1.out⟩

/-- Raw of a view. -/
theorem vraw_calls {L : Nat → Nat} {c : Nat} {w : World} {u : Option Nat} {l : List (Int × Int)} (hW : WOpt L c w u l) (hl : l.length ≤ 1000000000000) (q : Option Addr) (n cap : Nat) (p : Int) (hn : n ≤ cap) (hc : cap ≤ 9223372036854775807)
    (hp : 0 ≤ p) (hp2 : p + n ≤ 9223372036854775807) :
    Calls Try.prog 65 #[.agg #[.slice q n cap, .int .i64 p, wat u]] w fun e w' => e = .returned (.slice (cutAt q 0 n) n n) ∧ Read L c w u (tell l p 0 n) w' := by
  have hb : Below w.heap.size w (w.alloc (Obj.cells #[.slice q n cap, .int .i64 p, wat u] 51)) := below_alloc w _
  have HB := Lib.hid hb
  clear hb
  have st1 := Step.of_below (L := L) HB.out (fun _ => False) 0
  have hW1 := hW.step st1 (by simp)
  go_enter Try.func65, Try.ntmps65
  go_wp2_with fail
  refine (read_calls hW1 hl q n cap p 0 n hn hc (by omega) hp hp2).mono ?_; rintro e w2 ⟨rfl, L2, st2, hW2⟩
  go_wp2_with fail
  go_ret
  exact ⟨rfl, L2, (st1.mono (fun _ h => h.elim)).trans st2, hW2⟩

end Go.Proofs.Ytajaonnpekdklaa.Vw
