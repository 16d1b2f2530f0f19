import Derived.Test.YtajaonnpekdklaaInkB
set_option linter.unusedVariables false
set_option maxRecDepth 100000
namespace Go.Proofs.Ytajaonnpekdklaa.Ink
open Go.ChangeShapes Go.WideShapes Go.ChangeAt Go.RowKit Mem

def sameB (xs bs : List UInt8) : Bool := decide (xs = bs)

theorem byt_ne (a b : UInt8) : ((a.toNat : Int) != (b.toNat : Int)) = (a != b) := by
  by_cases h : a = b
  · subst h; simp
  · have h2 : a.toNat ≠ b.toNat := fun e => h (UInt8.toNat_inj.1 e)
    have : ((a.toNat : Int) != (b.toNat : Int)) = true := by simp; omega
    rw [this]; simp [h]

theorem same_calls {L : Nat → Nat} {c1 c2 : Nat} {w : World} {va vb : Value} {xs bs : List UInt8} (ha : Rd L c1 w 1 va xs.length (xs.map byt)) (hb : Rd L c2 w 1 vb bs.length (bs.map byt)) :
    Calls Try.prog 45 #[va, vb] w fun e w' => e = .returned (.bool (sameB xs bs)) ∧ ∃ k, w' = w.drewN k := by
  obtain ⟨pa, ca, rfl, hna, hma⟩ := ha.shape
  obtain ⟨pb, cb, rfl, hnb, hmb⟩ := hb.shape
  unfold maxLen at hma hmb
  by_cases hlen : xs.length = bs.length
  · have hle : ((xs.length : Int) != bs.length) = false := by simp [hlen]
    have HLEN := Lib.hid hlen
    clear hlen
    go_enter Try.func45, Try.ntmps45
    go_wp2_with fail
    go_loopw [5] (fun i wr => ∃ (k n : Nat), k ≤ xs.length ∧ i = .int .i64 k ∧ wr = w.drewN n ∧ xs.take k = bs.take k) (fun i _ => xs.length - (intOf i).toNat)
    case atStart => exact ⟨0, 0, by omega, rfl, rfl, rfl⟩
    case round =>
      obtain ⟨k, n, hk, rfl, rfl, hpre⟩ := hrel
      have HP := Lib.hid hpre
      clear hpre
      by_cases hlt : k < xs.length
      · have hlt2 : k < bs.length := by have := HLEN.out; omega
        obtain ⟨b1, o1, rfl, _, e1⟩ := ha.at hlt
        obtain ⟨b2, o2, rfl, _, e2⟩ := hb.at hlt2
        by_cases heq : xs[k] = bs[k]
        · have hne : ((xs[k].toNat : Int) != (bs[k].toNat : Int)) = false := by rw [byt_ne]; simp [heq]
          have HEQ := Lib.hid heq
          clear heq
          go_wp2_with fail
          go_quiet (fail)
          go_wp2_with fail
          go_roundw
          case rel => exact ⟨k + 1, _, by omega, by go_num, rfl, by rw [List.take_succ_eq_append_getElem hlt, List.take_succ_eq_append_getElem hlt2, HP.out, HEQ.out]⟩
          case measure => simp [intOf]; omega
        · have hne : ((xs[k].toNat : Int) != (bs[k].toNat : Int)) = true := by rw [byt_ne]; simp [heq]
          have hs : sameB xs bs = false := by
            unfold sameB; rw [decide_eq_false_iff_not]; intro e; subst e; exact heq rfl
          have HS := Lib.hid hs
          clear heq hs
          go_wp2_with fail
          go_quiet (fail)
          go_wp2_with fail
          go_ret
          exact ⟨by rw [HS.out]; rfl, n + _, by rw [← World.drewN_drewN]⟩
      · have hs : sameB xs bs = true := by
          unfold sameB; rw [decide_eq_true_iff]
          have h1 := HP.out
          have h2 := HLEN.out
          rwa [List.take_of_length_le (by omega), List.take_of_length_le (by omega)] at h1
        have HS := Lib.hid hs
        clear hs
        go_wp2_with fail
        go_ret
        exact ⟨by rw [HS.out]; rfl, _, rfl⟩
  · have hle : ((xs.length : Int) != bs.length) = true := by simp; omega
    have hs : sameB xs bs = false := by
      unfold sameB; rw [decide_eq_false_iff_not]; intro e; subst e; exact hlen rfl
    have HS := Lib.hid hs
    clear hs hlen
    go_enter Try.func45, Try.ntmps45
    go_wp2_with fail
    go_ret
    exact ⟨by rw [HS.out]; rfl, 0, rfl⟩

def fullB (bs : List UInt8) (m : UInt8) : Bool := decide (bs = List.replicate bs.length m)

theorem full_calls {L : Nat → Nat} {c1 : Nat} {w : World} {va : Value} {bs : List UInt8} (ha : Rd L c1 w 1 va bs.length (bs.map byt)) (m : UInt8) :
    Calls Try.prog 47 #[va, .int .u8 m.toNat] w fun e w' => e = .returned (.bool (fullB bs m)) ∧ w = w' := by
  obtain ⟨pa, ca, rfl, hna, hma⟩ := ha.shape
  unfold maxLen at hma
  go_enter Try.func47, Try.ntmps47
  go_wp2_with fail
  go_loop [5] (fun i => ∃ (k : Nat), k ≤ bs.length ∧ i = .int .i64 k ∧ bs.take k = List.replicate k m) (fun i => bs.length - (intOf i).toNat)
  case atStart => exact ⟨0, by omega, rfl, rfl⟩
  case round =>
    obtain ⟨k, hk, rfl, hpre⟩ := hrel
    have HP := Lib.hid hpre
    clear hpre
    by_cases hlt : k < bs.length
    · obtain ⟨b1, o1, rfl, _, e1⟩ := ha.at hlt
      by_cases heq : bs[k] = m
      · have hne : ((bs[k].toNat : Int) != (m.toNat : Int)) = false := by rw [byt_ne]; simp [heq]
        have HEQ := Lib.hid heq
        clear heq
        go_wp2_with fail
        go_round
        case rel => exact ⟨k + 1, by omega, by go_num, by rw [List.take_succ_eq_append_getElem hlt, HP.out, HEQ.out, ← List.replicate_succ']⟩
        case measure => simp [intOf]; omega
      · have hne : ((bs[k].toNat : Int) != (m.toNat : Int)) = true := by rw [byt_ne]; simp [heq]
        have hs : fullB bs m = false := by
          unfold fullB; rw [decide_eq_false_iff_not]; intro e
          apply heq
          have : bs[k]? = some m := by rw [e]; simp [hlt]
          simpa [hlt] using this
        have HS := Lib.hid hs
        clear heq hs
        go_wp2_with fail
        go_ret
        exact ⟨by rw [HS.out]; rfl, rfl⟩
    · have hs : fullB bs m = true := by
        unfold fullB; rw [decide_eq_true_iff]
        have h1 := HP.out
        obtain rfl : k = bs.length := by omega
        rwa [List.take_of_length_le (by omega)] at h1
      have HS := Lib.hid hs
      clear hs
      go_wp2_with fail
      go_ret
      exact ⟨by rw [HS.out]; rfl, rfl⟩


theorem rnew_calls (L : Nat → Nat) (c : Nat) (w : World) (most : Int) :
    Calls Try.prog 16 #[.int .i64 most] w fun e w' => e = .returned (.pointer (some ⟨w.heap.size, 0, none⟩)) ∧ Step (fun _ => False) L w (ext L w.heap.size c) w' ∧ InkAt 84 (ext L w.heap.size c) c w' w.heap.size [] (minMost most) := by
  by_cases q1 : most < 0
  · have hM := InkAt.new 84 L c w 0
    have e0 : minMost most = 0 := by unfold minMost; omega
    have E0 := Lib.hid e0
    clear e0
    go_enter Try.func16, Try.ntmps16
    go_wp2_with fail
    go_ret
    exact ⟨rfl, by rw [E0.out]; exact hM⟩
  · by_cases q2 : 16777216 < most
    · have hM := InkAt.new 84 L c w 16777216
      have e0 : minMost most = 16777216 := by unfold minMost; omega
      have E0 := Lib.hid e0
      clear e0
      go_enter Try.func16, Try.ntmps16
      go_wp2_with fail
      go_ret
      exact ⟨rfl, by rw [E0.out]; exact hM⟩
    · have hM := InkAt.new 84 L c w most
      have e0 : minMost most = most := by unfold minMost; omega
      have E0 := Lib.hid e0
      clear e0
      go_enter Try.func16, Try.ntmps16
      go_wp2_with fail
      go_ret
      exact ⟨rfl, by rw [E0.out]; exact hM⟩

theorem mark_step {j : Nat} {m : UInt8} {bs : List UInt8} (hj : j < bs.length) (hb : bs.take j = List.replicate j m) : (bs.set j m).take (j + 1) = List.replicate (j + 1) m := by
  rw [List.take_succ_eq_append_getElem (by simpa using hj), List.take_set_of_le (Nat.le_refl _), hb]
  simp [List.replicate_succ']

theorem quiet_same {P : Program} {f : FuncId} {args : Array Value} {w : World} {n : Nat} {v : Value}
    (h : Calls P f args (w.drewN n) fun e w' => e = .returned v ∧ w.drewN n = w') : Calls P f args (w.drewN n) fun e w'' => e = .returned v ∧ ∃ m, w'' = w.drewN m :=
  h.mono fun _ _ ⟨he, hm⟩ => ⟨he, n, hm.symm⟩

theorem len_any {L : Nat → Nat} {c : Nat} {w : World} {kb : Nat} {bs : List UInt8} {most : Int} (h : InkAt 79 L c w kb bs most) (n : Nat) :
    Calls Try.prog 46 #[.pointer (some ⟨kb, 0, none⟩)] (w.drewN n) fun e w' => e = .returned (.int .i64 bs.length) ∧ w.drewN n = w' := len_calls (T := 79) (h.drewN n)

theorem full_rep {L : Nat → Nat} {c1 : Nat} {w : World} {va : Value} {n : Nat} {m : UInt8} (ha : Own L c1 w 5 1 va n ((List.replicate n m).map byt)) (x : Int) (hx : x = m.toNat) :
    Calls Try.prog 47 #[va, .int .u8 x] w fun e w' => e = .returned (.bool true) ∧ w = w' := by
  subst hx
  have h1 : Rd L c1 w 1 va (List.replicate n m).length ((List.replicate n m).map byt) := by rw [List.length_replicate]; exact ha.rd
  have h2 : fullB (List.replicate n m) m = true := by simp [fullB]
  have := full_calls h1 m
  rwa [h2] at this

/-- What stays through 'inked'. -/
def Inv (L : Nat → Nat) (w : World) (kb rb : Nat) (bs : List UInt8) (most : Int) (L1 : Nat → Nat) (w1 : World) : Prop :=
  InkAt 79 L1 1 w1 kb bs most ∧ InkAt 84 L1 2 w1 rb bs most ∧ Step (fun c => 3 ≤ c) L w L1 w1

theorem Inv.step {L L1 L2 : Nat → Nat} {w w1 w2 : World} {kb rb : Nat} {bs : List UInt8} {most : Int} {C : Nat → Prop} (h : Inv L w kb rb bs most L1 w1) (st : Step C L1 w1 L2 w2) (hC : ∀ c, C c → 3 ≤ c) : Inv L w kb rb bs most L2 w2 :=
  ⟨h.1.step st (fun x => by have := hC _ x; omega), h.2.1.step st (fun x => by have := hC _ x; omega), h.2.2.trans (st.mono hC)⟩
theorem Inv.drewN {L L1 : Nat → Nat} {w w1 : World} {kb rb : Nat} {bs : List UInt8} {most : Int} (h : Inv L w kb rb bs most L1 w1) (n : Nat) : Inv L w kb rb bs most L1 (w1.drewN n) := h.step ((Step.refl (fun _ => False) L1 w1).drewN n) (fun _ h => h.elim)

theorem Own.len_pos {L : Nat → Nat} {c e n size : Nat} {w : World} {v : Value} {xs : List Value} (h : Own L c w e size v n xs) : ∃ p cap, v = .slice p n cap ∧ n ≤ maxLen := by
  obtain ⟨p, cap, hv, h1, h2, _⟩ := ownsRow_shape h.1
  exact ⟨p, cap, hv, Nat.le_trans h1 h2⟩

def rep (n : Nat) (m : UInt8) : List Value := (List.replicate n m).map byt

/-- 'inked': both tell the same bytes: it returns true. -/
theorem inked_calls {L : Nat → Nat} {w : World} {kb rb : Nat} {bs : List UInt8} {most : Int} (hk : InkAt 79 L 1 w kb bs most) (hr : InkAt 84 L 2 w rb bs most) (hbig : bs.length ≤ 16777216) :
    Calls Try.prog 24 #[.pointer (some ⟨kb, 0, none⟩), .pointer (some ⟨rb, 0, none⟩)] w fun e w' => e = .returned (.bool true) ∧ ∃ L', Step (fun c => 3 ≤ c) L w L' w' := by
  have hsame : sameB bs bs = true := by simp [sameB]
  go_enter Try.func24, Try.ntmps24
  go_wp2_with fail
  refine (bytes_calls L 1 3 w hk (by omega)).mono ?_; rintro e w1 ⟨v1, rfl, st1, ow1⟩
  have iv1 : Inv L w kb rb bs most (ext L w.heap.size 3) w1 := (show Inv L w kb rb bs most L w from ⟨hk, hr, Step.refl _ _ _⟩).step st1 (by simp)
  clear st1
  generalize ext L w.heap.size 3 = L1 at *
  obtain ⟨rv, r1, r2, r3, r4⟩ := iv1.2.1
  obtain ⟨rp, rcap, hrv, _⟩ := ownsRow_shape r3.1
  subst hrv
  have c0 : w1.cell? ⟨rb, 0, none⟩ = some (.slice rp bs.length rcap) := by rw [cell_of_heap r1]; rfl
  go_wp2_with fail
  refine (same_calls ow1.rd r3.rd).mono ?_; rintro e w2 ⟨rfl, n2, h2⟩
  rw [hsame]
  obtain ⟨iv2, ow2, c2⟩ : Inv L w kb rb bs most L1 w2 ∧ Own L1 3 w2 5 1 v1 bs.length (bs.map byt) ∧ w2.cell? ⟨rb, 0, none⟩ = some (.slice rp bs.length rcap) := by
    rw [h2]; exact ⟨iv1.drewN _, ow1, c0⟩
  clear h2 iv1 r1 r2 r3 r4 ow1 c0
  have hne : ((bs.length : Int) != bs.length) = false := by simp
  obtain ⟨p1, cap1, hv1, hm1⟩ := Own.len_pos ow2
  subst hv1
  unfold maxLen at hm1
  go_wp2_with fail
  go_quiet ((go_at_call 46; exact quiet_same (len_any iv2.1 _)))
  go_wp2_with fail
  go_loopw [7] (fun i wr => ∃ (j : Nat) (L' : Nat → Nat) (ds : List UInt8), j ≤ bs.length ∧ i = .int .i64 j ∧ Inv L w kb rb bs most L' wr ∧ Own L' 3 wr 5 1 (.slice p1 bs.length cap1) bs.length (ds.map byt) ∧ ds.length = bs.length ∧ ds.take j = List.replicate j 200) (fun i _ => bs.length - (intOf i).toNat)
  case atStart => exact ⟨0, L1, bs, by omega, rfl, iv2.drewN _, ow2, rfl, rfl⟩
  case round =>
    obtain ⟨j, L', ds, hj, rfl, iv3, ow3, hdl, hdt⟩ := hrel
    have HDL := Lib.hid hdl
    have HDT := Lib.hid hdt
    clear hdl hdt c2
    by_cases hlt : j < bs.length
    · have hjd : j < ds.length := by have := HDL.out; omega
      obtain ⟨g, cp, hv, hLg, d0, d1, ow4, st4⟩ := Own.set ow3 (j := j) (by simpa using hjd) (.int .u8 200)
      cases hv
      go_wp2_with fail
      go_roundw
      case rel =>
        refine ⟨j + 1, L', ds.set j 200, by omega, by go_num, iv3.step st4 (by omega), ?_, by rw [List.length_set]; exact HDL.out, mark_step hjd HDT.out⟩
        have e : (ds.set j 200).map byt = (ds.map byt).set j (.int .u8 200) := by rw [List.map_set]; rfl
        rw [e]; exact ow4
      case measure => simp [intOf]; omega
    · have hd : ds = List.replicate bs.length 200 := by
        have h1 := HDT.out
        obtain rfl : j = bs.length := by omega
        rwa [List.take_of_length_le (by rw [HDL.out]; exact Nat.le_refl _)] at h1
      subst hd
      go_wp2_with fail
      go_loopw [5, 8] (fun v i wr => ∃ (j : Nat) (L' : Nat → Nat), j ≤ 9 ∧ i = .int .i64 j ∧ Inv L w kb rb bs most L' wr ∧ Own L' 3 wr 5 1 v (bs.length + j) (rep (bs.length + j) 200)) (fun _ i _ => 9 - (intOf i).toNat)
      case atStart => exact ⟨0, L', by omega, rfl, iv3, ow3⟩
      case round =>
        obtain ⟨j, L', hj, rfl, iv3, ow3⟩ := hrel
        obtain ⟨p3, cap3, hv3, hm3⟩ := Own.len_pos ow3
        subst hv3
        by_cases hlt : j < 9
        · go_wp2_with (at_builtin; refine wpList_append rfl (.tmp 48) (.tmp 49) 35 35 rfl 5 Try.underlying35 infoByte rfl (by decide) _ (bs.length + j) (rep (bs.length + j) 200) rfl (ow3.1.alloc _) _ 1 [.int .u8 200] rfl (Src.fresh _ Try.underlying35 1 1 [.int .u8 200] rfl (by simp [Value.oneCell'])) (by unfold maxLen; omega) (by omega) ?_)
          intro v4 w4 hown4 hg4 hblk _
          obtain ⟨L4, s4, ow4, st4⟩ := Own.grown (Step.refl (· = 3) L' _) rfl ow3 (below_alloc _ _) hown4 hg4 (by simpa using hblk)
          go_wp2_with fail
          go_roundw
          case rel =>
            refine ⟨j + 1, L4, by omega, by go_num, iv3.step st4 (by omega), ?_⟩
            have e : rep (bs.length + (j + 1)) 200 = rep (bs.length + j) 200 ++ [.int .u8 200] := by
              unfold rep; rw [← Nat.add_assoc, List.replicate_succ', List.map_append]; rfl
            rw [e]; exact ow4
          case measure => simp [intOf]; omega
        · obtain rfl : j = 9 := by omega
          go_wp2_with fail
          have iv4 := iv3
          refine (bytes_calls L' 1 4 _ iv4.1 (by omega)).mono ?_; rintro e w5 ⟨v5, rfl, st5, ow5⟩
          have iv5 := iv4.step (st5) (by simp)
          have ow5b := ow3.step st5 (by simp)
          clear st5
          generalize ext L' _ 4 = L5 at *
          clear iv3 iv4 ow3
          obtain ⟨rv, r1, r2, r3, r4⟩ := iv5.2.1
          obtain ⟨rp, rcap, hrv, _⟩ := ownsRow_shape r3.1
          subst hrv
          have c0 : w5.cell? ⟨rb, 0, none⟩ = some (.slice rp bs.length rcap) := by rw [cell_of_heap r1]; rfl
          go_wp2_with fail
          refine (same_calls ow5.rd r3.rd).mono ?_; rintro e w6 ⟨rfl, n6, h6⟩
          rw [hsame]
          obtain ⟨iv6, ow6, ow6b⟩ : Inv L w kb rb bs most L5 w6 ∧ Own L5 4 w6 5 1 v5 bs.length (bs.map byt) ∧ Own L5 3 w6 5 1 (.slice p3 (bs.length + 9) cap3) (bs.length + 9) (rep (bs.length + 9) 200) := by
            rw [h6]; exact ⟨iv5.drewN _, ow5, ow5b⟩
          clear h6 iv5 r1 r2 r3 r4 ow5 ow5b c0
          go_wp2_with fail
          refine (full_rep ow6b 200 rfl).mono ?_; rintro e w7 ⟨rfl, rfl⟩
          obtain ⟨p6, cap6, hv6, hm6⟩ := Own.len_pos ow6
          subst hv6
          unfold maxLen at hm6
          go_wp2_with fail
          go_loopw [11] (fun i wr => ∃ (j : Nat) (L' : Nat → Nat) (ds : List UInt8), j ≤ bs.length ∧ i = .int .i64 j ∧ Inv L w kb rb bs most L' wr ∧ Own L' 4 wr 5 1 (.slice p6 bs.length cap6) bs.length (ds.map byt) ∧ ds.length = bs.length ∧ ds.take j = List.replicate j 201 ∧ Own L' 3 wr 5 1 (.slice p3 (bs.length + 9) cap3) (bs.length + 9) (rep (bs.length + 9) 200)) (fun i _ => bs.length - (intOf i).toNat)
          case atStart => exact ⟨0, L5, bs, by omega, rfl, iv6, ow6, rfl, rfl, ow6b⟩
          case round =>
            obtain ⟨j, L', ds, hj, rfl, iv3, ow3, hdl, hdt, owb⟩ := hrel
            have HDL := Lib.hid hdl
            have HDT := Lib.hid hdt
            clear hdl hdt
            by_cases hlt : j < bs.length
            · have hjd : j < ds.length := by have := HDL.out; omega
              obtain ⟨g, cp, hv, hLg, d0, d1, ow4, st4⟩ := Own.set ow3 (j := j) (by simpa using hjd) (.int .u8 201)
              cases hv
              go_wp2_with fail
              go_roundw
              case rel =>
                refine ⟨j + 1, L', ds.set j 201, by omega, by go_num, iv3.step st4 (by omega), ?_, by rw [List.length_set]; exact HDL.out, mark_step hjd HDT.out, owb.step st4 (by omega)⟩
                have e : (ds.set j 201).map byt = (ds.map byt).set j (.int .u8 201) := by rw [List.map_set]; rfl
                rw [e]; exact ow4
              case measure => simp [intOf]; omega
            · have hd : ds = List.replicate bs.length 201 := by
                have h1 := HDT.out
                obtain rfl : j = bs.length := by omega
                rwa [List.take_of_length_le (by rw [HDL.out]; exact Nat.le_refl _)] at h1
              subst hd
              go_wp2_with fail
              go_loopw [9, 12] (fun v i wr => ∃ (j : Nat) (L' : Nat → Nat), j ≤ 9 ∧ i = .int .i64 j ∧ Inv L w kb rb bs most L' wr ∧ Own L' 4 wr 5 1 v (bs.length + j) (rep (bs.length + j) 201) ∧ Own L' 3 wr 5 1 (.slice p3 (bs.length + 9) cap3) (bs.length + 9) (rep (bs.length + 9) 200)) (fun _ i _ => 9 - (intOf i).toNat)
              case atStart => exact ⟨0, L', by omega, rfl, iv3, ow3, owb⟩
              case round =>
                obtain ⟨j, L', hj, rfl, iv3, ow3, owb⟩ := hrel
                obtain ⟨p4, cap4, hv4, hm4⟩ := Own.len_pos ow3
                subst hv4
                by_cases hlt : j < 9
                · go_wp2_with (at_builtin; refine wpList_append rfl (.tmp 80) (.tmp 81) 35 35 rfl 5 Try.underlying35 infoByte rfl (by decide) _ (bs.length + j) (rep (bs.length + j) 201) rfl (ow3.1.alloc _) _ 1 [.int .u8 201] rfl (Src.fresh _ Try.underlying35 1 1 [.int .u8 201] rfl (by simp [Value.oneCell'])) (by unfold maxLen; omega) (by omega) ?_)
                  intro v4 w4 hown4 hg4 hblk _
                  obtain ⟨L4, s4, ow4, st4⟩ := Own.grown (Step.refl (· = 4) L' _) rfl ow3 (below_alloc _ _) hown4 hg4 (by simpa using hblk)
                  go_wp2_with fail
                  go_roundw
                  case rel =>
                    refine ⟨j + 1, L4, by omega, by go_num, iv3.step st4 (by omega), ?_, owb.step st4 (by omega)⟩
                    have e : rep (bs.length + (j + 1)) 201 = rep (bs.length + j) 201 ++ [.int .u8 201] := by
                      unfold rep; rw [← Nat.add_assoc, List.replicate_succ', List.map_append]; rfl
                    rw [e]; exact ow4
                  case measure => simp [intOf]; omega
                · obtain rfl : j = 9 := by omega
                  go_wp2_with fail
                  have iv4 := iv3
                  refine (bytes_calls L' 1 5 _ iv4.1 (by omega)).mono ?_; rintro e w5 ⟨v5, rfl, st5, ow5⟩
                  have iv5 := iv4.step (st5) (by simp)
                  have ow5b := owb.step st5 (by simp)
                  have ow5c := ow3.step st5 (by simp)
                  clear st5
                  generalize ext L' _ 5 = L5 at *
                  clear iv3 iv4 ow3 owb
                  obtain ⟨rv, r1, r2, r3, r4⟩ := iv5.2.1
                  obtain ⟨rp, rcap, hrv, _⟩ := ownsRow_shape r3.1
                  subst hrv
                  have c0 : w5.cell? ⟨rb, 0, none⟩ = some (.slice rp bs.length rcap) := by rw [cell_of_heap r1]; rfl
                  go_wp2_with fail
                  refine (same_calls ow5.rd r3.rd).mono ?_; rintro e w6 ⟨rfl, n6, h6⟩
                  rw [hsame]
                  obtain ⟨iv6, ow6b, ow6c⟩ : Inv L w kb rb bs most L5 w6 ∧ Own L5 3 w6 5 1 (.slice p3 (bs.length + 9) cap3) (bs.length + 9) (rep (bs.length + 9) 200) ∧ Own L5 4 w6 5 1 (.slice p4 (bs.length + 9) cap4) (bs.length + 9) (rep (bs.length + 9) 201) := by
                    rw [h6]; exact ⟨iv5.drewN _, ow5b, ow5c⟩
                  clear h6 iv5 r1 r2 r3 r4 ow5 ow5b ow5c c0
                  go_wp2_with fail
                  refine (full_rep ow6b 200 rfl).mono ?_; rintro e w7 ⟨rfl, rfl⟩
                  go_wp2_with fail
                  refine (full_rep ow6c 201 rfl).mono ?_; rintro e w7 ⟨rfl, rfl⟩
                  go_wp2_with fail
                  go_ret
                  exact ⟨rfl, L5, iv6.2.2⟩

end Go.Proofs.Ytajaonnpekdklaa.Ink
