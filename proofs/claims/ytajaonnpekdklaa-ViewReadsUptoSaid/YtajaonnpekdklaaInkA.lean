import Derived.Test.YtajaonnpekdklaaRows
import Derived.Test.YtajaonnpekdklaaMem
import Derived.OpenShut
import Derived.WalkSpells
set_option linter.unusedVariables false
set_option maxRecDepth 100000
namespace Go.Proofs.Ytajaonnpekdklaa.Ink
open Go.ChangeShapes Go.WideShapes Go.ChangeAt Go.RowKit Mem

theorem infoByte : (Try.prog.info? 5).map (fun i => (i.zero, i.size, i.bytes)) = some (some (.int .u8 0), 1, 1) := by kernel_rfl

def wideB (x : Int) : Bool := ((x == 1 || x == 2) || x == 4) || x == 8

theorem wide_calls (x : Int) (w : World) : Calls Try.prog 40 #[.int .i64 x] w fun e w' => e = .returned (.bool (wideB x)) ∧ w = w' := by
  go_enter Try.func40, Try.ntmps40
  go_wp2
  all_goals go_ret
  all_goals exact ⟨by simp [wideB, *], rfl⟩

theorem room_calls {L : Nat → Nat} {c : Nat} {w : World} {kb : Nat} {bs : List UInt8} {most : Int} (h : InkAt 79 L c w kb bs most) (hb : (bs.length : Int) ≤ most) (hm : most ≤ 16777216) (n : Int) :
    Calls Try.prog 41 #[.pointer (some ⟨kb, 0, none⟩), .int .i64 n] w fun e w' => e = .returned (.bool (decide (n ≤ most - bs.length))) ∧ ∃ k, w' = w.drewN k := by
  obtain ⟨v, h1, h2, h3, h4⟩ := h
  obtain ⟨p, cap, rfl, _⟩ := ownsRow_shape h3.1
  have c0 : w.cell? ⟨kb, 0, none⟩ = some (.slice p bs.length cap) := by rw [cell_of_heap h1]; rfl
  have c1 : w.cell? ⟨kb, 1, none⟩ = some (.int .i64 most) := by rw [cell_of_heap h1]; rfl
  clear h1 h2 h3 h4
  go_enter Try.func41, Try.ntmps41
  go_wp2
  go_quiet (fail)
  go_wp2
  go_ret
  exact ⟨rfl, _, rfl⟩


def numberE (len : Nat) (most : Int) (width : Int) : Int := if wideB width then (if width ≤ most - len then 0 else 4) else 1
def numberB (bs : List UInt8) (most : Int) (x : Int) (width : Int) : List UInt8 := if numberE bs.length most width = 0 then bs ++ leB x width.toNat else bs

/-- What a method of an ink leaves. -/
def Left (T : TypeId) (L : Nat → Nat) (c : Nat) (w : World) (kb : Nat) (bs' : List UInt8) (most : Int) (w' : World) : Prop := ∃ L', Step (· = c) L w L' w' ∧ InkAt T L' c w' kb bs' most

theorem number_calls {L : Nat → Nat} {c : Nat} {w : World} {kb : Nat} {bs : List UInt8} {most : Int} (h : InkAt 79 L c w kb bs most) (hb : (bs.length : Int) ≤ most) (hm : most ≤ 16777216) (x width : Int) (hx : 0 ≤ x) (hx2 : x ≤ 18446744073709551615) :
    Calls Try.prog 14 #[.pointer (some ⟨kb, 0, none⟩), .int .u64 x, .int .i64 width] w fun e w' => e = .returned (.int .i64 (numberE bs.length most width)) ∧ Left 79 L c w kb (numberB bs most x width) most w' := by
  by_cases hw : wideB width = true
  · by_cases hr : width ≤ most - bs.length
    · have hr' : decide (width ≤ most - bs.length) = true := by simpa using hr
      have hw0 : 0 ≤ width ∧ width ≤ 8 := by
        simp [wideB] at hw; omega
      obtain ⟨wd, rfl⟩ := Int.eq_ofNat_of_zero_le hw0.1
      go_enter Try.func14, Try.ntmps14
      go_wp2_with fail
      refine (wide_calls _ _).mono ?_; rintro e w1 ⟨rfl, rfl⟩
      go_wp2_with fail
      refine (room_calls h hb hm _).mono ?_; rintro e w1 ⟨rfl, nq, rfl⟩
      go_wp2_with fail
      go_loopw [1, 15] (fun y i wr => ∃ (j : Nat) (L' : Nat → Nat) (bj : List UInt8), j ≤ wd ∧ i = .int .i64 j ∧ y = .int .u64 (x / 256 ^ j) ∧ bj = bs ++ leB x j ∧ Step (· = c) L w L' wr ∧ InkAt 79 L' c wr kb bj most) (fun _ i _ => wd - (intOf i).toNat)
      case atStart => exact ⟨0, L, bs, by omega, rfl, by simp, by simp [leB], (Step.refl _ _ _).drewN _, h⟩
      case round =>
        obtain ⟨j, L', bj, hj, rfl, rfl, hbj, st, hk⟩ := hrel
        have hl : bj.length ≤ 16777216 + 8 := by rw [hbj]; simp [leB_length]; omega
        have Hbj := Lib.hid hbj
        clear hbj
        have hy : 0 ≤ x / 256 ^ j ∧ x / 256 ^ j ≤ 18446744073709551615 := div_pow_bound hx hx2 j
        by_cases hlt : j < wd
        · obtain ⟨v, k1, k2, k3, k4⟩ := hk
          obtain ⟨p, cap, hv, _⟩ := ownsRow_shape k3.1
          subst hv
          have c0 : wr.cell? ⟨kb, 0, none⟩ = some (.slice p bj.length cap) := by rw [cell_of_heap k1]; rfl
          go_wp2_with (at_builtin; refine wpList_append rfl (.tmp 21) (.tmp 24) 35 35 rfl 5 Try.underlying35 infoByte rfl (by decide) _ bj.length (bj.map byt) rfl (k3.1.alloc _) _ 1 [.int .u8 (x / 256 ^ j % 256)] rfl (Src.fresh wr Try.underlying35 1 1 [.int .u8 (x / 256 ^ j % 256)] rfl (by simp [Value.oneCell'])) (by unfold maxLen; omega) (by omega) ?_)
          intro v2 w2 hown2 hg2 hblk _
          obtain ⟨d0, d1⟩ := InkAt.behind k1 k4 (below_alloc wr _) hg2
          obtain ⟨p2, cap2, hv2, _⟩ := ownsRow_shape hown2
          subst hv2
          go_wp2_with fail
          have hown3 : w2.ownsRow 0 5 1 (.slice p2 (bj.length + 1) cap2) (bj ++ [lowByte (x / 256 ^ j)]).length ((bj ++ [lowByte (x / 256 ^ j)]).map byt) := by
            have := hown2
            rw [← lowByte_emod _] at this
            simpa using this
          obtain ⟨L'', st', hk'⟩ := InkAt.grown st k1 k2 k3 k4 (below_alloc wr _) hown3 hg2 (by simpa using hblk)
          go_roundw
          case rel => exact ⟨j + 1, L'', _, by omega, by go_num, by rw [div_pow_succ], by rw [Hbj.out]; simp [leB], st', hk'⟩
          case measure => simp [intOf]; omega
        · go_wp2_with fail
          go_ret
          have hjw : j = wd := by omega
          subst hjw
          refine ⟨?_, L', st, ?_⟩
          · rw [numberE, if_pos hw, if_pos hr]; rfl
          · rw [numberB, numberE, if_pos hw, if_pos hr, if_pos rfl]; rw [Hbj.out] at hk; exact hk
    · have hr' : decide (width ≤ most - bs.length) = false := by simpa using hr
      have hE : numberE bs.length most width = 4 := by rw [numberE, if_pos hw, if_neg hr]
      have HE := Lib.hid hE
      clear hE
      go_enter Try.func14, Try.ntmps14
      go_wp2_with fail
      refine (wide_calls _ _).mono ?_; rintro e w1 ⟨rfl, rfl⟩
      go_wp2_with fail
      refine (room_calls h hb hm _).mono ?_; rintro e w1 ⟨rfl, nq, rfl⟩
      go_wp2_with fail
      go_ret
      exact ⟨by rw [HE.out]; rfl, L, (Step.refl _ _ _).drewN _, by rw [numberB, HE.out]; exact h⟩
  · have hw' : wideB width = false := by simpa using hw
    have hE : numberE bs.length most width = 1 := by rw [numberE, if_neg hw]
    have HE := Lib.hid hE
    clear hE
    go_enter Try.func14, Try.ntmps14
    go_wp2_with fail
    refine (wide_calls _ _).mono ?_; rintro e w1 ⟨rfl, rfl⟩
    go_wp2_with fail
    go_ret
    exact ⟨by rw [HE.out]; rfl, L, Step.refl _ _ _, by rw [numberB, HE.out]; exact h⟩

def textE (len : Nat) (most : Int) (n : Nat) : Int := if (n : Int) ≤ most - len then 0 else 4
def textB (bs : List UInt8) (most : Int) (s : List UInt8) : List UInt8 := if textE bs.length most s.length = 0 then bs ++ s else bs

theorem text_calls {L : Nat → Nat} {c : Nat} {w : World} {kb : Nat} {bs : List UInt8} {most : Int} (h : InkAt 79 L c w kb bs most) (hb : (bs.length : Int) ≤ most) (hm : most ≤ 16777216) (s : ByteArray) (hs : s.size ≤ maxLen) :
    Calls Try.prog 18 #[.pointer (some ⟨kb, 0, none⟩), .string s] w fun e w' => e = .returned (.int .i64 (textE bs.length most s.size)) ∧ Left 79 L c w kb (textB bs most s.data.toList) most w' := by
  unfold maxLen at hs
  have hsl : s.data.toList.length = s.size := by simp
  by_cases hr : (s.size : Int) ≤ most - bs.length
  · have hr' : decide ((s.size : Int) ≤ most - bs.length) = true := by simpa using hr
    have hE : textE bs.length most s.size = 0 := by rw [textE, if_pos hr]
    have HE := Lib.hid hE
    have hB : textB bs most s.data.toList = bs ++ s.data.toList := by rw [textB, hsl, HE.out]; rfl
    have HB := Lib.hid hB
    clear hE hB
    have H := Lib.hid h
    obtain ⟨v, k1, k2, k3, k4⟩ := h
    obtain ⟨p, cap, hv, _⟩ := ownsRow_shape k3.1
    subst hv
    have c0 : w.cell? ⟨kb, 0, none⟩ = some (.slice p bs.length cap) := by rw [cell_of_heap k1]; rfl
    go_enter Try.func18, Try.ntmps18
    go_wp2_with fail
    refine (room_calls H.out hb hm _).mono ?_; rintro e w1 ⟨rfl, nq, rfl⟩
    go_wp2_with (at_builtin; refine wpList_append rfl (.tmp 14) (.tmp 15) 35 9 rfl 5 Try.underlying35 infoByte rfl (by decide) _ bs.length (bs.map byt) rfl k3.1 _ s.size (byteCells s) rfl (Src.ofString _ Try.underlying9 s) (by unfold maxLen; omega) (by omega) ?_)
    intro v2 w2 hown2 hg2 hblk _
    obtain ⟨d0, d1⟩ := InkAt.behind (w1 := w.drewN nq) k1 k4 (below_drewN w nq) hg2
    obtain ⟨p2, cap2, hv2, _⟩ := ownsRow_shape hown2
    subst hv2
    go_wp2_with fail
    go_ret
    have hown3 : w2.ownsRow 0 5 1 (.slice p2 (bs.length + s.size) cap2) (bs ++ s.data.toList).length ((bs ++ s.data.toList).map byt) := by
      have := hown2
      rw [List.map_append, List.length_append, hsl]
      exact this
    obtain ⟨L'', st', hk'⟩ := InkAt.grown (Step.refl _ L w) k1 k2 k3 k4 (below_drewN w nq) hown3 hg2 (by simpa using hblk)
    exact ⟨by rw [HE.out]; rfl, L'', st', by rw [HB.out]; exact hk'⟩
  · have hr' : decide ((s.size : Int) ≤ most - bs.length) = false := by simpa using hr
    have hE : textE bs.length most s.size = 4 := by rw [textE, if_neg hr]
    have HE := Lib.hid hE
    have hB : textB bs most s.data.toList = bs := by rw [textB, hsl, HE.out]; rfl
    have HB := Lib.hid hB
    clear hE hB
    go_enter Try.func18, Try.ntmps18
    go_wp2_with fail
    refine (room_calls h hb hm _).mono ?_; rintro e w1 ⟨rfl, nq, rfl⟩
    go_wp2_with fail
    go_ret
    exact ⟨by rw [HE.out]; rfl, L, (Step.refl _ _ _).drewN _, by rw [HB.out]; exact h⟩

def fillE (len : Nat) (most : Int) (n : Int) : Int := if n < 0 then 1 else if n ≤ most - len then 0 else 4
def fillB (bs : List UInt8) (most : Int) (n : Int) (b : UInt8) : List UInt8 := if fillE bs.length most n = 0 then bs ++ List.replicate n.toNat b else bs

theorem fill_calls {L : Nat → Nat} {c : Nat} {w : World} {kb : Nat} {bs : List UInt8} {most : Int} (h : InkAt 79 L c w kb bs most) (hb : (bs.length : Int) ≤ most) (hm : most ≤ 16777216) (n : Int) (b : UInt8) :
    Calls Try.prog 20 #[.pointer (some ⟨kb, 0, none⟩), .int .i64 n, .int .u8 b.toNat] w fun e w' => e = .returned (.int .i64 (fillE bs.length most n)) ∧ Left 79 L c w kb (fillB bs most n b) most w' := by
  by_cases h0 : n < 0
  · have hE : fillE bs.length most n = 1 := by rw [fillE, if_pos h0]
    have HE := Lib.hid hE
    have hB : fillB bs most n b = bs := by rw [fillB, HE.out]; rfl
    have HB := Lib.hid hB
    clear hE hB
    go_enter Try.func20, Try.ntmps20
    go_wp2_with fail
    go_ret
    exact ⟨by rw [HE.out]; rfl, L, Step.refl _ _ _, by rw [HB.out]; exact h⟩
  · obtain ⟨m, rfl⟩ := Int.eq_ofNat_of_zero_le (Int.not_lt.1 h0)
    by_cases hr : (m : Int) ≤ most - bs.length
    · have hr' : decide ((m : Int) ≤ most - bs.length) = true := by simpa using hr
      have hE : fillE bs.length most m = 0 := by rw [fillE, if_neg h0, if_pos hr]
      have HE := Lib.hid hE
      have hB : fillB bs most m b = bs ++ List.replicate m b := by rw [fillB, HE.out]; rfl
      have HB := Lib.hid hB
      clear hE hB
      go_enter Try.func20, Try.ntmps20
      go_wp2_with fail
      refine (room_calls h hb hm _).mono ?_; rintro e w1 ⟨rfl, nq, rfl⟩
      go_wp2_with fail
      go_loopw [14] (fun i wr => ∃ (j : Nat) (L' : Nat → Nat) (bj : List UInt8), j ≤ m ∧ i = .int .i64 j ∧ bj = bs ++ List.replicate j b ∧ Step (· = c) L w L' wr ∧ InkAt 79 L' c wr kb bj most) (fun i _ => m - (intOf i).toNat)
      case atStart => exact ⟨0, L, bs, by omega, rfl, by simp, (Step.refl _ _ _).drewN _, h⟩
      case round =>
        obtain ⟨j, L', bj, hj, rfl, hbj, st, hk⟩ := hrel
        have hl : bj.length ≤ 16777216 + 8 := by rw [hbj]; simp; omega
        have Hbj := Lib.hid hbj
        clear hbj
        by_cases hlt : j < m
        · obtain ⟨v, k1, k2, k3, k4⟩ := hk
          obtain ⟨p, cap, hv, _⟩ := ownsRow_shape k3.1
          subst hv
          have c0 : wr.cell? ⟨kb, 0, none⟩ = some (.slice p bj.length cap) := by rw [cell_of_heap k1]; rfl
          go_wp2_with (at_builtin; refine wpList_append rfl (.tmp 20) (.tmp 22) 35 35 rfl 5 Try.underlying35 infoByte rfl (by decide) _ bj.length (bj.map byt) rfl (k3.1.alloc _) _ 1 [.int .u8 b.toNat] rfl (Src.fresh wr Try.underlying35 1 1 [.int .u8 b.toNat] rfl (by simp [Value.oneCell'])) (by unfold maxLen; omega) (by omega) ?_)
          intro v2 w2 hown2 hg2 hblk _
          obtain ⟨d0, d1⟩ := InkAt.behind k1 k4 (below_alloc wr _) hg2
          obtain ⟨p2, cap2, hv2, _⟩ := ownsRow_shape hown2
          subst hv2
          go_wp2_with fail
          have hown3 : w2.ownsRow 0 5 1 (.slice p2 (bj.length + 1) cap2) (bj ++ [b]).length ((bj ++ [b]).map byt) := by
            simpa [byt] using hown2
          obtain ⟨L'', st', hk'⟩ := InkAt.grown st k1 k2 k3 k4 (below_alloc wr _) hown3 hg2 (by simpa using hblk)
          go_roundw
          case rel => exact ⟨j + 1, L'', _, by omega, by go_num, by rw [Hbj.out, List.append_assoc, ← List.replicate_succ'], st', hk'⟩
          case measure => simp [intOf]; omega
        · go_wp2_with fail
          go_ret
          have hjw : j = m := by omega
          subst hjw
          exact ⟨by rw [HE.out]; rfl, L', st, by rw [HB.out, ← Hbj.out]; exact hk⟩
    · have hr' : decide ((m : Int) ≤ most - bs.length) = false := by simpa using hr
      have hE : fillE bs.length most m = 4 := by rw [fillE, if_neg h0, if_neg hr]
      have HE := Lib.hid hE
      have hB : fillB bs most m b = bs := by rw [fillB, HE.out]; rfl
      have HB := Lib.hid hB
      clear hE hB
      go_enter Try.func20, Try.ntmps20
      go_wp2_with fail
      refine (room_calls h hb hm _).mono ?_; rintro e w1 ⟨rfl, nq, rfl⟩
      go_wp2_with fail
      go_ret
      exact ⟨by rw [HE.out]; rfl, L, (Step.refl _ _ _).drewN _, by rw [HB.out]; exact h⟩

theorem len_calls {T : TypeId} {L : Nat → Nat} {c : Nat} {w : World} {kb : Nat} {bs : List UInt8} {most : Int} (h : InkAt 79 L c w kb bs most) :
    Calls Try.prog 46 #[.pointer (some ⟨kb, 0, none⟩)] w fun e w' => e = .returned (.int .i64 bs.length) ∧ w = w' := by
  obtain ⟨v, k1, k2, k3, k4⟩ := h
  obtain ⟨p, cap, hv, _⟩ := ownsRow_shape k3.1
  subst hv
  have c0 : w.cell? ⟨kb, 0, none⟩ = some (.slice p bs.length cap) := by rw [cell_of_heap k1]; rfl
  go_enter Try.func46, Try.ntmps46
  go_wp2_with fail
  go_ret
  exact ⟨rfl, rfl⟩

def padN (len : Nat) (to : Int) : Int := -((len : Int) % to) % to

def padE (len : Nat) (most : Int) (to : Int) : Int := if to < 1 ∨ 64 < to then 1 else fillE len most (padN len to)
def padB (bs : List UInt8) (most : Int) (to : Int) : List UInt8 := if to < 1 ∨ 64 < to then bs else fillB bs most (padN bs.length to) 0

theorem pad_calls {L : Nat → Nat} {c : Nat} {w : World} {kb : Nat} {bs : List UInt8} {most : Int} (hI : InkAt 79 L c w kb bs most) (hb : (bs.length : Int) ≤ most) (hm : most ≤ 16777216) (to : Int) :
    Calls Try.prog 22 #[.pointer (some ⟨kb, 0, none⟩), .int .i64 to] w fun e w' => e = .returned (.int .i64 (padE bs.length most to)) ∧ Left 79 L c w kb (padB bs most to) most w' := by
  by_cases ht : to < 1 ∨ 64 < to
  · have HT := Lib.hid ht
    by_cases q1 : to < 1
    · clear ht
      go_enter Try.func22, Try.ntmps22
      go_wp2_with fail
      go_ret
      refine ⟨by rw [padE, if_pos HT.out]; rfl, L, Step.refl _ _ _, by rw [padB, if_pos HT.out]; exact hI⟩
    · have q2 : 64 < to := by omega
      clear ht
      go_enter Try.func22, Try.ntmps22
      go_wp2_with fail
      go_ret
      refine ⟨by rw [padE, if_pos HT.out]; rfl, L, Step.refl _ _ _, by rw [padB, if_pos HT.out]; exact hI⟩
  · have HT := Lib.hid ht
    have q1 : 1 ≤ to := by omega
    have q2 : to ≤ 64 := by omega
    clear ht
    have HI := Lib.hid hI
    obtain ⟨v, k1, k2, k3, k4⟩ := hI
    obtain ⟨p, cap, hv, _⟩ := ownsRow_shape k3.1
    subst hv
    have c0 : w.cell? ⟨kb, 0, none⟩ = some (.slice p bs.length cap) := by rw [cell_of_heap k1]; rfl
    have hq : 0 ≤ (bs.length : Int) % to ∧ (bs.length : Int) % to < to := ⟨Int.emod_nonneg _ (by omega), Int.emod_lt_of_pos _ (by omega)⟩
    go_enter Try.func22, Try.ntmps22
    go_wp2_with fail
    refine (fill_calls HI.out hb hm _ 0).mono ?_; rintro e w1 ⟨rfl, hleft⟩
    go_wp2_with fail
    go_ret
    exact ⟨by rw [padE, if_neg HT.out]; rfl, by rw [padB, if_neg HT.out]; exact hleft⟩

def minMost (most : Int) : Int := min (max most 0) 16777216

theorem InkAt.new (T : TypeId) (L : Nat → Nat) (c : Nat) (w : World) (m : Int) :
    Step (fun _ => False) L w (ext L w.heap.size c) (w.alloc (.cells #[.slice none 0 0, .int .i64 m] T)) ∧ InkAt T (ext L w.heap.size c) c (w.alloc (.cells #[.slice none 0 0, .int .i64 m] T)) w.heap.size [] m := by
  refine ⟨Step.of_below (below_alloc w _) _ c, .slice none 0 0, ?_, ext_new (Nat.le_refl _), Own.nil _ _ _ _ _, by simp [Value.ownBlock]⟩
  unfold World.alloc; simp only [Array.getElem?_push_size]

theorem new_calls (L : Nat → Nat) (c : Nat) (w : World) (most : Int) :
    Calls Try.prog 13 #[.int .i64 most] w fun e w' => e = .returned (.pointer (some ⟨w.heap.size, 0, none⟩)) ∧ Step (fun _ => False) L w (ext L w.heap.size c) w' ∧ InkAt 79 (ext L w.heap.size c) c w' w.heap.size [] (minMost most) := by
  by_cases q1 : most < 0
  · have hM := InkAt.new 79 L c w 0
    have e0 : minMost most = 0 := by unfold minMost; omega
    have E0 := Lib.hid e0
    clear e0
    go_enter Try.func13, Try.ntmps13
    go_wp2_with fail
    go_ret
    exact ⟨rfl, by rw [E0.out]; exact hM⟩
  · by_cases q2 : 16777216 < most
    · have hM := InkAt.new 79 L c w 16777216
      have e0 : minMost most = 16777216 := by unfold minMost; omega
      have E0 := Lib.hid e0
      clear e0
      go_enter Try.func13, Try.ntmps13
      go_wp2_with fail
      go_ret
      exact ⟨rfl, by rw [E0.out]; exact hM⟩
    · have hM := InkAt.new 79 L c w most
      have e0 : minMost most = most := by unfold minMost; omega
      have E0 := Lib.hid e0
      clear e0
      go_enter Try.func13, Try.ntmps13
      go_wp2_with fail
      go_ret
      exact ⟨rfl, by rw [E0.out]; exact hM⟩

def SomeVal (P : Value → World → Prop) (e : Ending) (w' : World) : Prop := ∃ v, e = .returned v ∧ P v w'

theorem clone_calls (L : Nat → Nat) (c d : Nat) (w : World) (v : Value) (bs : List UInt8) (hv : Rd L d w 1 v bs.length (bs.map byt)) (hbig : bs.length ≤ 140737488355328) :
    Calls Try.prog 42 #[v] w (SomeVal fun v' w' => Step (fun _ => False) L w (ext L w.heap.size c) w' ∧ Own (ext L w.heap.size c) c w' 5 1 v' bs.length (bs.map byt)) := by
  have hst : Step (fun _ => False) L w (ext L w.heap.size c) (w.alloc (.cells #[] 5)) := Step.of_below (below_alloc w _) _ c
  have hsrc := Rd.src (P := Try.prog) (hv.step hst (by simp)) (tx := 35) Try.underlying35 (by intro u hu; obtain ⟨b, _, rfl⟩ := List.mem_map.1 hu; rfl)
  have hrow : (w.alloc (.cells #[] 5)).ownsRow 0 5 1 (.slice (some ⟨w.heap.size, 0, none⟩) 0 0) 0 [] := World.ownsRow_made w #[] 0 (Nat.zero_le _) (Nat.zero_le _) rfl
  obtain ⟨hl, p, cap, rfl, hn, hm, hcells⟩ := hv
  cases p with
  | none =>
    have hb0 : bs = [] := by
      cases bs with
      | nil => rfl
      | cons b r => obtain ⟨_, _, e, _⟩ := hcells 0 (byt b) (by simp); cases e
    subst hb0
    have hnil := Lib.run_eql_slice_nil (P := Try.prog) w 35 5 none 0 cap 0 0 Try.underlying35
    have hM : Step (fun _ => False) L w (ext L w.heap.size c) w := (Step.refl _ _ _).toExt c
    clear hcells hsrc
    go_enter Try.func42, Try.ntmps42
    go_wp2_with fail
    go_ret
    exact ⟨_, rfl, hM, Own.nil _ _ _ _ _⟩
  | some a =>
    have hnil := Lib.run_eql_slice_nil (P := Try.prog) w 35 5 (some a) bs.length cap 0 0 Try.underlying35
    clear hcells
    go_enter Try.func42, Try.ntmps42
    go_wp2_with (at_builtin; refine wpList_append rfl (.tmp 5) (.tmp 6) 35 35 rfl 5 Try.underlying35 infoByte rfl (by decide) _ 0 [] rfl hrow _ bs.length (bs.map byt) rfl hsrc (by unfold maxLen; omega) (by omega) ?_)
    intro v2 w2 hown2 hg2 hblk _
    go_wp2_with fail
    go_ret
    have hcol : ∀ g, v2.ownBlock = some g → ext L w.heap.size c g = c := by
      intro g hg
      rcases hblk with h | h <;> rw [h] at hg
      · cases hg; exact ext_new (Nat.le_refl _)
      · cases hg; exact ext_new (by simp)
    refine ⟨v2, rfl, Step.of_below ((below_alloc w _).grown hg2 (by simp) (by intro k hk; cases hk; exact Nat.le_refl _)) _ c, by simpa using hown2, hcol⟩

theorem bytes_calls (L : Nat → Nat) (c c' : Nat) (w : World) {kb : Nat} {bs : List UInt8} {most : Int} (hI : InkAt 79 L c w kb bs most) (hbig : bs.length ≤ 140737488355328) :
    Calls Try.prog 15 #[.pointer (some ⟨kb, 0, none⟩)] w (SomeVal fun v' w' => Step (fun _ => False) L w (ext L w.heap.size c') w' ∧ Own (ext L w.heap.size c') c' w' 5 1 v' bs.length (bs.map byt)) := by
  obtain ⟨v, k1, k2, k3, k4⟩ := hI
  obtain ⟨p, cap, hv, _⟩ := ownsRow_shape k3.1
  subst hv
  have c0 : w.cell? ⟨kb, 0, none⟩ = some (.slice p bs.length cap) := by rw [cell_of_heap k1]; rfl
  go_enter Try.func15, Try.ntmps15
  go_wp2_with fail
  refine (clone_calls L c' c w _ bs k3.rd hbig).mono ?_; rintro e w1 ⟨v', rfl, h1, h2⟩
  go_wp2_with fail
  go_ret
  exact ⟨v', rfl, h1, h2⟩

end Go.Proofs.Ytajaonnpekdklaa.Ink
