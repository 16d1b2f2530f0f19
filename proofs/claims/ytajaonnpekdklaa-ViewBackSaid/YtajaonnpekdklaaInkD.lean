import Derived.Test.YtajaonnpekdklaaInkC
set_option linter.unusedVariables false
set_option maxRecDepth 100000
namespace Go.Proofs.Ytajaonnpekdklaa.Ink
open Go.ChangeShapes Go.WideShapes Go.ChangeAt Go.RowKit Mem

structure OpD where
  kind : Int
  x : Int
  n : Int
  s : ByteArray

/-- A script, in memory of colour 0. -/
def RdOps (L : Nat → Nat) (w : World) (p : Option Addr) (l : List OpD) : Prop :=
  ∀ k (h : k < l.length), ∃ b off, p = some ⟨b, off, none⟩ ∧ L b = 0 ∧ w.cell? ⟨b, off + k * 4, none⟩ = some (.int .i64 l[k].kind) ∧ w.cell? ⟨b, off + k * 4 + 1, none⟩ = some (.int .u64 l[k].x) ∧
    w.cell? ⟨b, off + k * 4 + 2, none⟩ = some (.int .i64 l[k].n) ∧ w.cell? ⟨b, off + k * 4 + 3, none⟩ = some (.string l[k].s)

theorem RdOps.step {L L' : Nat → Nat} {w w' : World} {C : Nat → Prop} {p : Option Addr} {l : List OpD} (h : RdOps L w p l) (st : Step C L w L' w') (hC : ¬ C 0) : RdOps L' w' p l := by
  intro k hk
  obtain ⟨b, off, hp, hL, e0, e1, e2, e3⟩ := h k hk
  have hb : b < w.heap.size := World.block_lt_of_cell? w _ e0
  exact ⟨b, off, hp, (st.col b hb).trans hL, st.cell e0 (by rw [hL]; exact hC), st.cell e1 (by rw [hL]; exact hC), st.cell e2 (by rw [hL]; exact hC), st.cell e3 (by rw [hL]; exact hC)⟩

def OpOk (o : OpD) : Prop := 0 ≤ o.x ∧ o.x ≤ 18446744073709551615 ∧ o.s.size ≤ maxLen


theorem numberB_le {bs : List UInt8} {m x n : Int} (h : (bs.length : Int) ≤ m) : ((numberB bs m x n).length : Int) ≤ m := by
  unfold numberB numberE
  by_cases h1 : wideB n = true
  · have : 0 ≤ n := by simp [wideB] at h1; omega
    by_cases h2 : n ≤ m - bs.length
    · rw [if_pos h1, if_pos h2, if_pos rfl, List.length_append, leB_length]; omega
    · rw [if_pos h1, if_neg h2, if_neg (by decide)]; exact h
  · rw [if_neg h1, if_neg (by decide)]; exact h
theorem textB_le {bs : List UInt8} {m : Int} {s : List UInt8} (h : (bs.length : Int) ≤ m) : ((textB bs m s).length : Int) ≤ m := by
  unfold textB textE
  by_cases h2 : (s.length : Int) ≤ m - bs.length
  · rw [if_pos h2, if_pos rfl, List.length_append]; omega
  · rw [if_neg h2, if_neg (by decide)]; exact h
theorem fillB_le {bs : List UInt8} {m n : Int} {b : UInt8} (h : (bs.length : Int) ≤ m) : ((fillB bs m n b).length : Int) ≤ m := by
  unfold fillB fillE
  by_cases h1 : n < 0
  · rw [if_pos h1, if_neg (by decide)]; exact h
  · by_cases h2 : n ≤ m - bs.length
    · rw [if_neg h1, if_pos h2, if_pos rfl, List.length_append, List.length_replicate]; omega
    · rw [if_neg h1, if_neg h2, if_neg (by decide)]; exact h
theorem padB_le {bs : List UInt8} {m n : Int} (h : (bs.length : Int) ≤ m) : ((padB bs m n).length : Int) ≤ m := by
  unfold padB
  by_cases h1 : n < 1 ∨ 64 < n
  · rw [if_pos h1]; exact h
  · rw [if_neg h1]; exact fillB_le h
theorem lowByte_toNat (x : Int) : x % 256 = ((lowByte x).toNat : Int) := by
  have := lowByte_emod x
  unfold byt at this
  injection this with _ h
  exact h.symm
theorem fill_any {L : Nat → Nat} {c : Nat} {w : World} {kb : Nat} {bs : List UInt8} {most : Int} (h : InkAt 79 L c w kb bs most) (hb : (bs.length : Int) ≤ most) (hm : most ≤ 16777216) (n x : Int) :
    Calls Try.prog 20 #[.pointer (some ⟨kb, 0, none⟩), .int .i64 n, .int .u8 (x % 256)] w fun e w' => e = .returned (.int .i64 (fillE bs.length most n)) ∧ Left 79 L c w kb (fillB bs most n (lowByte x)) most w' := by
  rw [lowByte_toNat]; exact fill_calls h hb hm n _
theorem rfill_any {L : Nat → Nat} {c : Nat} {w : World} {kb : Nat} {bs : List UInt8} {most : Int} (h : InkAt 84 L c w kb bs most) (hb : (bs.length : Int) ≤ most) (hm : most ≤ 16777216) (n x : Int) :
    Calls Try.prog 21 #[.pointer (some ⟨kb, 0, none⟩), .int .i64 n, .int .u8 (x % 256)] w fun e w' => e = .returned (.int .i64 (fillE bs.length most n)) ∧ Left 84 L c w kb (fillB bs most n (lowByte x)) most w' := by
  rw [lowByte_toNat]; exact rfill_calls h hb hm n _

theorem ink_walk {L : Nat → Nat} {w : World} (most : Int) (p : Option Addr) (cap : Nat) (l : List OpD) (hl : l.length ≤ 9223372036854775807) (hrd : RdOps L w p l) (hok : ∀ k (h : k < l.length), OpOk l[k]) (hL : ∀ k, k < w.heap.size → L k = 0) :
    Calls Try.prog 5 #[.int .i64 most, .slice p l.length cap] w fun e w' => e = .returned (.bool true) ∧ Below w.heap.size w w' := by
  go_enter Try.func5, Try.ntmps5
  go_wp2_with fail
  refine (new_calls L 1 w most).mono ?_; rintro e w1 ⟨rfl, st1, ik1⟩
  go_wp2_with fail
  refine (new_calls (ext L w.heap.size 1) 3 w1 1).mono ?_; rintro e w2 ⟨rfl, st2, ik2⟩
  have ik1' := ik1.step st2 (by simp)
  have hr2 : RdOps _ w2 p l := (hrd.step st1 (by simp)).step st2 (by simp)
  have s2 := (st1.trans st2).mono (D := fun c => 1 ≤ c) (by simp)
  clear st1 st2 ik1 hrd
  generalize ext (ext L w.heap.size 1) w1.heap.size 3 = L2 at *
  go_wp2_with fail
  refine (number_calls ik2 (by decide) (by decide) 300 1 (by omega) (by omega)).mono ?_; rintro e w3 ⟨rfl, L3, st3, ik3⟩
  have ik1 := ik1'.step st3 (by simp)
  have hr3 := hr2.step st3 (by simp)
  have s3 := s2.trans (st3.mono (by omega))
  rw [show numberE [].length (minMost 1) 1 = 0 from by decide]
  rw [show numberB [] (minMost 1) 300 1 = [44] from by decide] at ik3
  clear st3 ik2 hr2 s2 ik1'
  go_wp2_with fail
  refine (bytes_calls L3 3 4 w3 ik3 (by simp)).mono ?_; rintro e w4 ⟨v4, rfl, st4, ow4⟩
  have ik1' := ik1.step st4 (by simp)
  have hr4 := hr3.step st4 (by simp)
  have s4 := s3.trans (st4.mono (by simp))
  clear st4 ik1 hr3 s3 ik3
  generalize ext L3 w3.heap.size 4 = L4 at *
  obtain ⟨g, cp, rfl, hLg, d0, d1, hx, _⟩ := Own.set ow4 (j := 0) (by simp) (.int .u8 0)
  have d0' : w4.cell? ⟨g, 0, none⟩ = some (.int .u8 44) := d0
  clear d0 ow4 hx d1
  go_wp2_with fail
  refine (rnew_calls L4 2 w4 most).mono ?_; rintro e w5 ⟨rfl, st5, rk5⟩
  have iv5 : Inv L4 w4 w.heap.size w4.heap.size [] (minMost most) (ext L4 w4.heap.size 2) w5 := ⟨ik1'.step st5 (by simp), rk5, st5.mono (by simp)⟩
  have hr5 := hr4.step st5 (by simp)
  have s5 := s4.trans (st5.mono (by simp))
  generalize ext L4 w4.heap.size 2 = L5 at *
  generalize w4.heap.size = rb at *
  have hmm : 0 ≤ minMost most ∧ minMost most ≤ 16777216 := by unfold minMost; omega
  generalize minMost most = mm at *
  go_wp2_with fail
  go_loopw [10] (fun i wr => ∃ (k : Nat) (L' : Nat → Nat) (bs : List UInt8), k ≤ l.length ∧ i = .int .i64 k ∧ InkAt 79 L' 1 wr w.heap.size bs mm ∧ InkAt 84 L' 2 wr rb bs mm ∧ (bs.length : Int) ≤ mm ∧ RdOps L' wr p l ∧ Step (fun c => 1 ≤ c) L w L' wr) (fun i _ => l.length - (intOf i).toNat)
  case atStart => exact ⟨0, L5, [], by omega, rfl, iv5.1, iv5.2.1, hmm.1, hr5, s5⟩
  case round =>
    obtain ⟨k, L', bs, hk, rfl, ik, rk, hbm, hr, st⟩ := hrel
    by_cases hlt : k < l.length
    · obtain ⟨b, off, rfl, hLb, e0, e1, e2, e3⟩ := hr k hlt
      have hx := hok k hlt
      generalize l[k] = o at *
      have hLn : ext L' wr.heap.size 6 wr.heap.size = 6 := ext_new (Nat.le_refl _)
      have sA : Step (fun _ => False) L' wr (ext L' wr.heap.size 6) (wr.alloc (.cells #[.int .i64 o.kind, .int .u64 o.x, .int .i64 o.n, .string o.s] 40)) := Step.of_below (below_alloc _ _) _ 6
      have ik' := ik.step sA (by simp)
      have rk' := rk.step sA (by simp)
      have hr' := hr.step sA (by simp)
      have st' := st.trans (sA.mono (by simp))
      obtain ⟨c0, c1, c2, c3⟩ : (wr.alloc (.cells #[.int .i64 o.kind, .int .u64 o.x, .int .i64 o.n, .string o.s] 40)).cell? ⟨wr.heap.size, 0, none⟩ = some (.int .i64 o.kind) ∧ (wr.alloc (.cells #[.int .i64 o.kind, .int .u64 o.x, .int .i64 o.n, .string o.s] 40)).cell? ⟨wr.heap.size, 1, none⟩ = some (.int .u64 o.x) ∧ (wr.alloc (.cells #[.int .i64 o.kind, .int .u64 o.x, .int .i64 o.n, .string o.s] 40)).cell? ⟨wr.heap.size, 2, none⟩ = some (.int .i64 o.n) ∧ (wr.alloc (.cells #[.int .i64 o.kind, .int .u64 o.x, .int .i64 o.n, .string o.s] 40)).cell? ⟨wr.heap.size, 3, none⟩ = some (.string o.s) := by
        simp
      clear sA
      by_cases q1 : o.kind = 1
      · have q1' : (o.kind == 1) = true := by simp [q1]
        clear q1
        go_wp2_with fail
        refine (number_calls ik' hbm hmm.2 o.x o.n hx.1 hx.2.1).mono ?_; rintro e w6 ⟨rfl, L6, st6, ik6⟩
        have rk6 := rk'.step st6 (by omega)
        have hr6 := hr'.step st6 (by omega)
        have s6 := st'.trans (st6.mono (by omega))
        have f0 := st6.cell c0 (by show ¬ ext L' wr.heap.size 6 wr.heap.size = 1; rw [hLn]; omega)
        have f1 := st6.cell c1 (by show ¬ ext L' wr.heap.size 6 wr.heap.size = 1; rw [hLn]; omega)
        have f2 := st6.cell c2 (by show ¬ ext L' wr.heap.size 6 wr.heap.size = 1; rw [hLn]; omega)
        have f3 := st6.cell c3 (by show ¬ ext L' wr.heap.size 6 wr.heap.size = 1; rw [hLn]; omega)
        clear st6
        go_wp2_with fail
        refine (rnumber_calls rk6 hbm hmm.2 o.x o.n hx.1 hx.2.1).mono ?_; rintro e w7 ⟨rfl, L7, st7, rk7⟩
        have ik7 := ik6.step st7 (by omega)
        have hr7 := hr6.step st7 (by omega)
        have s7 := s6.trans (st7.mono (by omega))
        clear st7
        have hE : (numberE bs.length mm o.n != numberE bs.length mm o.n) = false := by simp
        go_wp2_with fail
        go_roundw
        case rel => exact ⟨k + 1, L7, _, by omega, by go_num, ik7, rk7, numberB_le hbm, hr7, s7⟩
        case measure => simp [intOf]; omega
      · skip
        by_cases q2 : o.kind = 2
        · have q2' : (o.kind == 2) = true := by simp [q2]
          have q1' : (o.kind == 1) = false := by simp [q1]
          clear q2
          go_wp2_with fail
          refine (text_calls ik' hbm hmm.2 o.s hx.2.2).mono ?_; rintro e w6 ⟨rfl, L6, st6, ik6⟩
          have rk6 := rk'.step st6 (by omega)
          have hr6 := hr'.step st6 (by omega)
          have s6 := st'.trans (st6.mono (by omega))
          have f0 := st6.cell c0 (by show ¬ ext L' wr.heap.size 6 wr.heap.size = 1; rw [hLn]; omega)
          have f1 := st6.cell c1 (by show ¬ ext L' wr.heap.size 6 wr.heap.size = 1; rw [hLn]; omega)
          have f2 := st6.cell c2 (by show ¬ ext L' wr.heap.size 6 wr.heap.size = 1; rw [hLn]; omega)
          have f3 := st6.cell c3 (by show ¬ ext L' wr.heap.size 6 wr.heap.size = 1; rw [hLn]; omega)
          clear st6
          go_wp2_with fail
          refine (rtext_calls rk6 hbm hmm.2 o.s hx.2.2).mono ?_; rintro e w7 ⟨rfl, L7, st7, rk7⟩
          have ik7 := ik6.step st7 (by omega)
          have hr7 := hr6.step st7 (by omega)
          have s7 := s6.trans (st7.mono (by omega))
          clear st7
          have hE : (textE bs.length mm o.s.size != textE bs.length mm o.s.size) = false := by simp
          go_wp2_with fail
          go_roundw
          case rel => exact ⟨k + 1, L7, _, by omega, by go_num, ik7, rk7, textB_le hbm, hr7, s7⟩
          case measure => simp [intOf]; omega
        · skip
          by_cases q3 : o.kind = 3
          · have q3' : (o.kind == 3) = true := by simp [q3]
            have q1' : (o.kind == 1) = false := by simp [q1]
            have q2' : (o.kind == 2) = false := by simp [q2]
            clear q3
            go_wp2_with fail
            refine (fill_any ik' hbm hmm.2 o.n o.x).mono ?_; rintro e w6 ⟨rfl, L6, st6, ik6⟩
            have rk6 := rk'.step st6 (by omega)
            have hr6 := hr'.step st6 (by omega)
            have s6 := st'.trans (st6.mono (by omega))
            have f0 := st6.cell c0 (by show ¬ ext L' wr.heap.size 6 wr.heap.size = 1; rw [hLn]; omega)
            have f1 := st6.cell c1 (by show ¬ ext L' wr.heap.size 6 wr.heap.size = 1; rw [hLn]; omega)
            have f2 := st6.cell c2 (by show ¬ ext L' wr.heap.size 6 wr.heap.size = 1; rw [hLn]; omega)
            have f3 := st6.cell c3 (by show ¬ ext L' wr.heap.size 6 wr.heap.size = 1; rw [hLn]; omega)
            clear st6
            go_wp2_with fail
            refine (rfill_any rk6 hbm hmm.2 o.n o.x).mono ?_; rintro e w7 ⟨rfl, L7, st7, rk7⟩
            have ik7 := ik6.step st7 (by omega)
            have hr7 := hr6.step st7 (by omega)
            have s7 := s6.trans (st7.mono (by omega))
            clear st7
            have hE : (fillE bs.length mm o.n != fillE bs.length mm o.n) = false := by simp
            go_wp2_with fail
            go_roundw
            case rel => exact ⟨k + 1, L7, _, by omega, by go_num, ik7, rk7, fillB_le hbm, hr7, s7⟩
            case measure => simp [intOf]; omega
          · skip
            by_cases q4 : o.kind = 4
            · have q4' : (o.kind == 4) = true := by simp [q4]
              have q1' : (o.kind == 1) = false := by simp [q1]
              have q2' : (o.kind == 2) = false := by simp [q2]
              have q3' : (o.kind == 3) = false := by simp [q3]
              clear q4
              go_wp2_with fail
              refine (pad_calls ik' hbm hmm.2 o.n).mono ?_; rintro e w6 ⟨rfl, L6, st6, ik6⟩
              have rk6 := rk'.step st6 (by omega)
              have hr6 := hr'.step st6 (by omega)
              have s6 := st'.trans (st6.mono (by omega))
              have f0 := st6.cell c0 (by show ¬ ext L' wr.heap.size 6 wr.heap.size = 1; rw [hLn]; omega)
              have f1 := st6.cell c1 (by show ¬ ext L' wr.heap.size 6 wr.heap.size = 1; rw [hLn]; omega)
              have f2 := st6.cell c2 (by show ¬ ext L' wr.heap.size 6 wr.heap.size = 1; rw [hLn]; omega)
              have f3 := st6.cell c3 (by show ¬ ext L' wr.heap.size 6 wr.heap.size = 1; rw [hLn]; omega)
              clear st6
              go_wp2_with fail
              refine (rpad_calls rk6 hbm hmm.2 o.n).mono ?_; rintro e w7 ⟨rfl, L7, st7, rk7⟩
              have ik7 := ik6.step st7 (by omega)
              have hr7 := hr6.step st7 (by omega)
              have s7 := s6.trans (st7.mono (by omega))
              clear st7
              have hE : (padE bs.length mm o.n != padE bs.length mm o.n) = false := by simp
              go_wp2_with fail
              go_roundw
              case rel => exact ⟨k + 1, L7, _, by omega, by go_num, ik7, rk7, padB_le hbm, hr7, s7⟩
              case measure => simp [intOf]; omega
            · skip
              by_cases q5 : o.kind = 5
              · have q5' : (o.kind == 5) = true := by simp [q5]
                have q1' : (o.kind == 1) = false := by simp [q1]
                have q2' : (o.kind == 2) = false := by simp [q2]
                have q3' : (o.kind == 3) = false := by simp [q3]
                have q4' : (o.kind == 4) = false := by simp [q4]
                clear q5
                go_wp2_with fail
                refine (inked_calls ik' rk' (by omega)).mono ?_; rintro e w6 ⟨rfl, L6, st6⟩
                have ik6 := ik'.step st6 (by omega)
                have rk6 := rk'.step st6 (by omega)
                have hr6 := hr'.step st6 (by omega)
                have s6 := st'.trans (st6.mono (by omega))
                clear st6
                go_wp2_with fail
                go_roundw
                case rel => exact ⟨k + 1, L6, _, by omega, by go_num, ik6, rk6, hbm, hr6, s6⟩
                case measure => simp [intOf]; omega
              · have q5' : (o.kind == 5) = false := by simp [q5]
                have q1' : (o.kind == 1) = false := by simp [q1]
                have q2' : (o.kind == 2) = false := by simp [q2]
                have q3' : (o.kind == 3) = false := by simp [q3]
                have q4' : (o.kind == 4) = false := by simp [q4]
                go_wp2_with fail
                go_roundw
                case rel => exact ⟨k + 1, _, _, by omega, by go_num, ik', rk', hbm, hr', st'⟩
                case measure => simp [intOf]; omega
    · go_wp2_with fail
      refine (inked_calls ik rk (by omega)).mono ?_; rintro e w6 ⟨rfl, L6, st6⟩
      go_wp2_with fail
      go_ret
      refine ⟨rfl, ?_⟩
      exact (st.trans (st6.mono (by omega))).below (Nat.le_refl _) (fun k hk => by rw [hL k hk]; omega)

end Go.Proofs.Ytajaonnpekdklaa.Ink
