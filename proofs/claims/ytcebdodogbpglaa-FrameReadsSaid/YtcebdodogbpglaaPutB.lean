import Derived.Test.YtcebdodogbpglaaPutA
import Derived.Test.YtcebdodogbpglaaMemC
set_option linter.unusedVariables false
set_option maxRecDepth 100000
/-! THE REFERENCE'S BYTES OF A MESSAGE. -/
namespace Go.Proofs.Ytcebdodogbpglaa.Put
open Go.ChangeShapes Go.WideShapes Go.ChangeAt Go.RowKit Mem Ink

/-- An owned list of bytes comes back, longer. -/
def Laid (L : Nat → Nat) (c : Nat) (w : World) (bs : List UInt8) (v' : Value) (w' : World) : Prop := ∃ L', Step (· = c) L w L' w' ∧ Own L' c w' 5 1 v' bs.length (bs.map byt)

theorem four_is (x : Nat) (hx : x < 4294967296) : [Value.int .u8 ((x : Int) % 256), .int .u8 ((x : Int) / 256 % 256), .int .u8 ((x : Int) / 65536 % 256), .int .u8 ((x : Int) / 16777216)] = (leB (x : Int) 4).map byt := by
  simp [leB, lowByte_emod]; omega

theorem four_calls {L : Nat → Nat} {c : Nat} {w : World} {v : Value} {bs : List UInt8} (o : Own L c w 5 1 v bs.length (bs.map byt)) (hb : bs.length ≤ 1000000) (x : Nat) (hx : x < 4294967296) :
    Calls Try.prog 41 #[v, .int .u32 x] w (SomeVal fun v' w' => Laid L c w (bs ++ leB x 4) v' w') := by
  obtain ⟨p, cap, hv, hn, hm, _⟩ := ownsRow_shape o.1
  subst hv
  go_enter Try.func41, Try.ntmps41
  have hT := o.1
  go_wp2_with (at_builtin; refine wpList_append rfl (.tmp 5) (.tmp 17) 23 23 rfl 5 Try.underlying23 infoByte rfl (by decide) _ bs.length (bs.map byt) rfl (o.1.alloc _) _ 4 _ rfl (Src.fresh w Try.underlying23 4 4 [.int .u8 ((x : Int) % 256), .int .u8 ((x : Int) / 256 % 256), .int .u8 ((x : Int) / 65536 % 256), .int .u8 ((x : Int) / 16777216)] rfl (by simp [Value.oneCell'])) (by unfold maxLen; omega) (by omega) ?_)
  intro v2 w2 hown2 hg2 hblk _
  obtain ⟨p2, cap2, hv2, _⟩ := ownsRow_shape hown2
  subst hv2
  have e4 : (bs ++ leB (x : Int) 4).length = bs.length + 4 := by simp [leB_length]
  obtain ⟨L', _, o2, st⟩ := Own.grown (C := (· = c)) (Step.refl (· = c) L w) rfl o (below_alloc w _) hown2 hg2 (by simpa using hblk)
  rw [four_is x hx, ← List.map_append, ← e4] at o2
  have O2 := Lib.hid o2
  have E4 := Lib.hid e4
  clear o2 e4 hown2 hg2 (by simpa using hblk)
  go_wp2_with fail
  go_ret
  refine ⟨_, rfl, L', st, ?_⟩
  have := O2.out
  rw [E4.out] at this ⊢
  exact this

/-- The beginning of a message. -/
def markB (last : UInt8) : List UInt8 := [67, 79, 76, last]
def headB (last : UInt8) (m b sum : Nat) : List UInt8 :=
  ((((markB last ++ leB (m : Int) 4) ++ leB (b : Int) 4) ++ leB ((sumV 2166136261 ((markB last ++ leB (m : Int) 4) ++ leB (b : Int) 4) : Nat) : Int) 4) ++ leB (sum : Int) 4) ++ leB ((0 : Nat) : Int) 4
theorem headB_length (last : UInt8) (m b sum : Nat) : (headB last m b sum).length = 24 := by simp [headB, markB, leB_length]

theorem head_calls (L : Nat → Nat) (c : Nat) (w : World) (last : UInt8) (m b : Nat) (sum : Nat) (hm : m < 4294967296) (hb : b < 4294967296) (hs : sum < 4294967296) :
    Calls Try.prog 34 #[.int .u8 last.toNat, .int .i64 m, .int .i64 b, .int .u32 sum] w (SomeVal fun v' w' => ∃ L', Step (· = c) L w L' w' ∧ Own L' c w' 5 1 v' 24 ((headB last m b sum).map byt)) := by
  have hl := last.toNat_lt
  go_enter Try.func34, Try.ntmps34
  go_wp2_with fail
  obtain ⟨s0, o0⟩ := Own.made L c w 5 1 4 ((markB last).map byt) (by simp [markB]) (by unfold maxLen; omega)
  have hw0 : w.alloc (.cells ((markB last).map byt).toArray 5) = w.alloc (.cells #[.int .u8 67, .int .u8 79, .int .u8 76, .int .u8 last.toNat] 5) := rfl
  rw [hw0] at s0 o0
  clear hw0
  have S0 := s0.mono (D := (· = c)) (fun _ h => h.elim)
  refine (four_calls (bs := markB last) o0 (by simp [markB]) m hm).mono ?_; rintro e w1 ⟨v1, rfl, L1, s1, o1⟩
  have S1 := S0.trans s1
  clear s0 S0 s1 o0
  go_wp2_with fail
  refine (four_calls o1 (by simp [markB, leB_length]) b hb).mono ?_; rintro e w2 ⟨v2, rfl, L2, s2, o2⟩
  have S2 := S1.trans s2
  clear S1 s2 o1
  go_wp2_with fail
  refine (rsum_calls o2.rd 2166136261 (by decide)).mono ?_; rintro e w3 ⟨rfl, rfl⟩
  obtain ⟨X, hX⟩ : ∃ X : Nat, X = sumV 2166136261 ((markB last ++ leB (m : Int) 4) ++ leB (b : Int) 4) := ⟨_, rfl⟩
  have hXl : X < 4294967296 := by rw [hX]; exact sumV_lt (by decide) _
  rw [← hX]
  have HX := Lib.hid hX
  clear hX
  go_wp2_with fail
  refine (four_calls o2 (by simp [markB, leB_length]) X hXl).mono ?_; rintro e w3 ⟨v3, rfl, L3, s3, o3⟩
  have S3 := S2.trans s3
  clear S2 s3 o2
  go_wp2_with fail
  refine (four_calls o3 (by simp [markB, leB_length]) sum hs).mono ?_; rintro e w4 ⟨v4, rfl, L4, s4, o4⟩
  have S4 := S3.trans s4
  clear S3 s4 o3
  go_wp2_with fail
  refine (four_calls o4 (by simp [markB, leB_length]) 0 (by decide)).mono ?_; rintro e w5 ⟨v5, rfl, L5, s5, o5⟩
  have S5 := S4.trans s5
  clear S4 s5 o4
  go_wp2_with fail
  go_ret
  refine ⟨_, rfl, L5, S5, ?_⟩
  have e24 := headB_length last m b sum
  rw [headB, ← HX.out] at e24 ⊢
  rw [e24] at o5
  exact o5

end Go.Proofs.Ytcebdodogbpglaa.Put
