import Derived.Test.YtcebdodogbpglaaRdC
import Derived.Test.YtcebdodogbpglaaMemF
import Derived.Test.YtcebdodogbpglaaBook
import Derived.Deep.Cut
set_option linter.unusedVariables false
set_option maxRecDepth 100000
/-! THE READER: WHAT IT HOLDS; Shut, stands, NewReader. -/
namespace Go.Proofs.Ytcebdodogbpglaa.Rdr
open Go.ChangeShapes Go.WideShapes Go.ChangeAt Go.RowKit Mem Put

theorem infoWhole : (Try.prog.info? 75).map (fun i => (i.zero, i.size, i.bytes)) = some (some (.agg #[.slice none 0 0, .slice none 0 0, .int .i64 0]), 3, 56) := by kernel_rfl

/-- A message that waits. -/
structure Msg where
  ms : List UInt8
  bd : List UInt8
  vm : Value
  vb : Value
  cm : Nat
  cb : Nat
def Msg.size (m : Msg) : Nat := 24 + padU m.ms.length + padU m.bd.length
def Msg.cells (m : Msg) : List Value := [m.vm, m.vb, .int .i64 m.size]
def zs (n : Nat) : List Value := (List.replicate n [Value.slice none 0 0, .slice none 0 0, .int .i64 0]).flatten
def MsgAt (L : Nat → Nat) (w : World) (m : Msg) : Prop := Own L m.cm w 5 1 m.vm m.ms.length (m.ms.map byt) ∧ Own L m.cb w 5 1 m.vb m.bd.length (m.bd.map byt)
theorem MsgAt.step {L L' : Nat → Nat} {w w' : World} {C : Nat → Prop} {m : Msg} (h : MsgAt L w m) (st : Step C L w L' w') (h1 : ¬ C m.cm) (h2 : ¬ C m.cb) : MsgAt L' w' m := ⟨h.1.step st h1, h.2.step st h2⟩

/-- A reader in memory. -/
def RdrAt (L : Nat → Nat) (c : Nat) (w : World) (rb lm lb told : Nat) (Q : List Msg) (tail : List UInt8) (held wrong : Int) (ended shut : Bool) : Prop :=
  ∃ vq vb, w.heap[rb]? = some (.cells #[.int .i64 lm, .int .i64 lb, vq, .int .i64 told, vb, .int .i64 held, .int .i64 wrong, .bool ended, .bool shut] 73 (0, 0)) ∧ L rb = c ∧
    Own L (c + 1) w 75 3 vq (told + Q.length) (zs told ++ (Q.map Msg.cells).flatten) ∧ Own L (c + 2) w 5 1 vb tail.length (tail.map byt)

def Rc (c d : Nat) : Prop := c ≤ d ∧ d < c + 3
theorem RdrAt.step {L L' : Nat → Nat} {w w' : World} {C : Nat → Prop} {c rb lm lb told : Nat} {Q : List Msg} {tail : List UInt8} {held wrong : Int} {ended shut : Bool} (h : RdrAt L c w rb lm lb told Q tail held wrong ended shut)
    (st : Step C L w L' w') (hC : ∀ d, C d → ¬ Rc c d) : RdrAt L' c w' rb lm lb told Q tail held wrong ended shut := by
  obtain ⟨vq, vb, h0, h1, h2, h3⟩ := h
  have hn : ∀ d, Rc c d → ¬ C d := fun d hb hc => hC d hc hb
  exact ⟨vq, vb, st.heap h0 (by rw [h1]; exact hn _ (by unfold Rc; omega)), (st.col rb (lt_of_heap h0)).trans h1, h2.step st (hn _ (by unfold Rc; omega)), h3.step st (hn _ (by unfold Rc; omega))⟩

/-- How it stands behind all whole messages. -/
def standS (wrong : Int) (ended shut : Bool) : Int := if wrong ≠ 0 then 4 else if ended then 3 else if shut then 4 else 1
def standE (wrong : Int) (ended shut : Bool) : Int := if wrong ≠ 0 then wrong else if ended then 0 else if shut then 73 else 0

theorem stands_calls {w : World} {rb : Nat} {wrong : Int} {ended shut : Bool} (c6 : w.cell? ⟨rb, 6, none⟩ = some (.int .i64 wrong)) (c7 : w.cell? ⟨rb, 7, none⟩ = some (.bool ended)) (c8 : w.cell? ⟨rb, 8, none⟩ = some (.bool shut)) :
    Calls Try.prog 38 #[.pointer (some ⟨rb, 0, none⟩)] w fun e w' => e = .returned (.tuple #[.int .i64 (standS wrong ended shut), .int .i64 (standE wrong ended shut)]) ∧ ∃ k, w' = w.drewN k := by
  by_cases hw : wrong = 0
  · subst hw
    cases ended with
    | true =>
      go_enter Try.func38, Try.ntmps38
      go_wp2_with fail
      go_ret2
      exact ⟨rfl, 0, rfl⟩
    | false =>
      cases shut with
      | true =>
        go_enter Try.func38, Try.ntmps38
        go_wp2_with fail
        go_ret2
        exact ⟨rfl, 0, rfl⟩
      | false =>
        go_enter Try.func38, Try.ntmps38
        go_wp2_with fail
        go_ret2
        exact ⟨rfl, 0, rfl⟩
  · have hS : standS wrong ended shut = 4 := by rw [standS, if_pos hw]
    have hE : standE wrong ended shut = wrong := by rw [standE, if_pos hw]
    have HS := Lib.hid hS
    have HE := Lib.hid hE
    have z1 : (wrong != 0) = true := by simpa using hw
    have z2 : (wrong == 0) = false := by simpa using hw
    clear hS hE
    go_enter Try.func38, Try.ntmps38
    go_wp2_with fail
    go_quiet (fail)
    go_wp2_with fail
    go_ret2
    exact ⟨by rw [HS.out, HE.out]; rfl, _, rfl⟩

theorem shut_calls {L : Nat → Nat} {c : Nat} {w : World} {rb lm lb told : Nat} {Q : List Msg} {tail : List UInt8} {held wrong : Int} {ended shut : Bool} (h : RdrAt L c w rb lm lb told Q tail held wrong ended shut) :
    Calls Try.prog 24 #[.pointer (some ⟨rb, 0, none⟩)] w fun e w' => e = .returned (.int .i64 (if shut then 9 else 0)) ∧ Step (· = c) L w L w' ∧ RdrAt L c w' rb lm lb told Q tail held wrong ended true := by
  obtain ⟨vq, vb, h0, h1, h2, h3⟩ := h
  have c8 : w.cell? ⟨rb, 8, none⟩ = some (.bool shut) := by rw [cell_of_heap h0]; rfl
  obtain ⟨s1, f0⟩ := Step.store (j := 8) (v := .bool true) h0 h1
  have d1 : w.frozen? ⟨rb, 8, none⟩ = false := frozen_of_heap h0
  have g2 := h2.step s1 (by omega)
  have g3 := h3.step s1 (by omega)
  have H0 := Lib.hid h0
  clear h0
  cases shut with
  | true =>
    go_enter Try.func24, Try.ntmps24
    go_wp2_with fail
    go_ret
    exact ⟨rfl, Step.refl _ _ _, vq, vb, H0.out, h1, h2, h3⟩
  | false =>
    go_enter Try.func24, Try.ntmps24
    go_wp2_with fail
    go_ret
    exact ⟨rfl, s1, vq, vb, f0, h1, g2, g3⟩

theorem new_calls (L : Nat → Nat) (c : Nat) (w : World) (lm lb : Nat) (hlm : lm ≤ 65536) (hlb : lb ≤ 4194304) :
    Calls Try.prog 18 #[.agg #[.int .i64 lm, .int .i64 lb]] w fun e w' => ∃ rb, e = .returned (.tuple #[.pointer (some ⟨rb, 0, none⟩), .int .i64 0]) ∧ ∃ L', Step (fun _ => False) L w L' w' ∧ RdrAt L' c w' rb lm lb 0 [] [] 0 0 false false := by
  go_enter Try.func18, Try.ntmps18
  go_wp2_with fail
  go_ret2
  have hb : Below w.heap.size w ((w.alloc (.cells #[.int .i64 lm, .int .i64 lb] 40)).alloc (.cells #[.int .i64 lm, .int .i64 lb, .slice none 0 0, .int .i64 0, .slice none 0 0, .int .i64 0, .int .i64 0, .bool false, .bool false] 73)) :=
    (below_alloc w _).trans ((below_alloc _ _).mono (by simp))
  refine ⟨w.heap.size + 1, rfl, ext L w.heap.size c, Step.of_below hb _ c, _, _, ?_, ext_new (by omega), Own.nil _ _ _ _ _, Own.nil _ _ _ _ _⟩
  have e : (w.alloc (.cells #[.int .i64 lm, .int .i64 lb] 40)).heap.size = w.heap.size + 1 := by simp
  rw [← e]
  exact heap_alloc_new _ _

end Go.Proofs.Ytcebdodogbpglaa.Rdr
