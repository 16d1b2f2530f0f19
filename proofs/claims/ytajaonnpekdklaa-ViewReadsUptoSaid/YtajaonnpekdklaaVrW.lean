import Derived.Test.YtajaonnpekdklaaVrV
import Derived.Test.YtajaonnpekdklaaVrS
import Derived.Test.YtajaonnpekdklaaVrT
set_option linter.unusedVariables false
set_option maxRecDepth 100000
/-! ViewReads: the walk. -/
namespace Go.Proofs.Ytajaonnpekdklaa.Vr
open Go.ChangeShapes Go.WideShapes Go.ChangeAt Go.RowKit Mem Vw

/-- A step of a script. -/
structure OpR where
  kind : Int
  on : Int
  a : Int
  b : Int

def OpRok (o : OpR) : Prop := -9223372036854775808 ≤ o.on ∧ o.on ≤ 9223372036854775807 ∧ -9223372036854775808 ≤ o.a ∧ o.a ≤ 9223372036854775807 ∧ -9223372036854775808 ≤ o.b ∧ o.b ≤ 9223372036854775807

theorem Bound.apB {s : Rm} {K : Nat} (b : Bound s K) (hK : K ≤ 1000000002) : ApB s 1048576 :=
  ⟨Nat.le_trans b.n0 hK, Nat.le_trans b.n1 hK, Nat.le_trans b.n2 hK, Nat.le_trans b.n3 hK, b.m0, b.m1, b.m2, b.m3⟩

theorem Room.done {w0 : World} {mb : Nat} {L : Nat → Nat} {w : World} {s : Rm} (h : Room w0 mb L w s) : Below w0.heap.size w0 w :=
  h.base.below (Nat.le_refl _) (fun _ _ x => x rfl)

set_option maxHeartbeats 2000000 in
theorem reads_walk {w : World} {q : Option Addr} {n cap : Nat} {bs : List UInt8} (hb : Rd (fun _ => 0) 0 w 1 (.slice q n cap) n (bs.map byt)) (hn : n ≤ 1048576)
    {pS : Option Addr} {capS : Nat} (S : List OpR) (hlS : S.length ≤ capS) (hcS : capS ≤ 9223372036854775807) (hS : S.length ≤ 1048576)
    (hcells : ∀ (k : Nat) (hk : k < S.length), ∃ b off, pS = some ⟨b, off, none⟩ ∧ w.cell? ⟨b, off + k * 4, none⟩ = some (.int .i64 S[k].kind) ∧ w.cell? ⟨b, off + k * 4 + 1, none⟩ = some (.int .i64 S[k].on) ∧
      w.cell? ⟨b, off + k * 4 + 2, none⟩ = some (.int .i64 S[k].a) ∧ w.cell? ⟨b, off + k * 4 + 3, none⟩ = some (.int .i64 S[k].b)) (hok : ∀ (k : Nat) (hk : k < S.length), OpRok S[k]) :
    Calls Try.prog 7 #[.slice q n cap, .slice pS S.length capS] w fun e w' => e = .returned (.bool true) ∧ Below w.heap.size w w' := by
  have HB := Lib.hid hb
  have HC := Lib.hid hcells
  have HOK := Lib.hid hok
  clear hb hcells hok
  go_enter Try.func7, Try.ntmps7
  go_wp2_with fail
  refine (begun_calls HB.out hn).mono ?_; rintro e wA ⟨mb, gb, w1, w2, LA, sA, rfl, hRA, gA, bA⟩
  have HRA := Lib.hid hRA
  have HGA := Lib.hid gA
  have HBA := Lib.hid bA
  clear hRA gA bA
  go_wp2_with fail
  go_loopw [6, 7, 8] (fun _ i _ wr => ∃ (k : Nat) (L : Nat → Nat) (s : Rm), k ≤ S.length ∧ i = .int .i64 (k : Int) ∧ Room w mb L wr s ∧ Good gb w1 w2 s ∧ Bound s (3 + 2 * k)) (fun _ i _ _ => S.length - (intOf i).toNat)
  case atStart => exact ⟨0, LA, sA, by omega, rfl, HRA.out, HGA.out, HBA.out⟩
  case round =>
    obtain ⟨k, L, s, hk, rfl, hR, g, b⟩ := hrel
    have HR := Lib.hid hR
    have HG := Lib.hid g
    have HBd := Lib.hid b
    by_cases hkl : k < S.length
    · obtain ⟨bl, off, rfl, c0, c1, c2, c3⟩ := HC.out k hkl
      have c0 := hR.base.cell c0 (fun x => x rfl)
      have c1 := hR.base.cell c1 (fun x => x rfl)
      have c2 := hR.base.cell c2 (fun x => x rfl)
      have c3 := hR.base.cell c3 (fun x => x rfl)
      obtain ⟨o1, o2, o3, o4, o5, o6⟩ := HOK.out k hkl
      obtain ⟨O, hO⟩ : ∃ O, O = S[k] := ⟨_, rfl⟩
      rw [← hO] at c0 c1 c2 c3 o1 o2 o3 o4 o5 o6
      obtain ⟨kd, on, a, m⟩ := O
      simp only at c0 c1 c2 c3 o1 o2 o3 o4 o5 o6
      clear hO hR g b
      go_wp2_with fail
      refine (step_calls HR.out HG.out HBd.out (by omega) kd on a m o1 o2 o3 o4 o5 o6).mono ?_; rintro e wB ⟨rfl, LB, sB, hRB, gB, bB⟩
      have HRB := Lib.hid hRB
      have HGB := Lib.hid gB
      have HBB := Lib.hid bB
      clear hRB gB bB c0 c1 c2 c3
      go_wp2_with fail
      refine (holds_calls HRB.out HGB.out HBB.out (by omega)).mono ?_; rintro e wC ⟨rfl, nC, hC⟩
      have HRC := Lib.hid (show Room w mb LB wC sB from by rw [hC]; exact HRB.out.drewN nC)
      clear hC
      go_wp2_with fail
      go_roundw
      case rel => exact ⟨k + 1, LB, sB, by omega, by go_num, HRC.out, HGB.out, HBB.out.mono (by omega)⟩
      case measure => simp [intOf]; omega
    · clear hR g b
      go_wp2_with fail
      refine (watches_calls HR.out HG.out HBd.out (by omega)).mono ?_; rintro e wB ⟨rfl, LB, hRB⟩
      have HRB := Lib.hid hRB
      clear hRB
      go_wp2_with fail
      refine (apart_calls HRB.out (HBd.out.apB (by omega))).mono ?_; rintro e wC ⟨rfl, LC, sC, hRC⟩
      have HD := Lib.hid hRC.done
      clear hRC
      go_wp2_with fail
      go_ret
      exact ⟨rfl, HD.out⟩

end Go.Proofs.Ytajaonnpekdklaa.Vr
