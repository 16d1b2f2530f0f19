import Derived.Test.YtajaonnpekdklaaVwD
set_option linter.unusedVariables false
set_option maxRecDepth 100000
/-! TEXT OF A VIEW; PICK. -/
namespace Go.Proofs.Ytajaonnpekdklaa.Vw
open Go.ChangeShapes Go.WideShapes Go.ChangeAt Go.RowKit Mem

def pickV (c : Int) (n : Int) : Int := (if c < 0 then -(c + 1) else c) % n

theorem pickV_lt (c : Int) {n : Int} (h : 0 < n) : 0 ≤ pickV c n ∧ pickV c n < n := ⟨Int.emod_nonneg _ (by omega), Int.emod_lt_of_pos _ h⟩

theorem pick_calls (w : World) (c n : Int) (hc : -9223372036854775808 ≤ c) (hc2 : c ≤ 9223372036854775807) (hn : 0 < n) :
    Calls Try.prog 38 #[.int .i64 c, .int .i64 n] w fun e w' => e = .returned (.int .i64 (pickV c n)) ∧ w = w' := by
  by_cases q1 : c < 0
  · have hE : pickV c n = -((c + 1).tmod n) := by rw [pickV, if_pos q1, ← Int.neg_tmod, Int.tmod_eq_emod_of_nonneg (by omega)]
    have HE := Lib.hid hE
    clear hE
    go_enter Try.func38, Try.ntmps38
    go_wp2_with fail
    go_ret
    exact ⟨by rw [HE.out]; rfl, rfl⟩
  · have hE : pickV c n = c % n := by rw [pickV, if_neg q1]
    have HE := Lib.hid hE
    clear hE
    go_enter Try.func38, Try.ntmps38
    go_wp2_with fail
    go_ret
    exact ⟨by rw [HE.out]; rfl, rfl⟩

def vtextE (n : Nat) (a m : Int) : Int := if insideB a m n then 0 else 2
def vtextV (bs : List UInt8) (a m : Int) : ByteArray := if insideB a m bs.length then ⟨(got bs a.toNat m.toNat).toArray⟩ else ByteArray.empty
def vtextT (l : List (Int × Int)) (n : Nat) (p a m : Int) : List (Int × Int) := if insideB a m n then tell l p a.toNat m.toNat else l

theorem vtext_calls {L : Nat → Nat} {c c0 : Nat} (hcc : c0 ≠ c) {w : World} {u : Option Nat} {l : List (Int × Int)} (hW : WOpt L c w u l) (hl : l.length ≤ 1000000000000) {q : Option Addr} {n cap : Nat} {bs : List UInt8}
    (hr : Rd L c0 w 1 (.slice q n cap) n (bs.map byt)) (p : Int) (hp : 0 ≤ p) (hp2 : p + n ≤ 9223372036854775807) (a m : Int) (ha : a ≤ 9223372036854775807) :
    Calls Try.prog 39 #[.agg #[.slice q n cap, .int .i64 p, wat u], .int .i64 a, .int .i64 m] w fun e w' => e = .returned (.tuple #[.string (vtextV bs a m), .int .i64 (vtextE bs.length a m)]) ∧ Read L c w u (vtextT l bs.length p a m) w' := by
  have hbl : bs.length = n := by simpa using hr.1
  obtain ⟨q', cap', hv, hn, hm⟩ := hr.shape
  cases hv
  subst hbl
  unfold maxLen at hm
  by_cases hi : insideB a m bs.length = true
  · obtain ⟨x, y, rfl, rfl, hxy⟩ := insideB_true hi
    have hE : vtextE bs.length x y = 0 := by rw [vtextE, if_pos hi]
    have hV : vtextV bs x y = ⟨(got bs x y).toArray⟩ := by rw [vtextV, if_pos hi]; rfl
    have hT : vtextT l bs.length p x y = tell l p x y := by rw [vtextT, if_pos hi]; rfl
    have HE := Lib.hid hE
    have HV := Lib.hid hV
    have HT := Lib.hid hT
    have HI := Lib.hid hi
    have HL := Lib.hid (show (got bs x y).length = y by unfold got; simp; omega)
    clear hE hV hT hi
    go_enter Try.func39, Try.ntmps39
    go_wp2_with fail
    refine (there_calls q bs.length cap p _ x y (by omega) (by omega)).mono ?_; rintro e w1 ⟨rfl, b1⟩
    rw [HI.out]
    obtain ⟨d0, d1, d2, hb1⟩ := box_cells b1
    have HB1 := Lib.hid hb1
    clear hb1 b1
    have st1 := Step.of_below (L := L) HB1.out (fun _ => False) 0
    have hW1 := hW.step st1 (by simp)
    have hr1 := hr.step st1 (by simp)
    go_wp2_with fail
    refine (read_calls hW1 hl q bs.length cap p x y hn (by omega) hxy hp hp2).mono ?_; rintro e w2 ⟨rfl, L2, st2, hW2⟩
    have hr2 := (Rd.cut hr1 hxy y (Nat.le_refl _) (by unfold maxLen; omega)).step st2 hcc
    have hr3 : Rd L2 c0 w2 1 (.slice (cutAt q x y) y y) (got bs x y).length ((got bs x y).map byt) := by rw [HL.out]; exact hr2
    have hcv := run_toString (P := Try.prog) hr3 (src := 35) (e := 5) (dst := 9) Try.underlying35 Try.underlying5 Try.underlying9
    clear hr2 hr3 hr1
    go_wp2_with fail
    go_ret2
    exact ⟨by rw [HV.out, HE.out]; rfl, L2, (st1.mono (fun _ h => h.elim)).trans st2, by rw [HT.out]; exact hW2⟩
  · have hi' : insideB a m bs.length = false := by simpa using hi
    have hE : vtextE bs.length a m = 2 := by rw [vtextE, if_neg hi]
    have hV : vtextV bs a m = ByteArray.empty := by rw [vtextV, if_neg hi]
    have hT : vtextT l bs.length p a m = l := by rw [vtextT, if_neg hi]
    have HE := Lib.hid hE
    have HV := Lib.hid hV
    have HT := Lib.hid hT
    have HI := Lib.hid hi'
    clear hE hV hT hi hi'
    go_enter Try.func39, Try.ntmps39
    go_wp2_with fail
    refine (there_calls q bs.length cap p _ a m (by omega) ha).mono ?_; rintro e w1 ⟨rfl, b1⟩
    rw [HI.out]
    obtain ⟨d0, d1, d2, hb1⟩ := box_cells b1
    have HB1 := Lib.hid hb1
    clear hb1 b1
    go_wp2_with fail
    go_ret2
    exact ⟨by rw [HV.out, HE.out]; rfl, by rw [HT.out]; exact Read.of_below hW HB1.out⟩

end Go.Proofs.Ytajaonnpekdklaa.Vw
