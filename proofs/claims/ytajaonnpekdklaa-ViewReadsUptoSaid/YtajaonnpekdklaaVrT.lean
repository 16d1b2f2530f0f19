import Derived.Test.YtajaonnpekdklaaVrJ
set_option linter.unusedVariables false
set_option maxRecDepth 100000
/-! room.holds. -/
namespace Go.Proofs.Ytajaonnpekdklaa.Vr
open Go.ChangeShapes Go.WideShapes Go.ChangeAt Go.RowKit Mem Vw

theorem same_any {L : Nat → Nat} {w : World} {va vb : Value} {n : Nat} {bs : List UInt8} (h1 : Rd L 1 w 1 va n (bs.map byt)) (h2 : Rd L 1 w 1 vb n (bs.map byt)) (hl : bs.length = n) (k : Nat) :
    Calls Try.prog 45 #[va, vb] (w.drewN k) fun e w'' => e = .returned (.bool true) ∧ ∃ m, w'' = w.drewN m := by
  subst hl
  refine Calls.quiet_of ((Ink.same_calls (h1.drewN k) (h2.drewN k)).mono fun e w' ⟨h3, h4⟩ => ⟨?_, h4⟩)
  rw [h3]; simp [Ink.sameB]

theorem ofCells_get (l : List En) : ∀ {k : Nat} (hk : k < l.length), (ofCells l)[k * 2]? = some l[k].r := by
  induction l with
  | nil => intro k hk; simp at hk
  | cons x r ih =>
    intro k hk
    have e : ofCells (x :: r) = x.r :: .int .i64 (x.a : Int) :: ofCells r := rfl
    rw [e]
    cases k with
    | zero => rfl
    | succ k =>
      have := ih (k := k) (by simpa using hk)
      rw [show (k + 1) * 2 = k * 2 + 1 + 1 by omega]
      simpa using this

set_option maxHeartbeats 2000000 in
theorem holds_calls {w0 : World} {mb gb w1 w2 : Nat} {L : Nat → Nat} {w : World} {s : Rm} {K : Nat} (hR : Room w0 mb L w s) (g : Good gb w1 w2 s) (b : Bound s K) (hK : K ≤ 1000000002) :
    Calls Try.prog 35 #[.pointer (some ⟨mb, 0, none⟩)] w fun r w' => r = .returned (.bool true) ∧ ∃ n, w' = w.drewN n := by
  obtain ⟨pr, kr, hrv, _, _, _, hrc⟩ := ownsRow_shape hR.raws.1
  obtain ⟨po, ko, hov, _, _, _, hoc⟩ := ownsRow_shape hR.ofs.1
  have x9 : w.cell? ⟨mb, 9, none⟩ = some (.slice pr s.rl.length kr) := by rw [cell_of_heap hR.obj, ← hrv]; rfl
  have x10 : w.cell? ⟨mb, 10, none⟩ = some (.slice po s.rl.length ko) := by rw [cell_of_heap hR.obj, g.rlen, ← hov]; rfl
  have x1 : w.cell? ⟨mb, 1, none⟩ = some (.int .i64 (s.N : Int)) := by rw [cell_of_heap hR.obj]; rfl
  have x0 : w.cell? ⟨mb, 0, none⟩ = some (.slice (some ⟨gb, 0, none⟩) (s.N + 9) (s.N + 9)) := by rw [cell_of_heap hR.obj, ← g.av]; rfl
  have hrl := b.rl
  have hsm := g.small
  have hown := hR.own g
  have HRR := Lib.hid hR
  have HG := Lib.hid g
  have HRC := Lib.hid hrc
  have HOC := Lib.hid hoc
  have HOWN := Lib.hid hown
  clear hR hrv hov hrc hoc hown g
  go_enter Try.func35, Try.ntmps35
  go_wp2_with fail
  go_loopw [3, 4] (fun i _ wr => ∃ (j n : Nat), j ≤ s.rl.length ∧ i = .int .i64 (j : Int) ∧ wr = w.drewN n) (fun i _ _ => s.rl.length - (intOf i).toNat)
  case atStart => exact ⟨0, 0, by omega, rfl, rfl⟩
  case round =>
    obtain ⟨j, n, hj, rfl, hw⟩ := hrel
    obtain ⟨y9, y10, y1, y0, hRw⟩ : wr.cell? ⟨mb, 9, none⟩ = some (.slice pr s.rl.length kr) ∧ wr.cell? ⟨mb, 10, none⟩ = some (.slice po s.rl.length ko) ∧ wr.cell? ⟨mb, 1, none⟩ = some (.int .i64 (s.N : Int)) ∧ wr.cell? ⟨mb, 0, none⟩ = some (.slice (some ⟨gb, 0, none⟩) (s.N + 9) (s.N + 9)) ∧ Room w0 mb L wr s := by
      rw [hw]; exact ⟨x9, x10, x1, x0, HRR.out.drewN n⟩
    have hcw : ∀ a, w.cell? a = wr.cell? a := fun a => by rw [hw]; rfl
    have HCW := Lib.hid hcw
    have HW := Lib.hid hw
    have HRW := Lib.hid hRw
    clear hw hRw x9 x10 x1 x0 hcw
    by_cases hjl : j < s.rl.length
    · have hjo : j < s.ol.length := by have := HG.out.rlen; omega
      obtain ⟨h1, h2, h3⟩ := HG.out.raws j hjo
      obtain ⟨q1, c1, hv1, _, _, rd1⟩ := (h3 s.rl[j] (by simp [hjl])).rd (HRW.out.own HG.out) (by omega)
      obtain ⟨q2, c2, hv2, _, _, rd2⟩ := h2.rd (HRW.out.own HG.out) (by omega)
      obtain ⟨b1, rfl, _, e1⟩ := HRC.out j s.rl[j] (by simp [hjl])
      obtain ⟨b2, rfl, _, e2⟩ := HOC.out (j * 2) _ (ofCells_get s.ol hjo)
      have hgl : (got s.all s.ol[j].a s.ol[j].n).length = s.ol[j].n := got_len (by have := HG.out.len; omega)
      obtain ⟨bs, hbs⟩ : ∃ bs, bs = got s.all s.ol[j].a s.ol[j].n := ⟨_, rfl⟩
      obtain ⟨m, hm⟩ : ∃ m, m = s.ol[j].n := ⟨_, rfl⟩
      rw [← hbs, ← hm] at rd1 rd2 hgl
      rw [hv1] at e1 rd1
      rw [hv2] at e2 rd2
      rw [← hm] at e1 e2 rd1 rd2
      have HSM := Lib.hid (fun k => same_any rd1 rd2 hgl k)
      rw [HCW.out] at e1 e2
      clear h1 h2 h3 hv1 hv2 hbs hm hgl rd1 rd2
      go_wp2_with fail
      go_quiet ((go_at_call 45; exact HSM.out _))
      go_wp2_with fail
      go_roundw
      case rel => exact ⟨j + 1, n + _, by omega, by go_num, by rw [HW.out, World.drewN_drewN]⟩
      case measure => simp [intOf]; omega
    · go_wp2_with fail
      go_loop [5] (fun i => ∃ q : Nat, q ≤ 9 ∧ i = .int .i64 ((s.N + q : Nat) : Int)) (fun i => s.N + 9 - (intOf i).toNat)
      case atStart => exact ⟨0, by omega, rfl⟩
      case round =>
        obtain ⟨q, hq, rfl⟩ := hrel
        obtain ⟨I, hI⟩ : ∃ I, I = s.N + q := ⟨_, rfl⟩
        rw [← hI]
        by_cases hql : q < 9
        · have hil : I < s.N + 9 := by omega
          have e1 : wr.cell? ⟨gb, I, none⟩ = some (.int .u8 55) := by
            obtain ⟨_, _, hv, _, _, _, hc⟩ := ownsRow_shape (HRW.out.own HG.out).1
            have hx : s.all[I]? = some 55 := by
              have h1 := congrArg (fun l => l[q]?) HG.out.marks
              simp only [List.getElem?_drop] at h1
              rw [hI, h1, List.getElem?_replicate, if_pos hql]
            obtain ⟨b3, hb, _, e3⟩ := hc I (byt 55) (by simp [hx])
            cases hv
            cases hb
            exact e3
          have HI := Lib.hid hI
          clear hI
          go_wp2_with fail
          go_round
          case rel => exact ⟨q + 1, by omega, by have := HI.out; go_num⟩
          case measure => have := HI.out; simp [intOf]; omega
        · have hil : I = s.N + 9 := by omega
          subst hil
          go_wp2_with fail
          go_ret
          exact ⟨rfl, n, HW.out⟩

end Go.Proofs.Ytajaonnpekdklaa.Vr
