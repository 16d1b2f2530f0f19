import Derived.Test.YtajaonnpekdklaaVrQ
import Derived.Deep.Cut
set_option linter.unusedVariables false
set_option maxRecDepth 100000
/-! room.numbers at the width of 8 (printed by wip/tools/vro.py). -/
namespace Go.Proofs.Ytajaonnpekdklaa.Vr
open Go.ChangeShapes Go.WideShapes Go.ChangeAt Go.RowKit Mem Vw

theorem infoOuter3 : (Try.prog.info? 121).map (fun i => (i.zero, i.size, i.bytes)) = some (some (.slice none 0 0), 1, 24) := by kernel_rfl

theorem num_done3 {gb w1 w2 : Nat} {s : Rm} {K : Nat} (g : Good gb w1 w2 s) (b : Bound s K) {who : Nat} (hw : who < 3) {l : List (Int × Int)} (hl : l.length ≤ K + 1) (vE kv x : Value) (m : Nat) (hm : m ≤ 1048576) :
    Good gb w1 w2 { (s.setU who l).setT who vE l with k3 := kv, n3 := s.n3 ++ [(x, m)] } ∧ Bound { (s.setU who l).setT who vE l with k3 := kv, n3 := s.n3 ++ [(x, m)] } (K + 1) ∧
      ((s.setU who l).setT who vE l).N = s.N ∧ ((s.setU who l).setT who vE l).all = s.all := by
  refine ⟨num_good3 _ _ (setU_good g hw), ?_, ?_, ?_⟩
  · have h1 := num_bound3 b kv x m hm
    unfold Rm.setT Rm.setU
    split
    · exact ⟨hl, h1.t2, h1.rl, h1.n0, h1.n1, h1.n2, h1.n3, h1.m0, h1.m1, h1.m2, h1.m3⟩
    · split
      · exact ⟨h1.t1, hl, h1.rl, h1.n0, h1.n1, h1.n2, h1.n3, h1.m0, h1.m1, h1.m2, h1.m3⟩
      · exact h1
  · unfold Rm.setT Rm.setU; split <;> (try split) <;> rfl
  · unfold Rm.setT Rm.setU; split <;> (try split) <;> rfl

set_option maxHeartbeats 4000000 in
theorem numbers3_calls {w0 : World} {mb gb w1 w2 : Nat} {L : Nat → Nat} {w : World} {s : Rm} {K : Nat} (h : Room w0 mb L w s) (g : Good gb w1 w2 s) (b : Bound s K) (hK : K ≤ 1000000000) (e : En) (he : Ent gb s.N w1 w2 e)
    (a m : Int) (ha : -9223372036854775808 ≤ a) (ha2 : a ≤ 9223372036854775807) (hm : -9223372036854775808 ≤ m) :
    Calls Try.prog 59 #[.pointer (some ⟨mb, 0, none⟩), enVal e, .int .i64 3, .int .i64 a, .int .i64 m] w fun r w' => r = .returned (.bool true) ∧ Stepped w0 mb gb w1 w2 K w' := by
  obtain ⟨q2, cap2, hqr, hr1, hr2, hr⟩ := h.ref g he
  have hf := he.fits
  have hsm := g.small
  have hgl : (got s.all e.a e.n).length = e.n := got_len (by have := g.len; omega)
  obtain ⟨wB, hwB⟩ : ∃ wB, wB = w.alloc (Obj.cells (enCell e).toArray 108) := ⟨_, rfl⟩
  obtain ⟨LB, hRB, stB, cB1⟩ : ∃ LB, Room w0 mb LB wB s ∧ Step (fun _ => False) L w LB wB ∧ Cells LB wB w.heap.size 30 (enCell e) := by
    rw [hwB]; exact h.box (enCell e) 108
  obtain ⟨q, cap, hqv, hq1, hq2, _⟩ := h.view g he
  have hrB := hr.step stB (fun x => x)
  clear hr stB
  obtain ⟨ea, en, ev, er, ew, ep⟩ := e
  simp only at *
  subst hqv hqr
  have HW := Lib.hid hwB
  have HRB := Lib.hid hRB
  have HGL := Lib.hid hgl
  clear hwB hRB hgl
  obtain ⟨bs, hbs⟩ : ∃ bs, bs = got s.all ea en := ⟨_, rfl⟩
  rw [← hbs] at hrB HGL
  have HBS := Lib.hid hbs
  clear hbs
  simp only [enVal, enCell] at HW ⊢
  go_enter Try.func59, Try.ntmps59
  go_wp2_with fail
  go_loop [11, 12] (fun wd i => ∃ j : Nat, j ≤ 3 ∧ wd = .int .i64 (2 ^ j : Nat) ∧ i = .int .i64 j) (fun _ i => 3 - (intOf i).toNat)
  case atStart => exact ⟨0, by omega, rfl, rfl⟩
  case round =>
    obtain ⟨j, hj, rfl, rfl⟩ := hrel
    obtain rfl | rfl | rfl | rfl : j = 0 ∨ j = 1 ∨ j = 2 ∨ j = 3 := by omega
    · go_wp2_with fail
      go_round
      case rel => exact ⟨1, by omega, by go_num, by go_num⟩
      case measure => simp [intOf]
    · go_wp2_with fail
      go_round
      case rel => exact ⟨2, by omega, by go_num, by go_num⟩
      case measure => simp [intOf]
    · go_wp2_with fail
      go_round
      case rel => exact ⟨3, by omega, by go_num, by go_num⟩
      case measure => simp [intOf]
    · go_wp2_with fail
      rw [← HW.out]
      refine (rnum8 (c := 40) (by decide) (by decide) hrB ea (by omega) a m ha ha2 hm).mono ?_; rintro r wC ⟨vw, rfl, LC, stC, owC⟩
      have hRC := HRB.out.move stC (fun d hd => by rw [show d = 40 from hd]; omega)
      have cC1 := cB1.step stC (by decide)
      obtain ⟨pw, kw, hvw, _⟩ := ownsRow_shape owC.1
      subst hvw
      generalize hE : numE bs.length a m 8 = E at *
      generalize hNL : numL bs a m 8 = NL at *
      have HE := Lib.hid hE
      have hnll : NL.length ≤ 1048576 := by rw [← hNL]; have := numL_len (bs := bs) (a := a) (n := m) (W := 8) (by decide); rw [HGL.out] at this; omega
      have HLT := Lib.hid (show ∀ z ∈ NL, z < 256 ^ 8 from fun z hz => by rw [← hNL] at hz; exact numL_lt hz)
      have HNL := Lib.hid hNL
      have HRC := Lib.hid hRC
      clear hE hNL hRC stC cB1 hrB
      go_wp2_with fail
      go_loopw [15, 16, 17, 18, 19, 20, 21, 22, 23, 24, 25, 26, 27, 28, 29, 30] (fun tu _ _ _ _ _ _ _ _ _ _ _ _ _ _ _ wr => ∃ (t : Nat) (LW : Nat → Nat) (sT : Rm), t ≤ 2 ∧ tu = .int .i64 (t : Int) ∧ Room w0 mb LW wr sT ∧ Good gb w1 w2 sT ∧ Bound sT (K + t) ∧ sT.N = s.N ∧ sT.all = s.all ∧
        Cells LW wr w.heap.size 30 [.slice q en cap, .int .i64 (ea : Int), wat ep, .slice q2 en cap2, .int .i64 (ea : Int), .int .i64 (ew : Int)] ∧ Own LW 40 wr 34 1 (.slice pw NL.length kw) NL.length (NL.map (numVal .u64))) (fun tu _ _ _ _ _ _ _ _ _ _ _ _ _ _ _ _ => 2 - (intOf tu).toNat)
      case atStart => exact ⟨0, LC, s, by omega, rfl, HRC.out, g, b, rfl, rfl, cC1, owC⟩
      case round =>
        obtain ⟨t, LW, sT, ht, rfl, hRT, gT, bT, hNT, hAT, cW, owW⟩ := hrel
        by_cases ht2 : t < 2
        · have heT : Ent gb sT.N w1 w2 ⟨ea, en, .slice q en cap, .slice q2 en cap2, ew, ep⟩ := by rw [hNT]; exact he
          obtain ⟨_, _, _, _, _, hvT⟩ := hRT.view gT heT
          simp only at hvT
          rw [hAT, ← HBS.out] at hvT
          have hwoT := hRT.wopt gT heT
          have hbtT := bT.t ew
          have hevT := gT.even ew
          have c0 : wr.cell? ⟨w.heap.size, 0, none⟩ = some (.slice q en cap) := cW.2.2 0 _ rfl
          have c1 : wr.cell? ⟨w.heap.size, 1, none⟩ = some (.int .i64 (ea : Int)) := cW.2.2 1 _ rfl
          have c2 : wr.cell? ⟨w.heap.size, 2, none⟩ = some (wat ep) := cW.2.2 2 _ rfl
          have HRT := Lib.hid hRT
          have HEV := Lib.hid hevT
          have HNT := Lib.hid hNT
          have HAT := Lib.hid hAT
          clear hRT hevT hNT hAT owC cC1
          go_wp2_with fail
          refine (vnum3 (c := 103 + 4 * sT.n3.length) (wc_ne ew) (by have := wc_small ew; omega) (by omega) hwoT (by rw [HEV.out]; omega) hvT ea (by omega) (by omega) (by omega) a m ha ha2 hm).mono ?_
          rintro r wD ⟨vl, rfl, LD, stD, hWD, owD⟩
          rw [HE.out]
          rw [HNL.out] at owD
          have hRD := HRT.out.tells3 gT heT stD hWD
          have cD := cW.step stD (by have := wc_small ew; rintro (h | h) <;> omega)
          have owWD := owW.step stD (by have := wc_small ew; rintro (h | h) <;> omega)
          obtain ⟨TL, hTL⟩ : ∃ TL, TL = numT (sT.u ew) bs.length (ea : Int) a m 8 := ⟨_, rfl⟩
          simp only at hRD
          rw [← hTL] at hRD
          obtain ⟨sD, hsD⟩ : ∃ sD, sD = sT.setU ew TL := ⟨_, rfl⟩
          rw [← hsD] at hRD
          have hnk : sD.n3 = sT.n3 := by rw [hsD]; unfold Rm.setU; split <;> (try split) <;> rfl
          rw [← hnk] at owD
          obtain ⟨nD, hnD⟩ : ∃ nD, nD = sD.n3.length := ⟨_, rfl⟩
          have hnb : nD ≤ 1000000002 := by rw [hnD, hnk]; have := bT.n3; omega
          rw [← hnD] at owD
          obtain ⟨pl, kl, hvl, _⟩ := ownsRow_shape owD.1
          subst hvl
          obtain ⟨po, ko, hvo, _⟩ := ownsRow_shape hRD.outer3.1
          rw [← hnD] at hvo
          have x9 : wD.cell? ⟨mb, 14, none⟩ = some (.slice po nD ko) := by rw [cell_of_heap hRD.obj, ← hvo]; rfl
          have hownO : wD.ownsRow 0 121 1 (.slice po nD ko) nD (sD.n3.map (·.1)) := by rw [← hvo, hnD]; exact hRD.outer3.1
          have HRD := Lib.hid hRD
          have HVO := Lib.hid hvo
          have HTL := Lib.hid hTL
          have HSD := Lib.hid hsD
          have HNK := Lib.hid hnk
          have HND := Lib.hid hnD
          have HVW := Lib.hid hWD
          clear hRD hvo hTL hsD hnk hnD stD hWD hvT hwoT c0 c1 c2 cW owW
          go_wp2_with (at_builtin; refine wpList_append rfl (.tmp 64) (.tmp 66) 100 100 rfl 121 Try.underlying100 infoOuter3 rfl (by decide) _ nD (sD.n3.map (·.1)) rfl (hownO.alloc _) _ 1 [.slice pl NL.length kl] rfl (Src.fresh wD Try.underlying100 1 1 [.slice pl NL.length kl] rfl (by simp [Value.oneCell'])) (by unfold maxLen; omega) (by omega) ?_)
          intro v2 wF hownF hgF hblkF _
          obtain ⟨pf, kf, hvf, _⟩ := ownsRow_shape hownF
          subst hvf
          obtain ⟨LF, stF, o1, o2⟩ := list_grown (j := 14) HRD.out.obj HRD.out.objc (c := 23) (by decide) HRD.out.outer3 (below_alloc wD _) hownF (by rw [HVO.out]; exact hgF) (by
            intro g hg
            rw [HVO.out]
            rcases hblkF with h | h
            · left; rw [← h]; exact hg
            · right; rw [h] at hg; cases hg; simp)
          have hne : some mb ≠ (Value.slice po nD ko).ownBlock := by
            intro e; have := HRD.out.outer3.2 mb (by rw [HVO.out]; exact e.symm); rw [HRD.out.objc] at this; cases this
          have hml := lt_of_heap HRD.out.obj
          have hkF : wF.heap[mb]? = some (.cells sD.cells 102 (0, 0)) := by
            rw [hgF.block mb (by simp; omega) hne, (below_alloc wD _).block mb hml]; exact HRD.out.obj
          have z9 : wF.cell? ⟨mb, 14, none⟩ = some (.slice po nD ko) := by rw [cell_of_heap hkF, ← HVO.out]; rfl
          have y9 : wF.frozen? ⟨mb, 14, none⟩ = false := frozen_of_heap hkF
          obtain ⟨wG, hwG⟩ : ∃ wG, wG = wF.setCell ⟨mb, 14, none⟩ (.slice pf (nD + 1) kf) := ⟨_, rfl⟩
          rw [← hwG] at stF o1 o2
          have cG := cD.step stF (by omega)
          have owG := owD.step stF (by omega)
          have owWG := owWD.step stF (by omega)
          have HWG := Lib.hid hwG
          have HO1 := Lib.hid o1
          have HSF := Lib.hid stF
          clear hwG o1 stF hownO hownF hgF hblkF x9 hkF hne hml cD owD owWD
          go_upto_region 15 with fail
          rw [← HWG.out]
          go_wp2_with fail
          have hC : ∀ d, (fun d => d = 23 ∨ d = 2) d → (d = 23 ∨ d = 2 ∨ d = 103 + 4 * nD ∨ (29 ≤ d ∧ d < 100)) := fun d hd => by rcases hd with h | h; exact .inl h; exact .inr (.inl h)
          have SF := HSF.out.mono hC
          clear hC
          go_loopw [16, 29] (fun gv i wr => ∃ (j : Nat) (LX : Nat → Nat) (zs : List Value), j ≤ NL.length ∧ i = .int .i64 (j : Int) ∧ Own LX 41 wr 34 1 gv j ((NL.take j).map (numVal .u64)) ∧ Own LX (103 + 4 * nD) wr 34 1 (.slice pl NL.length kl) NL.length zs ∧
            zs.take j = List.replicate j (mark3 nD) ∧ zs.drop j = (NL.drop j).map (numVal .u64) ∧ Step (fun d => d = 23 ∨ d = 2 ∨ d = 103 + 4 * nD ∨ (29 ≤ d ∧ d < 100)) LD wD LX wr ∧
            wr.heap[mb]? = some (.cells (sD.cells.setIfInBounds 14 (.slice pf (nD + 1) kf)) 102 (0, 0)) ∧ LX mb = 2 ∧ Own LX 23 wr 121 1 (.slice pf (nD + 1) kf) (nD + 1) (sD.n3.map (·.1) ++ [.slice pl NL.length kl]) ∧
            Cells LX wr w.heap.size 30 [.slice q en cap, .int .i64 (ea : Int), wat ep, .slice q2 en cap2, .int .i64 (ea : Int), .int .i64 (ew : Int)] ∧ Own LX 40 wr 34 1 (.slice pw NL.length kw) NL.length (NL.map (numVal .u64))) (fun _ i _ => NL.length - (intOf i).toNat)
          case atStart => exact ⟨0, LF, _, by omega, rfl, Own.nil _ _ _ _ _, owG, rfl, rfl, SF, HO1.out, (SF.col mb (lt_of_heap HRD.out.obj)).trans HRD.out.objc, o2, cG, owWG⟩
          case round =>
            obtain ⟨j, LX, zs, hj, rfl, owX, owZ, htk, hdr, SX, hob, hobc, owO, cX, owWX⟩ := hrel
            have HTK := Lib.hid htk
            have HDR := Lib.hid hdr
            have HSX := Lib.hid SX
            have HOB := Lib.hid hob
            have HOBC := Lib.hid hobc
            clear htk hdr SX owG owWG cG SF o2 hobc
            by_cases hlt : j < NL.length
            · have hzl : zs.length = NL.length := by simpa using owZ.length
              obtain ⟨V, hV⟩ : ∃ V, V = NL[j] := ⟨_, rfl⟩
              have hVb : V < 18446744073709551616 := by have := HLT.out NL[j] (List.getElem_mem hlt); rw [← hV] at this; exact this
              have hzj : zs[j]'(by omega) = numVal .u64 V := by
                have h0 := congrArg (fun l => l[0]?) HDR.out
                simp [hlt, hzl] at h0
                rw [h0, hV]
              have hmk1 := mark_num3 nD
              have HV := Lib.hid hV
              have HMK := Lib.hid hmk1
              obtain ⟨g2, cp2, hv2, hLg, d0, d1, _, _⟩ := Own.set owZ (j := j) (by omega) (mark3 nD)
              cases hv2
              rw [hzj] at d0
              obtain ⟨pg, kg, hvg, _⟩ := ownsRow_shape owX.1
              subst hvg
              have HZL := Lib.hid hzl
              clear hV hzl hzj hmk1
              unfold numVal at d0
              go_wp2_with (at_builtin; refine wpList_append rfl (.tmp 76) (.tmp 81) 121 121 rfl 34 Try.underlying121 infoNum3 rfl (by decide) _ j _ rfl (owX.1.alloc _) _ 1 [.int .u64 (V : Int)] rfl (Src.fresh wr Try.underlying121 1 1 [.int .u64 (V : Int)] rfl (by simp [Value.oneCell'])) (by unfold maxLen; omega) (by omega) ?_)
              intro v5 w5 hown5 hg5 hblk5 _
              obtain ⟨L5, _, ow5, st5⟩ := Own.grown (Step.refl (· = 41) LX wr) rfl owX (below_alloc _ _) hown5 hg5 (by simpa using hblk5)
              have owZ5 := owZ.step st5 (by omega)
              obtain ⟨g3, cp3, hv3, hLg3, e0, e1, ow6, st6⟩ := Own.set owZ5 (j := j) (by rw [HZL.out]; exact hlt) (mark3 nD)
              cases hv3
              have ob5 := st5.heap HOB.out (by rw [HOBC.out]; omega)
              have m9 : w5.cell? ⟨mb, 14, none⟩ = some (.slice pf (nD + 1) kf) := by rw [cell_of_heap ob5]; simp [Rm.cells]
              have oc5 := (st5.col mb (lt_of_heap HOB.out)).trans HOBC.out
              have ob6 := st6.heap ob5 (by rw [oc5]; omega)
              have oc6 := (st6.col mb (lt_of_heap ob5)).trans oc5
              have owO6 := (owO.step st5 (by omega)).step st6 (by omega)
              have cX6 := (cX.step st5 (by omega)).step st6 (by omega)
              have owW6 := (owWX.step st5 (by omega)).step st6 (by omega)
              have SX6 := (HSX.out.trans (st5.mono (fun d hd => .inr (.inr (.inr (by rw [show d = 41 from hd]; omega)))))).trans (st6.mono (fun d hd => .inr (.inr (.inl hd))))
              have ow56 := ow5.step st6 (by omega)
              have HF := Lib.hid (And.intro SX6 (And.intro ob6 (And.intro oc6 (And.intro owO6 (And.intro cX6 (And.intro owW6 (And.intro ow56 ow6)))))))
              clear hown5 hg5 hblk5 st5 st6 owZ5 ob5 oc5 ob6 oc6 owO6 cX6 owW6 SX6 ow56 ow6 ow5 owO cX owWX owX owZ d0 d1 hob
              go_wp2_with fail
              rw [show Value.int .u64 (((nD : Nat) : Int) + 1) = mark3 nD from by unfold mark3; congr 1; omega]
              go_roundw
              case rel =>
                obtain ⟨SX6, ob6, oc6, owO6, cX6, owW6, ow56, ow6⟩ := HF.out
                refine ⟨j + 1, L5, zs.set j (mark3 nD), by omega, by go_num, ?_, ow6, ?_, ?_, SX6, ob6, oc6, owO6, cX6, owW6⟩
                · rw [List.take_succ_eq_append_getElem hlt, ← HV.out, List.map_append, List.map_take]; exact ow56
                · have hjz : j < zs.length := by rw [HZL.out]; exact hlt
                  rw [List.take_succ_eq_append_getElem (by simpa using hjz), List.take_set_of_le (Nat.le_refl _), HTK.out]
                  simp [List.replicate_succ']
                · rw [List.drop_set_of_lt (by omega)]
                  have h0 := congrArg (List.drop 1) HDR.out
                  rw [List.drop_drop, ← List.map_drop, List.drop_drop] at h0
                  exact h0
              case measure => simp [intOf]; omega
            · obtain rfl : j = NL.length := by omega
              have hzl : zs.length = NL.length := by simpa using owZ.length
              have hzz : zs = List.replicate NL.length (mark3 nD) := by have := HTK.out; rwa [List.take_of_length_le (by omega)] at this
              subst hzz
              have hRZ := HRD.out.put_k3 (x := .slice pl NL.length kl) (m := NL.length) HSX.out (fun d hd => by rw [← HND.out]; exact hd) (by rw [HOB.out, HND.out]; rfl) (by rw [← HND.out]; exact owO) (by rw [← HND.out]; exact owZ)
              have HRZ := Lib.hid hRZ
              clear hRZ hob owO owZ hzl
              rw [List.take_length] at owX
              obtain ⟨pg, kg, hvg, _⟩ := ownsRow_shape owX.1
              subst hvg
              have hrX := owX.rd
              have hrW := owWX.rd
              have hEE : (E != E) = false := by simp
              have hLL : ((NL.length : Int) != NL.length) = false := by simp
              go_wp2_with fail
              go_loopw [30] (fun i wz => ∃ (j n : Nat), j ≤ NL.length ∧ i = .int .i64 (j : Int) ∧ wz = wr.drewN n) (fun i _ => NL.length - (intOf i).toNat)
              case atStart => exact ⟨0, 0, by omega, rfl, rfl⟩
              case round =>
                obtain ⟨j, nq, hj, rfl, rfl⟩ := hrel
                by_cases hlt : j < NL.length
                · obtain ⟨x1, o1, rfl, _, f1⟩ := rd_num hrX hlt
                  obtain ⟨x2, o2, rfl, _, f2⟩ := rd_num hrW hlt
                  have hVV : ((NL[j] : Int) != NL[j]) = false := by simp
                  go_wp2_with fail
                  go_quiet (fail)
                  go_wp2_with fail
                  go_roundw
                  case rel => exact ⟨j + 1, _, by omega, by go_num, rfl⟩
                  case measure => simp [intOf]; omega
                · have HRq := Lib.hid (HRZ.out.drewN nq)
                  by_cases hE0 : E = 0
                  · have hnB : numB bs.length a m 8 = true := by
                      have h1 := HE.out
                      unfold numE at h1
                      split at h1
                      · assumption
                      · rw [hE0] at h1; cases h1
                    obtain ⟨x, y, rfl, rfl, hxy⟩ := numB_true hnB
                    subst hE0
                    have c0 : (wr.drewN nq).cell? ⟨w.heap.size, 0, none⟩ = some (.slice q en cap) := cX.2.2 0 _ rfl
                    have c1 : (wr.drewN nq).cell? ⟨w.heap.size, 1, none⟩ = some (.int .i64 (ea : Int)) := cX.2.2 1 _ rfl
                    have c2 : (wr.drewN nq).cell? ⟨w.heap.size, 2, none⟩ = some (wat ep) := cX.2.2 2 _ rfl
                    have c3 : (wr.drewN nq).cell? ⟨w.heap.size, 3, none⟩ = some (.slice q2 en cap2) := cX.2.2 3 _ rfl
                    have c4 : (wr.drewN nq).cell? ⟨w.heap.size, 4, none⟩ = some (.int .i64 (ea : Int)) := cX.2.2 4 _ rfl
                    have c5 : (wr.drewN nq).cell? ⟨w.heap.size, 5, none⟩ = some (.int .i64 (ew : Int)) := cX.2.2 5 _ rfl
                    have hyb : y * 8 ≤ 1048576 := by have := HGL.out; omega
                    go_wp2_with fail
                    first
                      | rw [show wrap64 ((y : Int) * 8) = ((y * 8 : Nat) : Int) by unfold wrap64; omega]
                      | rw [show (y : Int) * 8 = ((y * 8 : Nat) : Int) by omega]
                      | rw [show (y : Int) = ((y * 8 : Nat) : Int) by omega]
                    refine (reads_calls HRq.out ⟨ea, en, .slice q en cap, .slice q2 en cap2, ew, ep⟩ he.who ?_ x (y * 8) ?_).mono ?_
                    · show (sD.t ew).length ≤ _
                      rw [HSD.out, setU_t]; omega
                    · have := HGL.out; simp only; omega
                    rintro r wE ⟨rfl, LE, vE, stE, hRE⟩
                    have cE := (show Cells LX (wr.drewN nq) w.heap.size 30 _ from cX).step stE (by unfold Rc; omega)
                    have owE := (show Own LX 40 (wr.drewN nq) 34 1 _ _ _ from owWX).step stE (by unfold Rc; omega)
                    have hTL2 : TL = tell (sT.t ew) ea x (y * 8) := by rw [HTL.out, numT, if_pos hnB, HEV.out]; rfl
                    have hst : sD.t ew = sT.t ew := by rw [HSD.out, setU_t]
                    have hRE2 : Room w0 mb LE wE { (sT.setU ew TL).setT ew vE TL with k3 := .slice pf (nD + 1) kf, n3 := sT.n3 ++ [(.slice pl NL.length kl, NL.length)] } := by
                      have h1 := hRE
                      change Room w0 mb LE wE (({ sD with k3 := .slice pf (sD.n3.length + 1) kf, n3 := sD.n3 ++ [(.slice pl NL.length kl, NL.length)] } : Rm).setT ew vE (tell (sD.t ew) ea x (y * 8))) at h1
                      rw [hst, ← hTL2, HNK.out, HSD.out, num_comm3] at h1
                      rw [HND.out, HNK.out]
                      exact h1
                    obtain ⟨d1, d2, d3, d4⟩ := num_done3 gT bT he.who (l := TL) (by rw [hTL2]; have := tell_len (sT.t ew) ea x (y * 8); omega) vE (.slice pf (nD + 1) kf) (.slice pl NL.length kl) NL.length hnll
                    have HF := Lib.hid (And.intro hRE2 (And.intro d1 (And.intro d2 (And.intro (d3.trans HNT.out) (And.intro (d4.trans HAT.out) (And.intro cE owE))))))
                    clear hRE hRE2 d1 d2 d3 d4 hst hTL2 stE cE owE
                    go_wp2_with fail
                    go_roundw
                    case rel =>
                      obtain ⟨d0, d1, d2, d3, d4, d5, d6⟩ := HF.out
                      exact ⟨t + 1, LE, _, by omega, by go_num, d0, d1, d2, d3, d4, d5, d6⟩
                    case measure => simp [intOf]; omega
                  · have hE1 : (E == 0) = false := by simpa using hE0
                    have hnB : ¬ numB bs.length a m 8 = true := by
                      intro h1; apply hE0; have h2 := HE.out; unfold numE at h2; rw [if_pos h1] at h2; exact h2.symm
                    have hTL2 : TL = sT.u ew := by rw [HTL.out, numT, if_neg hnB]
                    have hsT : sD = sT := by rw [HSD.out, hTL2, setU_same]
                    have hRE2 : Room w0 mb LX (wr.drewN nq) { sT with k3 := .slice pf (sT.n3.length + 1) kf, n3 := sT.n3 ++ [(.slice pl NL.length kl, NL.length)] } := by
                      have h1 := HRq.out
                      rw [hsT] at h1
                      exact h1
                    have HF := Lib.hid (And.intro hRE2 (And.intro (num_good3 (.slice pf (sT.n3.length + 1) kf) (sT.n3 ++ [(.slice pl NL.length kl, NL.length)]) gT) (num_bound3 bT (.slice pf (sT.n3.length + 1) kf) (.slice pl NL.length kl) NL.length hnll)))
                    have HCO := Lib.hid (And.intro (show Cells LX (wr.drewN nq) w.heap.size 30 _ from cX) (show Own LX 40 (wr.drewN nq) 34 1 _ _ _ from owWX))
                    clear hnB hTL2 hsT hRE2
                    go_wp2_with fail
                    go_roundw
                    case rel =>
                      obtain ⟨d0, d1, d2⟩ := HF.out
                      obtain ⟨d5, d6⟩ := HCO.out
                      exact ⟨t + 1, LX, _, by omega, by go_num, d0, d1, d2, HNT.out, HAT.out, d5, d6⟩
                    case measure => simp [intOf]; omega
        · obtain rfl : t = 2 := by omega
          have HS := Lib.hid (show Stepped w0 mb gb w1 w2 K wr from ⟨LW, sT, hRT, gT, bT⟩)
          clear hRT cW owW
          go_wp2_with fail
          go_ret
          exact ⟨rfl, HS.out⟩
end Go.Proofs.Ytajaonnpekdklaa.Vr
