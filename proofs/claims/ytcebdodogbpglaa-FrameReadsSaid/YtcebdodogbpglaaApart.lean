import Derived.Test.YtcebdodogbpglaaApartB
set_option linter.unusedVariables false
set_option maxRecDepth 100000
/-! THE BOOK's LISTS ARE APART: the walk. -/
namespace Go.Proofs.Ytcebdodogbpglaa.Put
open Go.ChangeShapes Go.WideShapes Go.ChangeAt Go.RowKit Mem Ink

/-- The book's lists of what was grown. -/
theorem BookAt.grew {L : Nat → Nat} {c kb : Nat} {w : World} {A W G O : List Value} (h : BookAt L c w kb A W G O) : ∃ pg cg po co, w.cell? ⟨kb, 2, none⟩ = some (.slice pg G.length cg) ∧ w.cell? ⟨kb, 3, none⟩ = some (.slice po O.length co) ∧ G.length ≤ cg ∧ cg ≤ maxLen ∧ O.length ≤ co ∧ co ≤ maxLen ∧
    (∀ j u, G[j]? = some u → ∃ b, pg = some ⟨b, 0, none⟩ ∧ w.cell? ⟨b, j, none⟩ = some u) ∧ (∀ j u, O[j]? = some u → ∃ b, po = some ⟨b, 0, none⟩ ∧ w.cell? ⟨b, j, none⟩ = some u) := by
  obtain ⟨va, vw, vg, vo, h0, h1, h2, h3, h4, h5⟩ := h
  obtain ⟨pg, cg, hvg, hng, hmg, _, hg⟩ := ownsRow_shape h4.1
  subst hvg
  obtain ⟨po, co, hvo, hno, hmo, _, ho⟩ := ownsRow_shape h5.1
  subst hvo
  exact ⟨pg, cg, po, co, by rw [cell_of_heap h0]; simp, by rw [cell_of_heap h0]; simp, hng, hmg, hno, hmo, fun j u hj => by obtain ⟨b, e, _, hc⟩ := hg j u hj; exact ⟨b, e, hc⟩, fun j u hj => by obtain ⟨b, e, _, hc⟩ := ho j u hj; exact ⟨b, e, hc⟩⟩

theorem Hd.cell {L : Nat → Nat} {col m n : Nat} {w : World} {v x : Value} {bb : Option Nat} (h : Hd L col w v m x bb n) : ∃ p cap, v = .slice p m cap ∧ m ≤ cap ∧ cap ≤ maxLen ∧ ∀ j, j < m → ∃ g, p = some ⟨g, 0, none⟩ ∧ w.cell? ⟨g, j, none⟩ = some x := by
  obtain ⟨p, cap, hv, hn, hm, hc⟩ := h
  exact ⟨p, cap, hv, hn, hm, fun j hj => by obtain ⟨g, a, _, c, _⟩ := hc j hj; exact ⟨g, a, c⟩⟩

set_option maxHeartbeats 1000000 in
theorem apart_calls {L : Nat → Nat} {c : Nat} {w : World} {kb : Nat} {E : List Ent} (hB : BookAt L c w kb (E.map (·.v)) (E.map (·.wv)) [] []) (hE : E.length ≤ 100000000000) (hF : Fresh L c w E)
    (hd : ∀ i j (hi : i < E.length) (hj : j < E.length), E[i].col = E[j].col → i = j) (hbig : ∀ i (h : i < E.length), E[i].bs.length ≤ 1000000000000) :
    Calls Try.prog 17 #[.pointer (some ⟨kb, 0, none⟩)] w fun e w' => e = .returned (.bool true) ∧ ∃ L', Step (fun d => Bc c d ∨ ∃ i, ∃ h : i < E.length, E[i].col = d) L w L' w' := by
  have HF := Lib.hid hF
  have HD := Lib.hid hd
  have HB := Lib.hid hB
  have HBIG := Lib.hid hbig
  clear hF hd hbig
  obtain ⟨va, vw, vg, vo, h0, h1, h2, h3, h4, h5⟩ := hB
  obtain ⟨pa, ca, hva, hna, hma, _, ha⟩ := ownsRow_shape h2.1
  subst hva
  obtain ⟨pw, cw, hvw, hnw, hmw, _, hwc⟩ := ownsRow_shape h3.1
  subst hvw
  rw [List.length_map] at *
  have c0 : w.cell? ⟨kb, 0, none⟩ = some (.slice pa E.length ca) := by rw [cell_of_heap h0]; simp
  have c1 : w.cell? ⟨kb, 1, none⟩ = some (.slice pw E.length cw) := by rw [cell_of_heap h0]; simp
  have HA := Lib.hid ha
  have HWc := Lib.hid hwc
  clear ha hwc h0 h1 h2 h3 h4 h5
  go_enter Try.func17, Try.ntmps17
  go_wp2_with fail
  go_loopw [3] (fun i wr => ∃ k q : Nat, k ≤ E.length ∧ i = .int .i64 k ∧ wr = w.drewN q) (fun i _ => E.length - (intOf i).toNat)
  case atStart => exact ⟨0, 0, by omega, rfl, rfl⟩
  case round =>
    obtain ⟨k, q, hk, rfl, rfl⟩ := hrel
    have c0 : (w.drewN q).cell? ⟨kb, 0, none⟩ = some (.slice pa E.length ca) := c0
    have c1 : (w.drewN q).cell? ⟨kb, 1, none⟩ = some (.slice pw E.length cw) := c1
    by_cases hlt : k < E.length
    · obtain ⟨ga, hpa, _, ea⟩ := HA.out k (E[k].v) (by simp [hlt])
      obtain ⟨gw, hpw, _, ew⟩ := HWc.out k (E[k].wv) (by simp [hlt])
      have ea : (w.drewN q).cell? ⟨ga, k, none⟩ = some E[k].v := ea
      have ew : (w.drewN q).cell? ⟨gw, k, none⟩ = some E[k].wv := ew
      subst hpa hpw
      obtain ⟨f1, f2, _⟩ := HF.out k hlt
      have hS : sameB E[k].bs E[k].bs = true := by simp [sameB]
      obtain ⟨wr, hwr⟩ : ∃ wr, wr = w.drewN q := ⟨_, rfl⟩
      have r1 : Rd L E[k].col wr 1 E[k].v E[k].bs.length (E[k].bs.map byt) := by rw [hwr]; exact f1.rd
      have r2 : Rd L E[k].wcol wr 1 E[k].wv E[k].bs.length (E[k].bs.map byt) := by rw [hwr]; exact f2
      have cS : ∀ n, Calls Try.prog 12 #[E[k].v, E[k].wv] (wr.drewN n) fun e w'' => e = .returned (.bool true) ∧ ∃ m, w'' = wr.drewN m := fun n => quiet_more ((same_calls (r1.drewN n) (r2.drewN n)).mono fun _ _ ⟨g1, g2⟩ => ⟨by rw [g1, hS], g2⟩)
      rw [← hwr] at c0 c1 ea ew ⊢
      have CS := Lib.hid cS
      have HWR := Lib.hid hwr
      clear cS hS f1 f2 r1 r2 hwr
      obtain ⟨vk, hvk⟩ : ∃ v, v = E[k].v := ⟨_, rfl⟩
      obtain ⟨wk, hwk⟩ : ∃ v, v = E[k].wv := ⟨_, rfl⟩
      rw [← hvk] at ea CS
      rw [← hwk] at ew CS
      clear hvk hwk
      go_wp2_with fail
      go_quiet (exact CS.out _)
      go_wp2_with fail
      go_roundw
      case rel => exact ⟨k + 1, q + nq, by omega, by go_num, by rw [HWR.out]; simp [World.drewN, Nat.add_assoc]⟩
      case measure => simp [intOf]; omega
    · have hkE : k = E.length := by omega
      subst hkE
      go_wp2_with fail
      have hM0 : Marked L c w kb E 0 (w.drewN q) := ⟨HB.out, (Step.refl _ _ _).drewN q, fun i hi => (HF.out i hi).1, fun i hi => (HF.out i hi).2.2⟩
      go_loopw [5] (fun i wr => ∃ k : Nat, k ≤ E.length ∧ i = .int .i64 k ∧ Marked L c w kb E k wr) (fun i _ => E.length - (intOf i).toNat)
      case atStart => exact ⟨0, by omega, rfl, hM0⟩
      case round =>
        clear hM0 HA HWc c0 c1
        obtain ⟨k, hk, rfl, hM⟩ := hrel
        obtain ⟨pa, ca, c0, _, _, ha⟩ := hM.book.all
        rw [List.length_map] at c0
        by_cases hlt : k < E.length
        · go_wp2_with fail
          go_loopw [6] (fun i wi => ∃ n : Nat, n ≤ E[k].bs.length ∧ i = .int .i64 n ∧ Marking L c w kb E k hlt n wi) (fun i _ => E[k].bs.length - (intOf i).toNat)
          case atStart => exact ⟨0, by omega, rfl, hM.begin hlt⟩
          case round =>
            clear hM c0 ha
            obtain ⟨n, hn, rfl, hG⟩ := hrel
            obtain ⟨pa, ca, c0, _, _, ha⟩ := hG.book.all
            rw [List.length_map] at c0
            obtain ⟨ga, hpa, ea⟩ := ha k (E[k].v) (by simp [hlt])
            subst hpa
            clear ha
            obtain ⟨xs, hxs, ox⟩ := hG.this
            obtain ⟨pk, ck, hvk, _, hck, _⟩ := ownsRow_shape ox.1
            unfold maxLen at hck
            clear hxs ox
            by_cases hn2 : n < E[k].bs.length
            · obtain ⟨g, cp, hv2, hfz, ⟨u, hu⟩, hP⟩ := hG.put hn2 HD.out
              rw [hv2] at ea
              clear hvk
              have HV2 := Lib.hid hv2
              clear hv2
              go_wp2_with fail
              go_roundw
              case rel => exact ⟨n + 1, by omega, by go_num, hP⟩
              case measure => simp [intOf]; omega
            · rw [hvk] at ea
              have HVK := Lib.hid hvk
              clear hvk
              have hnE : n = E[k].bs.length := by omega
              go_wp2_with fail
              go_roundw
              case rel => exact ⟨k + 1, by omega, by go_num, by subst hnE; exact hG.finish⟩
              case measure => simp [intOf]; omega
        · have hkE : k = E.length := by omega
          subst hkE
          clear ha
          go_wp2_with fail
          have hG0 : Grown L c w kb E 0 L wr [] [] := ⟨hM.book, hM.step, ⟨rfl, rfl⟩, fun j hj => absurd hj (by simp), fun i hi h => absurd h (by omega), fun i hi _ => by have := hM.ents i hi; rw [if_pos hi] at this; exact this, hM.apart⟩
          go_loopw [7] (fun i wq => ∃ (k : Nat) (L1 : Nat → Nat) (G O : List Value), k ≤ E.length ∧ i = .int .i64 k ∧ Grown L c w kb E k L1 wq G O) (fun i _ => E.length - (intOf i).toNat)
          case atStart => exact ⟨0, L, [], [], by omega, rfl, hG0⟩
          case round =>
            clear hG0 hM c0
            obtain ⟨k, L1, G, O, hk, rfl, hQ⟩ := hrel
            obtain ⟨pa, ca, c0, _, _, ha⟩ := hQ.book.all
            rw [List.length_map] at c0
            by_cases hlt : k < E.length
            · obtain ⟨ga, hpa, ea⟩ := ha k (E[k].v) (by simp [hlt])
              subst hpa
              clear ha
              obtain ⟨vk, hvk⟩ : ∃ v, v = E[k].v := ⟨_, rfl⟩
              rw [← hvk] at ea
              have HVK := Lib.hid hvk
              clear hvk
              go_wp2_with fail
              go_loopw [8, 9] (fun b i wi => ∃ (n : Nat) (L2 : Nat → Nat) (G2 O2 : List Value), n ≤ 9 ∧ i = .int .i64 n ∧ Growing L c w kb E k hlt n n b L2 wi G2 O2) (fun _ i _ => 9 - (intOf i).toNat)
              case atStart => exact ⟨0, L1, G, O, by omega, rfl, by rw [HVK.out]; exact hQ.begin hlt⟩
              case round =>
                clear hQ c0 ea HVK
                obtain ⟨n, L2, G2, O2, hn, rfl, hI⟩ := hrel
                by_cases hn9 : n < 9
                · obtain ⟨pb, cb, hvb, hb1, hb2, _⟩ := ownsRow_shape hI.own.1
                  subst hvb
                  have hbl : E[k].bs.length ≤ 1000000000000 := HBIG.out k hlt
                  go_wp2_with (at_builtin; refine wpList_append2 rfl (.tmp 92) (.tmp 95) 23 23 rfl 5 Try.underlying23 infoByte rfl (by decide) _ (E[k].bs.length + n) _ rfl (hI.own.1.alloc _) _ 1 [.int .u8 ((k : Int) % 256)] rfl (Src.fresh _ Try.underlying23 1 1 [.int .u8 ((k : Int) % 256)] rfl (by simp [Value.oneCell'])) (by unfold maxLen; omega) (by omega) ?_)
                  intro v2 w2 hown2 hg2 hblk _ hkp
                  obtain ⟨L3, hI2⟩ := hI.more HD.out ⟨_, rfl⟩ hown2 hg2 (by simpa using hblk) (by simpa using hkp)
                  obtain ⟨p2, c2, hv2, _, _, _⟩ := ownsRow_shape hown2
                  subst hv2
                  have HI2 := Lib.hid hI2
                  have hbook := hI2.book
                  have hlen2 := hI2.len
                  clear hI hown2 hg2 hblk hkp hI2
                  obtain ⟨va, vw, vg, vo, b0, b1, b2, b3, b4, b5⟩ := hbook
                  obtain ⟨pg, cg, hvg, _, _, _⟩ := ownsRow_shape b4.1
                  subst hvg
                  have hGl : G2.length ≤ 1000000000000 := by omega
                  have hOl : O2.length ≤ 1000000000000 := by omega
                  clear hlen2
                  have d2 : w2.cell? ⟨kb, 2, none⟩ = some (.slice pg G2.length cg) := by rw [cell_of_heap b0]; rfl
                  go_wp2_with (at_builtin; refine wpList_append rfl (.tmp 101) (.tmp 103) 31 31 rfl 23 Try.underlying31 infoBytes rfl (by decide) _ G2.length G2 rfl (b4.1.alloc _) _ 1 [.slice p2 (E[k].bs.length + n + 1) c2] rfl (Src.fresh _ Try.underlying31 1 1 [.slice p2 (E[k].bs.length + n + 1) c2] rfl (by simp [Value.oneCell'])) (by unfold maxLen; omega) (by omega) ?_)
                  intro v4 w4 hown4 hg4 hblk4 _
                  obtain ⟨L4, S4, o4, s4⟩ := Own.grown (C := Bc c) (Step.refl _ L3 w2) (by unfold Bc; omega) b4 (below_alloc w2 _) hown4 hg4 (by simpa using hblk4)
                  have e0 := s4.heap b0 (by rw [b1]; omega)
                  have e1 : L4 kb = c := (s4.col kb (lt_of_heap b0)).trans b1
                  have e2 := b2.step s4 (by omega)
                  have e3 := b3.step s4 (by omega)
                  have e5 := b5.step s4 (by omega)
                  obtain ⟨pg2, cg2, hvg, _⟩ := ownsRow_shape o4.1
                  subst hvg
                  obtain ⟨s5, f0⟩ := Step.store (j := 2) (v := .slice pg2 (G2.length + 1) cg2) e0 e1
                  have d0 : w4.cell? ⟨kb, 2, none⟩ = some (.slice pg G2.length cg) := by rw [cell_of_heap e0]; rfl
                  have d1 : w4.frozen? ⟨kb, 2, none⟩ = false := frozen_of_heap e0
                  have q2 := e2.step s5 (by omega)
                  have q3 := e3.step s5 (by omega)
                  have q4 := o4.step s5 (by omega)
                  have q5 := e5.step s5 (by omega)
                  have S5 := S4.trans (s5.mono (D := Bc c) (by rintro _ rfl; unfold Bc; omega))
                  obtain ⟨po, co, hvo, _, _, _⟩ := ownsRow_shape q5.1
                  subst hvo
                  have c3 : (w4.setCell ⟨kb, 2, none⟩ (.slice pg2 (G2.length + 1) cg2)).cell? ⟨kb, 3, none⟩ = some (.slice po O2.length co) := by rw [cell_of_heap f0]; rfl
                  clear hown4 hg4 hblk4 b0 b1 b2 b3 b4 b5 s4 S4 d2 e0 e2 e3 e5 o4 s5
                  go_upto_region 23 with fail
                  generalize w4.setCell ⟨kb, 2, none⟩ (.slice pg2 (G2.length + 1) cg2) = w5 at *
                  go_wp2_with (at_builtin; refine wpList_append rfl (.tmp 111) (.tmp 113) 32 32 rfl 3 Try.underlying32 infoInt rfl (by decide) _ O2.length O2 rfl (q5.1.alloc _) _ 1 [.int .i64 k] rfl (Src.fresh _ Try.underlying32 1 1 [.int .i64 k] rfl (by simp [Value.oneCell'])) (by unfold maxLen; omega) (by omega) ?_)
                  intro v6 w6 hown6 hg6 hblk6 _
                  obtain ⟨L6, S6, o6, s6⟩ := Own.grown S5 (by unfold Bc; omega) q5 (below_alloc w5 _) hown6 hg6 (by simpa using hblk6)
                  have e0 := s6.heap f0 (by rw [e1]; omega)
                  have e1' : L6 kb = c := (s6.col kb (lt_of_heap f0)).trans e1
                  have r2 := q2.step s6 (by omega)
                  have r3 := q3.step s6 (by omega)
                  have r4 := q4.step s6 (by omega)
                  obtain ⟨po2, co2, hvo, _⟩ := ownsRow_shape o6.1
                  subst hvo
                  obtain ⟨s7, f1⟩ := Step.store (j := 3) (v := .slice po2 (O2.length + 1) co2) e0 e1'
                  have d0 : w6.cell? ⟨kb, 3, none⟩ = some (.slice po O2.length co) := by rw [cell_of_heap e0]; rfl
                  have d1 : w6.frozen? ⟨kb, 3, none⟩ = false := frozen_of_heap e0
                  have S7 := S6.trans (s7.mono (D := Bc c) (by rintro _ rfl; unfold Bc; omega))
                  have hBk : BookAt L6 c (w6.setCell ⟨kb, 3, none⟩ (.slice po2 (O2.length + 1) co2)) kb (E.map (·.v)) (E.map (·.wv)) (G2 ++ [.slice p2 (E[k].bs.length + n + 1) c2]) (O2 ++ [.int .i64 k]) :=
                    ⟨_, _, _, _, f1, e1', r2.step s7 (by omega), r3.step s7 (by omega), by simpa using r4.step s7 (by omega), by simpa using o6.step s7 (by omega)⟩
                  have hN := HI2.out.note S7 hBk
                  clear hown6 hg6 hblk6 c3 f0 q2 q3 q4 q5 s6 S6 e0 r2 r3 r4 o6 s7 S5 hBk S7 f1
                  go_wp2_with fail
                  go_roundw
                  case rel => exact ⟨n + 1, L6, _, _, by omega, by go_num, hN⟩
                  case measure => simp [intOf]; omega
                · have hn10 : n = 9 := by omega
                  subst hn10
                  go_wp2_with fail
                  go_roundw
                  case rel => exact ⟨k + 1, L2, G2, O2, by omega, by go_num, hI.finish⟩
                  case measure => simp [intOf]; omega
            · have hkE : k = E.length := by omega
              subst hkE
              obtain ⟨pg, cg, po, co, c2, c3, hg1, hg2, ho1, ho2, hgc, hoc⟩ := hQ.book.grew
              have HGC := Lib.hid hgc
              have HOC := Lib.hid hoc
              have HAC := Lib.hid ha
              have HLEN := Lib.hid hQ.len
              have HG := Lib.hid hQ.grown
              have HDN := Lib.hid hQ.done
              have HST := Lib.hid hQ.step
              clear hgc hoc ha hQ
              go_wp2_with fail
              go_loopw [10] (fun i wz => ∃ k : Nat, k ≤ E.length ∧ i = .int .i64 k ∧ wz = wr) (fun i _ => E.length - (intOf i).toNat)
              case atStart => exact ⟨0, by omega, rfl, rfl⟩
              case round =>
                obtain ⟨k, hk, rfl, rfl⟩ := hrel
                by_cases hlt : k < E.length
                · go_wp2_with fail
                  go_loopw [11] (fun i wz => ∃ n : Nat, n ≤ E[k].bs.length ∧ i = .int .i64 n ∧ wz = wr) (fun i _ => E[k].bs.length - (intOf i).toNat)
                  case atStart => exact ⟨0, by omega, rfl, rfl⟩
                  case round =>
                    obtain ⟨n, hn, rfl, rfl⟩ := hrel
                    obtain ⟨ga, hpa, ea⟩ := HAC.out k (E[k].v) (by simp [hlt])
                    subst hpa
                    obtain ⟨pv, cv, hv, hv1, hv2, hvc⟩ := (HDN.out k hlt hlt).cell
                    unfold maxLen at hv2
                    rw [hv] at ea
                    by_cases hn2 : n < E[k].bs.length
                    · obtain ⟨gv, hpv, ev⟩ := hvc n hn2
                      subst hpv
                      unfold mark at ev
                      clear hv hvc
                      go_wp2_with fail
                      go_roundw
                      case rel => exact ⟨n + 1, by omega, by go_num, by first | rfl | trivial⟩
                      case measure => simp [intOf]; omega
                    · clear hv hvc
                      go_wp2_with fail
                      go_roundw
                      case rel => exact ⟨k + 1, by omega, by go_num, by first | rfl | trivial⟩
                      case measure => simp [intOf]; omega
                · have hkE : k = E.length := by omega
                  subst hkE
                  have hGO := HLEN.out
                  have hGl : G.length ≤ 1000000000000 := by omega
                  have hLE : G.length = O.length := hGO.1
                  have HLE := Lib.hid hLE
                  clear hGO hLE HLEN
                  obtain ⟨gl, hgl⟩ : ∃ gl, gl = G.length := ⟨_, rfl⟩
                  obtain ⟨ol, hol⟩ : ∃ ol, ol = O.length := ⟨_, rfl⟩
                  have hlo : gl ≤ ol := by rw [hgl, hol, HLE.out]; exact Nat.le_refl _
                  rw [← hgl] at hGl c2 hg1
                  rw [← hol] at c3 ho1
                  have HGL := Lib.hid hgl
                  have HOL := Lib.hid hol
                  clear hgl hol
                  go_wp2_with fail
                  obtain ⟨W, hW⟩ : ∃ W, W = wr := ⟨_, rfl⟩
                  have c2 : W.cell? ⟨kb, 2, none⟩ = some (.slice pg gl cg) := by rw [hW]; exact c2
                  have c3 : W.cell? ⟨kb, 3, none⟩ = some (.slice po ol co) := by rw [hW]; exact c3
                  have hQ0 : ∃ q : Nat, wr = W.drewN q := ⟨0, by rw [hW]; rfl⟩
                  rw [← hW] at HG HGC HOC HST
                  clear hW
                  go_loopw [12] (fun i wz => ∃ k q : Nat, k ≤ gl ∧ i = .int .i64 k ∧ wz = W.drewN q) (fun i _ => gl - (intOf i).toNat)
                  case atStart => obtain ⟨q0, h00⟩ := hQ0; exact ⟨0, q0, by omega, rfl, h00⟩
                  case round =>
                    clear hQ0
                    obtain ⟨k, q, hk, rfl, hwq⟩ := hrel
                    by_cases hlt : k < gl
                    · obtain ⟨i, hi, m, v, hOi, hGi, hik, hD⟩ := HG.out k (by rw [← HGL.out]; exact hlt)
                      obtain ⟨gg, hpg, eg⟩ := HGC.out k v hGi
                      obtain ⟨go, hpo, eo⟩ := HOC.out k _ hOi
                      subst hpg hpo
                      clear hOi hGi
                      obtain ⟨pv, cv, hv, hv1, hv2, hvc⟩ := hD.cell
                      subst hv
                      unfold maxLen at hv2
                      have HVC := Lib.hid hvc
                      clear hD hvc
                      have c2r : wr.cell? ⟨kb, 2, none⟩ = some (.slice (some ⟨gg, 0, none⟩) gl cg) := by rw [hwq]; exact c2
                      have c3r : wr.cell? ⟨kb, 3, none⟩ = some (.slice (some ⟨go, 0, none⟩) ol co) := by rw [hwq]; exact c3
                      have egr : wr.cell? ⟨gg, k, none⟩ = some (.slice pv m cv) := by rw [hwq]; exact eg
                      have hQ1 : ∃ q : Nat, wr = W.drewN q := ⟨q, hwq⟩
                      clear hwq
                      go_wp2_with fail
                      go_loopw [13] (fun i wz => ∃ n q : Nat, n ≤ m ∧ i = .int .i64 n ∧ wz = W.drewN q) (fun i _ => m - (intOf i).toNat)
                      case atStart => obtain ⟨q0, h00⟩ := hQ1; exact ⟨0, q0, by omega, rfl, h00⟩
                      case round =>
                        clear hQ1 c2r c3r egr
                        obtain ⟨n, q, hn, rfl, hwq⟩ := hrel
                        have c2r : wr.cell? ⟨kb, 2, none⟩ = some (.slice (some ⟨gg, 0, none⟩) gl cg) := by rw [hwq]; exact c2
                        have c3r : wr.cell? ⟨kb, 3, none⟩ = some (.slice (some ⟨go, 0, none⟩) ol co) := by rw [hwq]; exact c3
                        have egr : wr.cell? ⟨gg, k, none⟩ = some (.slice pv m cv) := by rw [hwq]; exact eg
                        have eor : wr.cell? ⟨go, k, none⟩ = some (.int .i64 i) := by rw [hwq]; exact eo
                        by_cases hn2 : n < m
                        · obtain ⟨gv, hpv, ev⟩ := HVC.out n hn2
                          subst hpv
                          unfold mark at ev
                          have evr : wr.cell? ⟨gv, n, none⟩ = some (.int .u8 ((i : Int) % 256)) := by rw [hwq]; exact ev
                          have HWQ := Lib.hid hwq
                          clear hwq ev
                          go_wp2_with fail
                          go_quiet (fail)
                          go_wp2_with fail
                          go_roundw
                          case rel => exact ⟨n + 1, q + nq, by omega, by go_num, by rw [HWQ.out]; simp [World.drewN, Nat.add_assoc]⟩
                          case measure => simp [intOf]; omega
                        · have HWQ := Lib.hid hwq
                          clear hwq
                          go_wp2_with fail
                          go_roundw
                          case rel => exact ⟨k + 1, q, by omega, by go_num, HWQ.out⟩
                          case measure => simp [intOf]; omega
                    · have hkE : k = gl := by omega
                      subst hkE
                      have c2r : wr.cell? ⟨kb, 2, none⟩ = some (.slice pg k cg) := by rw [hwq]; exact c2
                      have HWQ := Lib.hid hwq
                      clear hwq
                      go_wp2_with fail
                      go_ret
                      exact ⟨rfl, L1, by rw [HWQ.out]; exact HST.out.drewN q⟩

end Go.Proofs.Ytcebdodogbpglaa.Put
