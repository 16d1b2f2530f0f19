import Derived.Test.YtcebdodogbpglabRdT
set_option linter.unusedVariables false
set_option maxRecDepth 100000
/-! gone. -/
namespace Go.Proofs.Ytcebdodogbpglab.Rdr
open Go.ChangeShapes Go.WideShapes Go.ChangeAt Go.RowKit Mem Put

theorem src2 (w : World) (p1 p2 : Option Addr) (a k1 b k2 : Nat) : Src Try.prog 2 22 (.slice (some ⟨w.heap.size + 1, 0, none⟩) 1 1) 1 [.slice p1 a k1, .slice p2 b k2] ((w.alloc (.cells #[.slice p1 a k1, .slice p2 b k2] 32)).alloc (.cells #[.slice p1 a k1, .slice p2 b k2] 32)) := by
  have h := Src.fresh (size := 2) (T := 32) (w.alloc (.cells #[.slice p1 a k1, .slice p2 b k2] 32)) Try.underlying22 1 1 [.slice p1 a k1, .slice p2 b k2] (by simp) (by simp [Value.oneCell'])
  have e : (w.alloc (.cells #[.slice p1 a k1, .slice p2 b k2] 32)).heap.size = w.heap.size + 1 := by simp
  rw [e] at h
  exact h
theorem standS_ne2 (a : Int) (b c : Bool) : (standS a b c != 2) = true := by
  unfold standS
  split
  · rfl
  · split
    · rfl
    · split <;> rfl
theorem standS_ne (a : Int) (b c : Bool) : (standS a b c == 2) = false := by
  unfold standS
  split
  · rfl
  · split
    · rfl
    · split <;> rfl

theorem Going.shut {L0 L : Nat → Nat} {w0 w w' : World} {K rb : Nat} {bs : List UInt8} {a : Nat} {T Q : List Msg} {told : Nat} {held : Int} {vl : Value} (h : Going L0 w0 K rb bs false a T Q told held L w vl) (st : Step (· = K) L w L w')
    (hr : RdrAt L K w' rb 65536 4194304 told Q (RR bs a).t held (RR bs a).w (RR bs a).e true) : Going L0 w0 K rb bs true a T Q told held L w' vl :=
  ⟨h.step.trans (st.mono (by rintro _ rfl; exact Nat.le_refl _)), hr, h.q, h.ts.step st (by rintro _ rfl; omega), h.qs.step st (by rintro _ rfl; omega), h.list.step st (by omega), h.held, h.told⟩

def GonePost (K : Nat) (L : Nat → Nat) (w : World) (bs : List UInt8) (sh : Bool) (e : Ending) (w' : World) : Prop :=
  ∃ v', e = .returned (.tuple #[v', .int .i64 (standS (RR bs bs.length).w (RR bs bs.length).e sh), .int .i64 (standE (RR bs bs.length).w (RR bs bs.length).e sh)]) ∧ ∃ L', Step (fun d => K ≤ d) L w L' w' ∧ MsgsRd L' w' (fun d => K ≤ d) v' (RR bs bs.length).q

set_option maxHeartbeats 4000000 in
theorem gone_calls {L : Nat → Nat} {w : World} {p q : Option Addr} {n cap k cap2 c0 cq : Nat} {bs : List UInt8} {cs : List Int} (K : Nat) (sh : Bool) (hr : Rd L c0 w 1 (.slice p n cap) n (bs.map byt)) (hc : Rd L cq w 1 (.slice q k cap2) k (cs.map fun x => .int .i64 x))
    (h0 : c0 < K) (hq : cq < K) (hi : ∀ x ∈ cs, -9223372036854775808 ≤ x ∧ x ≤ 9223372036854775807) (hn : n ≤ 10000000000) :
    Calls Try.prog 8 #[.slice p n cap, .slice q k cap2, .bool sh] w (GonePost K L w bs sh) := by
  have hbl : bs.length = n := by simpa using hr.1
  have hcl : cs.length = k := by simpa using hc.1
  subst hbl hcl
  obtain ⟨_, _, hv, hcn, hcm⟩ := hr.shape
  cases hv
  obtain ⟨_, _, hv, hcn2, hcm2⟩ := hc.shape
  cases hv
  unfold maxLen at hcm hcm2
  go_enter Try.func8, Try.ntmps8
  go_wp2_with fail
  refine (new_calls L K w 65536 4194304 (Nat.le_refl _) (Nat.le_refl _)).mono ?_; rintro e w1 ⟨rb, rfl, L1, s1, hR⟩
  have hG : Going L w K rb bs false 0 [] [] 0 0 L1 w1 (.slice none 0 0) :=
    ⟨s1.mono (fun _ x => x.elim), by unfold RR; rw [List.take_zero, scan_nil]; exact hR, by unfold RR; rw [List.take_zero, scan_nil]; rfl, fun m hm => (by cases hm), fun m hm => (by cases hm), Own.nil _ _ _ _ _, by simp [pairs, szs], Nat.le_refl _⟩
  have HG := Lib.hid hG
  clear hG hR s1
  go_wp2_with fail
  have HI := Lib.hid hi
  clear hi
  go_loopw [11, 12, 13] (fun vl at_ i_ wr => ∃ (a i : Nat) (T Q : List Msg) (told : Nat) (held : Int) (L1 : Nat → Nat), a ≤ bs.length ∧ i ≤ a ∧ at_ = .int .i64 a ∧ i_ = .int .i64 i ∧ Going L w K rb bs false a T Q told held L1 wr vl) (fun _ at_ _ _ => bs.length - (intOf at_).toNat)
  case atStart => exact ⟨0, 0, [], [], 0, 0, L1, by omega, by omega, rfl, rfl, HG.out⟩
  case round =>
    clear HG
    obtain ⟨a, i, T, Q, told, held, L2, ha, hia, rfl, rfl, hG⟩ := hrel
    have hb := hG.bounds
    obtain ⟨hb1, hb2, hb3, hb4⟩ := hb
    obtain ⟨pl, kl, hvl, _⟩ := ownsRow_shape hG.list.1
    subst hvl
    by_cases hlt : a < bs.length
    · have hr2 := hr.step hG.step (by show ¬ K ≤ c0; omega)
      have hc2 := hc.step hG.step (by show ¬ K ≤ cq; omega)
      obtain ⟨b, off, hp, _, _⟩ := hr2.at (show 0 < bs.length by omega)
      subst hp
      have HR2 := Lib.hid hr2
      have HGG := Lib.hid hG
      clear hr2 hG
      by_cases hik : i < cs.length
      · obtain ⟨_, q', k', hv, _, _, hcc⟩ := hc2
        cases hv
        obtain ⟨cb, co, hq', _, ecut⟩ := hcc i (.int .i64 (cs[i])) (by simp [hik])
        subst hq'
        have hix := HI.out cs[i] (List.getElem_mem hik)
        obtain ⟨x, hx⟩ : ∃ x, x = cs[i] := ⟨_, rfl⟩
        rw [← hx] at ecut hix
        clear hx hcc
        by_cases hx0 : 0 < x
        · obtain ⟨nn, hnn⟩ := Int.eq_ofNat_of_zero_le (show 0 ≤ x by omega)
          subst hnn
          by_cases hxr : (nn : Int) < (bs.length : Int) - a
          · have hn1 : 1 ≤ nn := by omega
            have hn2 : a + nn ≤ bs.length := by omega
            clear hix hx0
            go_wp2_with fail
            refine (feed_calls (K + 10) (by omega) HGG.out.rdr (Nat.le_refl _) (Nat.le_refl _) (Rd.sub HR2.out (a := a) (m := nn) hn2 (cap - a) (by omega) (by unfold maxLen; omega)) (by unfold Rc; omega) (by omega) (by have := HGG.out.told; omega) (by omega)).mono ?_
            rintro e w3 ⟨rfl, hF⟩
            obtain ⟨L3, N, hG3⟩ := HGG.out.feed hn2 hF
            obtain ⟨hd1, hd2, hd3, hd4⟩ := hG3.bounds
            have hd5 := hG3.told
            clear hF HGG HR2
            generalize Q ++ N = Q2 at *
            go_wp2_with fail
            cases Q2 with
            | nil =>
              refine (next_none hG3.rdr (by omega)).mono ?_; rintro e w4 ⟨rfl, b4⟩
              obtain ⟨sS, hsS⟩ : ∃ s, s = standS (RR bs (a + nn)).w (RR bs (a + nn)).e false := ⟨_, rfl⟩
              rw [← hsS]
              have z9 : (sS == 2) = false := by rw [hsS]; exact standS_ne _ _ _
              obtain ⟨L4, hG4⟩ := hG3.below b4
              obtain ⟨L5, hG5⟩ := hG4.below (below_alloc w4 (.cells #[.slice none 0 0, .slice none 0 0] 32))
              have HG5 := Lib.hid hG5
              clear hsS hG3 hG4 hG5 b4
              go_wp2_with fail
              go_roundw
              case rel => exact ⟨a + nn, i + 1, T, [], told, held + nn, L5, by omega, by omega, by first | rfl | go_num, by first | rfl | go_num, HG5.out⟩
              case measure => simp [intOf]; omega
            | cons m Q3 =>
              have hsz := hG3.size
              rw [List.length_cons] at hd2
              refine (next_some hG3.rdr (by omega) (hG3.qs m (by simp)).1 (by omega) (by omega)).mono ?_; rintro e w4 ⟨rfl, L4, told2, st4, hr4, ht4⟩
              obtain ⟨hm, ho, hK⟩ := hG3.next st4 hr4 ht4
              obtain ⟨p1, k1, hvm, _⟩ := ownsRow_shape hm.1.1
              obtain ⟨p2, k2, hvb, _⟩ := ownsRow_shape hm.2.1
              rw [hvm, hvb]
              have HVM := Lib.hid hvm
              have HVB := Lib.hid hvb
              have HK := Lib.hid hK
              clear hvm hvb hK hG3 st4 hr4 hm hsz
              go_wp2_with (at_builtin; refine wpList_append rfl (.tmp 86) (.tmp 88) 22 22 rfl 32 Try.underlying22 infoMsg rfl (by decide) _ T.length _ rfl ((ho.1.alloc _).alloc _) (.slice (some ⟨w4.heap.size + 1, 0, none⟩) 1 1) 1 [.slice p1 m.ms.length k1, .slice p2 m.bd.length k2] rfl (src2 w4 p1 p2 m.ms.length k1 m.bd.length k2) (by unfold maxLen; omega) (by omega) ?_)
              intro v6 w6 hown6 hg6 hblk6 _
              obtain ⟨L6, hG6⟩ := HK.out _ _ _ ((below_alloc w4 _).trans ((below_alloc _ _).mono (by simp))) (by rw [HVM.out, HVB.out]; exact hown6) hg6 (by simpa using hblk6)
              have HG6 := Lib.hid hG6
              clear hG6 hown6 hg6 hblk6 HK ho
              go_wp2_with fail
              go_roundw
              case rel => exact ⟨a + nn, i + 1, T ++ [m], Q3, told2, held + nn - m.size, L6, by omega, by omega, by first | rfl | go_num, by first | rfl | go_num, HG6.out⟩
              case measure => simp [intOf]; omega
          · go_wp2_with fail
            obtain ⟨nn, hnn⟩ : ∃ nn, nn = bs.length - a := ⟨_, rfl⟩
            rw [show ((bs.length : Int) - (a : Int)) = (nn : Int) from by omega, show bs.length - a = nn from hnn.symm]
            have hn1 : 1 ≤ nn := by omega
            have hn2 : a + nn ≤ bs.length := by omega
            clear hnn
            refine (feed_calls (K + 10) (by omega) HGG.out.rdr (Nat.le_refl _) (Nat.le_refl _) (Rd.sub HR2.out (a := a) (m := nn) hn2 (cap - a) (by omega) (by unfold maxLen; omega)) (by unfold Rc; omega) (by omega) (by have := HGG.out.told; omega) (by omega)).mono ?_
            rintro e w3 ⟨rfl, hF⟩
            obtain ⟨L3, N, hG3⟩ := HGG.out.feed hn2 hF
            obtain ⟨hd1, hd2, hd3, hd4⟩ := hG3.bounds
            have hd5 := hG3.told
            clear hF HGG HR2
            generalize Q ++ N = Q2 at *
            go_wp2_with fail
            cases Q2 with
            | nil =>
              refine (next_none hG3.rdr (by omega)).mono ?_; rintro e w4 ⟨rfl, b4⟩
              obtain ⟨sS, hsS⟩ : ∃ s, s = standS (RR bs (a + nn)).w (RR bs (a + nn)).e false := ⟨_, rfl⟩
              rw [← hsS]
              have z9 : (sS == 2) = false := by rw [hsS]; exact standS_ne _ _ _
              obtain ⟨L4, hG4⟩ := hG3.below b4
              obtain ⟨L5, hG5⟩ := hG4.below (below_alloc w4 (.cells #[.slice none 0 0, .slice none 0 0] 32))
              have HG5 := Lib.hid hG5
              clear hsS hG3 hG4 hG5 b4
              go_wp2_with fail
              go_roundw
              case rel => exact ⟨a + nn, i + 1, T, [], told, held + nn, L5, by omega, by omega, by first | rfl | go_num, by first | rfl | go_num, HG5.out⟩
              case measure => simp [intOf]; omega
            | cons m Q3 =>
              have hsz := hG3.size
              rw [List.length_cons] at hd2
              refine (next_some hG3.rdr (by omega) (hG3.qs m (by simp)).1 (by omega) (by omega)).mono ?_; rintro e w4 ⟨rfl, L4, told2, st4, hr4, ht4⟩
              obtain ⟨hm, ho, hK⟩ := hG3.next st4 hr4 ht4
              obtain ⟨p1, k1, hvm, _⟩ := ownsRow_shape hm.1.1
              obtain ⟨p2, k2, hvb, _⟩ := ownsRow_shape hm.2.1
              rw [hvm, hvb]
              have HVM := Lib.hid hvm
              have HVB := Lib.hid hvb
              have HK := Lib.hid hK
              clear hvm hvb hK hG3 st4 hr4 hm hsz
              go_wp2_with (at_builtin; refine wpList_append rfl (.tmp 86) (.tmp 88) 22 22 rfl 32 Try.underlying22 infoMsg rfl (by decide) _ T.length _ rfl ((ho.1.alloc _).alloc _) (.slice (some ⟨w4.heap.size + 1, 0, none⟩) 1 1) 1 [.slice p1 m.ms.length k1, .slice p2 m.bd.length k2] rfl (src2 w4 p1 p2 m.ms.length k1 m.bd.length k2) (by unfold maxLen; omega) (by omega) ?_)
              intro v6 w6 hown6 hg6 hblk6 _
              obtain ⟨L6, hG6⟩ := HK.out _ _ _ ((below_alloc w4 _).trans ((below_alloc _ _).mono (by simp))) (by rw [HVM.out, HVB.out]; exact hown6) hg6 (by simpa using hblk6)
              have HG6 := Lib.hid hG6
              clear hG6 hown6 hg6 hblk6 HK ho
              go_wp2_with fail
              go_roundw
              case rel => exact ⟨a + nn, i + 1, T ++ [m], Q3, told2, held + nn - m.size, L6, by omega, by omega, by first | rfl | go_num, by first | rfl | go_num, HG6.out⟩
              case measure => simp [intOf]; omega
        · go_wp2_with fail
          obtain ⟨nn, hnn⟩ : ∃ nn, nn = bs.length - a := ⟨_, rfl⟩
          rw [show ((bs.length : Int) - (a : Int)) = (nn : Int) from by omega, show bs.length - a = nn from hnn.symm]
          have hn1 : 1 ≤ nn := by omega
          have hn2 : a + nn ≤ bs.length := by omega
          clear hnn
          refine (feed_calls (K + 10) (by omega) HGG.out.rdr (Nat.le_refl _) (Nat.le_refl _) (Rd.sub HR2.out (a := a) (m := nn) hn2 (cap - a) (by omega) (by unfold maxLen; omega)) (by unfold Rc; omega) (by omega) (by have := HGG.out.told; omega) (by omega)).mono ?_
          rintro e w3 ⟨rfl, hF⟩
          obtain ⟨L3, N, hG3⟩ := HGG.out.feed hn2 hF
          obtain ⟨hd1, hd2, hd3, hd4⟩ := hG3.bounds
          have hd5 := hG3.told
          clear hF HGG HR2
          generalize Q ++ N = Q2 at *
          go_wp2_with fail
          cases Q2 with
          | nil =>
            refine (next_none hG3.rdr (by omega)).mono ?_; rintro e w4 ⟨rfl, b4⟩
            obtain ⟨sS, hsS⟩ : ∃ s, s = standS (RR bs (a + nn)).w (RR bs (a + nn)).e false := ⟨_, rfl⟩
            rw [← hsS]
            have z9 : (sS == 2) = false := by rw [hsS]; exact standS_ne _ _ _
            obtain ⟨L4, hG4⟩ := hG3.below b4
            obtain ⟨L5, hG5⟩ := hG4.below (below_alloc w4 (.cells #[.slice none 0 0, .slice none 0 0] 32))
            have HG5 := Lib.hid hG5
            clear hsS hG3 hG4 hG5 b4
            go_wp2_with fail
            go_roundw
            case rel => exact ⟨a + nn, i + 1, T, [], told, held + nn, L5, by omega, by omega, by first | rfl | go_num, by first | rfl | go_num, HG5.out⟩
            case measure => simp [intOf]; omega
          | cons m Q3 =>
            have hsz := hG3.size
            rw [List.length_cons] at hd2
            refine (next_some hG3.rdr (by omega) (hG3.qs m (by simp)).1 (by omega) (by omega)).mono ?_; rintro e w4 ⟨rfl, L4, told2, st4, hr4, ht4⟩
            obtain ⟨hm, ho, hK⟩ := hG3.next st4 hr4 ht4
            obtain ⟨p1, k1, hvm, _⟩ := ownsRow_shape hm.1.1
            obtain ⟨p2, k2, hvb, _⟩ := ownsRow_shape hm.2.1
            rw [hvm, hvb]
            have HVM := Lib.hid hvm
            have HVB := Lib.hid hvb
            have HK := Lib.hid hK
            clear hvm hvb hK hG3 st4 hr4 hm hsz
            go_wp2_with (at_builtin; refine wpList_append rfl (.tmp 86) (.tmp 88) 22 22 rfl 32 Try.underlying22 infoMsg rfl (by decide) _ T.length _ rfl ((ho.1.alloc _).alloc _) (.slice (some ⟨w4.heap.size + 1, 0, none⟩) 1 1) 1 [.slice p1 m.ms.length k1, .slice p2 m.bd.length k2] rfl (src2 w4 p1 p2 m.ms.length k1 m.bd.length k2) (by unfold maxLen; omega) (by omega) ?_)
            intro v6 w6 hown6 hg6 hblk6 _
            obtain ⟨L6, hG6⟩ := HK.out _ _ _ ((below_alloc w4 _).trans ((below_alloc _ _).mono (by simp))) (by rw [HVM.out, HVB.out]; exact hown6) hg6 (by simpa using hblk6)
            have HG6 := Lib.hid hG6
            clear hG6 hown6 hg6 hblk6 HK ho
            go_wp2_with fail
            go_roundw
            case rel => exact ⟨a + nn, i + 1, T ++ [m], Q3, told2, held + nn - m.size, L6, by omega, by omega, by first | rfl | go_num, by first | rfl | go_num, HG6.out⟩
            case measure => simp [intOf]; omega
      · go_wp2_with fail
        obtain ⟨nn, hnn⟩ : ∃ nn, nn = bs.length - a := ⟨_, rfl⟩
        rw [show ((bs.length : Int) - (a : Int)) = (nn : Int) from by omega, show bs.length - a = nn from hnn.symm]
        have hn1 : 1 ≤ nn := by omega
        have hn2 : a + nn ≤ bs.length := by omega
        clear hnn
        refine (feed_calls (K + 10) (by omega) HGG.out.rdr (Nat.le_refl _) (Nat.le_refl _) (Rd.sub HR2.out (a := a) (m := nn) hn2 (cap - a) (by omega) (by unfold maxLen; omega)) (by unfold Rc; omega) (by omega) (by have := HGG.out.told; omega) (by omega)).mono ?_
        rintro e w3 ⟨rfl, hF⟩
        obtain ⟨L3, N, hG3⟩ := HGG.out.feed hn2 hF
        obtain ⟨hd1, hd2, hd3, hd4⟩ := hG3.bounds
        have hd5 := hG3.told
        clear hF HGG HR2
        generalize Q ++ N = Q2 at *
        go_wp2_with fail
        cases Q2 with
        | nil =>
          refine (next_none hG3.rdr (by omega)).mono ?_; rintro e w4 ⟨rfl, b4⟩
          obtain ⟨sS, hsS⟩ : ∃ s, s = standS (RR bs (a + nn)).w (RR bs (a + nn)).e false := ⟨_, rfl⟩
          rw [← hsS]
          have z9 : (sS == 2) = false := by rw [hsS]; exact standS_ne _ _ _
          obtain ⟨L4, hG4⟩ := hG3.below b4
          obtain ⟨L5, hG5⟩ := hG4.below (below_alloc w4 (.cells #[.slice none 0 0, .slice none 0 0] 32))
          have HG5 := Lib.hid hG5
          clear hsS hG3 hG4 hG5 b4
          go_wp2_with fail
          go_roundw
          case rel => exact ⟨a + nn, i + 1, T, [], told, held + nn, L5, by omega, by omega, by first | rfl | go_num, by first | rfl | go_num, HG5.out⟩
          case measure => simp [intOf]; omega
        | cons m Q3 =>
          have hsz := hG3.size
          rw [List.length_cons] at hd2
          refine (next_some hG3.rdr (by omega) (hG3.qs m (by simp)).1 (by omega) (by omega)).mono ?_; rintro e w4 ⟨rfl, L4, told2, st4, hr4, ht4⟩
          obtain ⟨hm, ho, hK⟩ := hG3.next st4 hr4 ht4
          obtain ⟨p1, k1, hvm, _⟩ := ownsRow_shape hm.1.1
          obtain ⟨p2, k2, hvb, _⟩ := ownsRow_shape hm.2.1
          rw [hvm, hvb]
          have HVM := Lib.hid hvm
          have HVB := Lib.hid hvb
          have HK := Lib.hid hK
          clear hvm hvb hK hG3 st4 hr4 hm hsz
          go_wp2_with (at_builtin; refine wpList_append rfl (.tmp 86) (.tmp 88) 22 22 rfl 32 Try.underlying22 infoMsg rfl (by decide) _ T.length _ rfl ((ho.1.alloc _).alloc _) (.slice (some ⟨w4.heap.size + 1, 0, none⟩) 1 1) 1 [.slice p1 m.ms.length k1, .slice p2 m.bd.length k2] rfl (src2 w4 p1 p2 m.ms.length k1 m.bd.length k2) (by unfold maxLen; omega) (by omega) ?_)
          intro v6 w6 hown6 hg6 hblk6 _
          obtain ⟨L6, hG6⟩ := HK.out _ _ _ ((below_alloc w4 _).trans ((below_alloc _ _).mono (by simp))) (by rw [HVM.out, HVB.out]; exact hown6) hg6 (by simpa using hblk6)
          have HG6 := Lib.hid hG6
          clear hG6 hown6 hg6 hblk6 HK ho
          go_wp2_with fail
          go_roundw
          case rel => exact ⟨a + nn, i + 1, T ++ [m], Q3, told2, held + nn - m.size, L6, by omega, by omega, by first | rfl | go_num, by first | rfl | go_num, HG6.out⟩
          case measure => simp [intOf]; omega
    · have haE : a = bs.length := by omega
      subst haE
      cases sh with
      | true =>
        have HGG := Lib.hid hG
        clear hG
        go_wp2_with fail
        refine (shut_calls HGG.out.rdr).mono ?_; rintro e w3 ⟨rfl, st3, hr3⟩
        have hG3 := HGG.out.shut st3 hr3
        clear HGG st3 hr3
        go_wp2_with fail
        obtain ⟨hd1, hd2, hd3, hd4⟩ := hG3.bounds
        have HG3 := Lib.hid hG3
        clear hG3
        go_loopw [11, 18] (fun vl i_ wr => ∃ (i : Nat) (T Q : List Msg) (told : Nat) (held : Int) (L1 : Nat → Nat), 24 * (i + Q.length) ≤ bs.length ∧ i_ = .int .i64 i ∧ Going L w K rb bs true bs.length T Q told held L1 wr vl) (fun _ i_ _ => bs.length + 1 - (intOf i_).toNat)
        case atStart => exact ⟨0, T, Q, told, held, _, by omega, rfl, HG3.out⟩
        case round =>
          clear HG3
          obtain ⟨j, T2, Q2, told2, held2, L2, hjq, rfl, hG⟩ := hrel
          obtain ⟨hb1, hb2, hb3, hb4⟩ := hG.bounds
          have hb5 := hG.told
          obtain ⟨pl2, kl2, hvl2, _⟩ := ownsRow_shape hG.list.1
          subst hvl2
          have zj : (j : Int) ≤ (bs.length : Int) / 24 := by omega
          have HGG := Lib.hid hG
          clear hG
          go_wp2_with fail
          cases Q2 with
          | nil =>
            refine (next_none HGG.out.rdr (by omega)).mono ?_; rintro e w4 ⟨rfl, b4⟩
            obtain ⟨sS, hsS⟩ : ∃ s, s = standS (RR bs bs.length).w (RR bs bs.length).e true := ⟨_, rfl⟩
            obtain ⟨sE, hsE⟩ : ∃ s, s = standE (RR bs bs.length).w (RR bs bs.length).e true := ⟨_, rfl⟩
            rw [← hsS, ← hsE]
            have z9 : (sS != 2) = true := by rw [hsS]; exact standS_ne2 _ _ _
            obtain ⟨L4, hG4⟩ := HGG.out.below b4
            obtain ⟨L5, hG5⟩ := hG4.below (below_alloc w4 (.cells #[.slice none 0 0, .slice none 0 0] 32))
            have HG5 := Lib.hid hG5
            have HS := Lib.hid hsS
            have HE := Lib.hid hsE
            clear hsS hsE hG4 hG5 b4 HGG
            go_wp2_with fail
            refine bodyPost_ret (v := .tuple #[.slice pl2 T2.length kl2, .int .i64 sS, .int .i64 sE]) (by simp [results, Try.results8, go_sem]) rfl ⟨_, by rw [HS.out, HE.out], L5, HG5.out.step, ?_⟩
            have hq := HG5.out.q
            rw [show pairs [] = [] from rfl, List.append_nil] at hq
            rw [← hq]
            exact HG5.out.msgs
          | cons m Q3 =>
            have hsz := HGG.out.size
            rw [List.length_cons] at hb2 hjq
            refine (next_some HGG.out.rdr (by omega) (HGG.out.qs m (by simp)).1 (by omega) (by omega)).mono ?_; rintro e w4 ⟨rfl, L4, told3, st4, hr4, ht4⟩
            obtain ⟨hm, ho, hK⟩ := HGG.out.next st4 hr4 ht4
            obtain ⟨p1, k1, hvm, _⟩ := ownsRow_shape hm.1.1
            obtain ⟨p2, k2, hvb, _⟩ := ownsRow_shape hm.2.1
            rw [hvm, hvb]
            have HVM := Lib.hid hvm
            have HVB := Lib.hid hvb
            have HK := Lib.hid hK
            clear hvm hvb hK HGG st4 hr4 hm hsz
            go_wp2_with (at_builtin; refine wpList_append rfl (.tmp 111) (.tmp 113) 22 22 rfl 32 Try.underlying22 infoMsg rfl (by decide) _ T2.length _ rfl ((ho.1.alloc _).alloc _) (.slice (some ⟨w4.heap.size + 1, 0, none⟩) 1 1) 1 [.slice p1 m.ms.length k1, .slice p2 m.bd.length k2] rfl (src2 w4 p1 p2 m.ms.length k1 m.bd.length k2) (by unfold maxLen; omega) (by omega) ?_)
            intro v6 w6 hown6 hg6 hblk6 _
            obtain ⟨L6, hG6⟩ := HK.out _ _ _ ((below_alloc w4 _).trans ((below_alloc _ _).mono (by simp))) (by rw [HVM.out, HVB.out]; exact hown6) hg6 (by simpa using hblk6)
            have HG6 := Lib.hid hG6
            clear hG6 hown6 hg6 hblk6 HK ho
            go_wp2_with fail
            go_roundw
            case rel => exact ⟨j + 1, T2 ++ [m], Q3, told3, held2 - m.size, L6, by omega, by first | rfl | go_num, HG6.out⟩
            case measure => simp [intOf]; omega
      | false =>
        have hG3 := hG
        clear hG
        go_wp2_with fail
        obtain ⟨hd1, hd2, hd3, hd4⟩ := hG3.bounds
        have HG3 := Lib.hid hG3
        clear hG3
        go_loopw [11, 18] (fun vl i_ wr => ∃ (i : Nat) (T Q : List Msg) (told : Nat) (held : Int) (L1 : Nat → Nat), 24 * (i + Q.length) ≤ bs.length ∧ i_ = .int .i64 i ∧ Going L w K rb bs false bs.length T Q told held L1 wr vl) (fun _ i_ _ => bs.length + 1 - (intOf i_).toNat)
        case atStart => exact ⟨0, T, Q, told, held, _, by omega, rfl, HG3.out⟩
        case round =>
          clear HG3
          obtain ⟨j, T2, Q2, told2, held2, L2, hjq, rfl, hG⟩ := hrel
          obtain ⟨hb1, hb2, hb3, hb4⟩ := hG.bounds
          have hb5 := hG.told
          obtain ⟨pl2, kl2, hvl2, _⟩ := ownsRow_shape hG.list.1
          subst hvl2
          have zj : (j : Int) ≤ (bs.length : Int) / 24 := by omega
          have HGG := Lib.hid hG
          clear hG
          go_wp2_with fail
          cases Q2 with
          | nil =>
            refine (next_none HGG.out.rdr (by omega)).mono ?_; rintro e w4 ⟨rfl, b4⟩
            obtain ⟨sS, hsS⟩ : ∃ s, s = standS (RR bs bs.length).w (RR bs bs.length).e false := ⟨_, rfl⟩
            obtain ⟨sE, hsE⟩ : ∃ s, s = standE (RR bs bs.length).w (RR bs bs.length).e false := ⟨_, rfl⟩
            rw [← hsS, ← hsE]
            have z9 : (sS != 2) = true := by rw [hsS]; exact standS_ne2 _ _ _
            obtain ⟨L4, hG4⟩ := HGG.out.below b4
            obtain ⟨L5, hG5⟩ := hG4.below (below_alloc w4 (.cells #[.slice none 0 0, .slice none 0 0] 32))
            have HG5 := Lib.hid hG5
            have HS := Lib.hid hsS
            have HE := Lib.hid hsE
            clear hsS hsE hG4 hG5 b4 HGG
            go_wp2_with fail
            refine bodyPost_ret (v := .tuple #[.slice pl2 T2.length kl2, .int .i64 sS, .int .i64 sE]) (by simp [results, Try.results8, go_sem]) rfl ⟨_, by rw [HS.out, HE.out], L5, HG5.out.step, ?_⟩
            have hq := HG5.out.q
            rw [show pairs [] = [] from rfl, List.append_nil] at hq
            rw [← hq]
            exact HG5.out.msgs
          | cons m Q3 =>
            have hsz := HGG.out.size
            rw [List.length_cons] at hb2 hjq
            refine (next_some HGG.out.rdr (by omega) (HGG.out.qs m (by simp)).1 (by omega) (by omega)).mono ?_; rintro e w4 ⟨rfl, L4, told3, st4, hr4, ht4⟩
            obtain ⟨hm, ho, hK⟩ := HGG.out.next st4 hr4 ht4
            obtain ⟨p1, k1, hvm, _⟩ := ownsRow_shape hm.1.1
            obtain ⟨p2, k2, hvb, _⟩ := ownsRow_shape hm.2.1
            rw [hvm, hvb]
            have HVM := Lib.hid hvm
            have HVB := Lib.hid hvb
            have HK := Lib.hid hK
            clear hvm hvb hK HGG st4 hr4 hm hsz
            go_wp2_with (at_builtin; refine wpList_append rfl (.tmp 111) (.tmp 113) 22 22 rfl 32 Try.underlying22 infoMsg rfl (by decide) _ T2.length _ rfl ((ho.1.alloc _).alloc _) (.slice (some ⟨w4.heap.size + 1, 0, none⟩) 1 1) 1 [.slice p1 m.ms.length k1, .slice p2 m.bd.length k2] rfl (src2 w4 p1 p2 m.ms.length k1 m.bd.length k2) (by unfold maxLen; omega) (by omega) ?_)
            intro v6 w6 hown6 hg6 hblk6 _
            obtain ⟨L6, hG6⟩ := HK.out _ _ _ ((below_alloc w4 _).trans ((below_alloc _ _).mono (by simp))) (by rw [HVM.out, HVB.out]; exact hown6) hg6 (by simpa using hblk6)
            have HG6 := Lib.hid hG6
            clear hG6 hown6 hg6 hblk6 HK ho
            go_wp2_with fail
            go_roundw
            case rel => exact ⟨j + 1, T2 ++ [m], Q3, told3, held2 - m.size, L6, by omega, by first | rfl | go_num, HG6.out⟩
            case measure => simp [intOf]; omega
end Go.Proofs.Ytcebdodogbpglab.Rdr
