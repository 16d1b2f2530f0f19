import Derived.Test.YtkhpgcbjmopkfaaGreatDoorHk
set_option linter.unusedVariables false
set_option maxRecDepth 100000
/-!
  WHAT IS WRONG WITH A KIND AND KEYS: the reference's answer. No conditions.
-/
namespace Go.Fld
open Go Go.RowKit Go.Proofs Go.ChangeShapes Go.WideShapes Go.ChangeAt Go.Shelf

/-- What a round of the reference's loop over keys reads. -/
def SidesAt (W : World) (x y b1 o1 n1 fc1 ba oa m1 kc1 b2 o2 n2 fc2 bk ok m2 kc2 k a b : Nat) (f : Fd) (p1 : Option Addr) (c1 : Nat) (g : Fd) (p2 : Option Addr) (c2 : Nat) : Prop :=
  (W.cell? ⟨x, 0, none⟩ = some (.slice (some ⟨b1, o1, none⟩) n1 fc1) ∧ W.cell? ⟨x, 4, none⟩ = some (.slice (some ⟨ba, oa, none⟩) m1 kc1) ∧ W.cell? ⟨y, 0, none⟩ = some (.slice (some ⟨b2, o2, none⟩) n2 fc2) ∧ W.cell? ⟨y, 4, none⟩ = some (.slice (some ⟨bk, ok, none⟩) m2 kc2) ∧ W.cell? ⟨ba, oa + k, none⟩ = some (.int .i64 a) ∧ W.cell? ⟨bk, ok + k, none⟩ = some (.int .i64 b)) ∧ (W.cell? ⟨b1, o1 + a * 7, none⟩ = some (.string f.nm) ∧ W.cell? ⟨b1, o1 + a * 7 + 1, none⟩ = some (.bool f.nl) ∧ W.cell? ⟨b1, o1 + a * 7 + 2, none⟩ = some (.int .i64 f.k) ∧ W.cell? ⟨b1, o1 + a * 7 + 3, none⟩ = some (.int .i64 f.wd) ∧ W.cell? ⟨b1, o1 + a * 7 + 4, none⟩ = some (.int .i64 f.id) ∧ W.cell? ⟨b1, o1 + a * 7 + 5, none⟩ = some (.int .i64 f.ix) ∧ W.cell? ⟨b1, o1 + a * 7 + 6, none⟩ = some (.slice p1 f.kids.length c1)) ∧ (W.cell? ⟨b2, o2 + b * 7, none⟩ = some (.string g.nm) ∧ W.cell? ⟨b2, o2 + b * 7 + 1, none⟩ = some (.bool g.nl) ∧ W.cell? ⟨b2, o2 + b * 7 + 2, none⟩ = some (.int .i64 g.k) ∧ W.cell? ⟨b2, o2 + b * 7 + 3, none⟩ = some (.int .i64 g.wd) ∧ W.cell? ⟨b2, o2 + b * 7 + 4, none⟩ = some (.int .i64 g.id) ∧ W.cell? ⟨b2, o2 + b * 7 + 5, none⟩ = some (.int .i64 g.ix) ∧ W.cell? ⟨b2, o2 + b * 7 + 6, none⟩ = some (.slice p2 g.kids.length c2))
theorem SidesAt.below {W U : World} {x y b1 o1 n1 fc1 ba oa m1 kc1 b2 o2 n2 fc2 bk ok m2 kc2 k a b : Nat} {f : Fd} {p1 : Option Addr} {c1 : Nat} {g : Fd} {p2 : Option Addr} {c2 : Nat} (h : SidesAt W x y b1 o1 n1 fc1 ba oa m1 kc1 b2 o2 n2 fc2 bk ok m2 kc2 k a b f p1 c1 g p2 c2) (hb : Below W.heap.size W U) : SidesAt U x y b1 o1 n1 fc1 ba oa m1 kc1 b2 o2 n2 fc2 bk ok m2 kc2 k a b f p1 c1 g p2 c2 := by
  obtain ⟨⟨r0, r1, r2, r3, r4, r5⟩, ⟨s0, s1, s2, s3, s4, s5, s6⟩, ⟨t0, t1, t2, t3, t4, t5, t6⟩⟩ := h
  exact ⟨⟨cell_below hb r0, cell_below hb r1, cell_below hb r2, cell_below hb r3, cell_below hb r4, cell_below hb r5⟩, ⟨cell_below hb s0, cell_below hb s1, cell_below hb s2, cell_below hb s3, cell_below hb s4, cell_below hb s5, cell_below hb s6⟩, ⟨cell_below hb t0, cell_below hb t1, cell_below hb t2, cell_below hb t3, cell_below hb t4, cell_below hb t5, cell_below hb t6⟩⟩

set_option maxHeartbeats 16000000 in
theorem rasked_calls {w : World} {L1 L2 : List Fd} {K1 K2 : List Int} {f1 k1 f2 k2 nv1 rv1 cv1 nv2 rv2 cv2 : Value} (kind : Int)
    (hL1 : FdsAt w L1 f1) (hK1 : IntsAt w K1 k1) (hL2 : FdsAt w L2 f2) (hK2 : IntsAt w K2 k2) (o1 : okL L1) (o2 : okL L2)
    (fl1 : ∀ f ∈ L1, (bareF f).id = 0 ∧ (bareF f).ix = 0) (fl2 : ∀ f ∈ L2, (bareF f).id = 0 ∧ (bareF f).ix = 0) :
    Calls Tryz.prog 25 #[.int .i64 kind, .agg #[f1, nv1, rv1, cv1, k1], .agg #[f2, nv2, rv2, cv2, k2]] w (IntPost w (askedE kind L1 K1 L2 K2)) := by
  have HK1 := Lib.hid hK1
  have HK2 := Lib.hid hK2
  obtain ⟨fp1, fc1, rfl, hl1, hm1, hC1⟩ := hL1
  obtain ⟨fp2, fc2, rfl, hl2, hm2, hC2⟩ := hL2
  obtain ⟨kp1, kc1, rfl, kl1, km1, hD1⟩ := hK1
  obtain ⟨kp2, kc2, rfl, kl2, km2, hD2⟩ := hK2
  unfold maxLen at hm1 hm2 km1 km2
  have HC1 := Lib.hid hC1
  have HC2 := Lib.hid hC2
  have HD1 := Lib.hid hD1
  have HD2 := Lib.hid hD2
  have HO1 := Lib.hid o1
  have HO2 := Lib.hid o2
  have HF1 := Lib.hid fl1
  have HF2 := Lib.hid fl2
  clear hC1 hC2 hD1 hD2 o1 o2 fl1 fl2
  obtain ⟨W, hW⟩ : ∃ W, W = (w.alloc (.cells #[.slice fp1 L1.length fc1, nv1, rv1, cv1, .slice kp1 K1.length kc1] 32)).alloc (.cells #[.slice fp2 L2.length fc2, nv2, rv2, cv2, .slice kp2 K2.length kc2] 32) := ⟨_, rfl⟩
  have a1 : BoxN W w.heap.size 32 [.slice fp1 L1.length fc1, nv1, rv1, cv1, .slice kp1 K1.length kc1] := by
    rw [hW]
    exact (BoxN.new w 32 [.slice fp1 L1.length fc1, nv1, rv1, cv1, .slice kp1 K1.length kc1]).alloc _
  have a2 : BoxN W (w.heap.size + 1) 32 [.slice fp2 L2.length fc2, nv2, rv2, cv2, .slice kp2 K2.length kc2] := by
    rw [hW]
    have := BoxN.new (w.alloc (.cells #[.slice fp1 L1.length fc1, nv1, rv1, cv1, .slice kp1 K1.length kc1] 32)) 32 [.slice fp2 L2.length fc2, nv2, rv2, cv2, .slice kp2 K2.length kc2]
    rwa [World.size_alloc] at this
  have hBW : Below w.heap.size w W := by rw [hW]; exact ((Below.refl _ w).alloc (Nat.le_refl _) _).alloc (by simp) _
  have A1 := Lib.hid a1
  have A2 := Lib.hid a2
  have HBW := Lib.hid hBW
  have HW := Lib.hid hW
  clear a1 a2 hBW hW
  have HBL := Lib.hid (show Below w.heap.size w ((w.alloc (.cells #[.slice fp1 L1.length fc1, nv1, rv1, cv1, .slice kp1 K1.length kc1] 32)).alloc (.cells #[.slice fp2 L2.length fc2, nv2, rv2, cv2, .slice kp2 K2.length kc2] 32)) from ((Below.refl _ w).alloc (Nat.le_refl _) _).alloc (by simp) _)
  by_cases hk1 : kind < 1
  · have HE := Lib.hid (show askedE kind L1 K1 L2 K2 = 1 by unfold askedE; rw [if_pos (.inl hk1)])
    clear HW
    go_enter Tryz.func25, Tryz.ntmps25
    go_wp2_with fail
    go_ret
    exact int_post HE.out.symm HBL.out
  by_cases hk5 : 5 < kind
  · have HE := Lib.hid (show askedE kind L1 K1 L2 K2 = 1 by unfold askedE; rw [if_pos (.inr hk5)])
    clear HW
    go_enter Tryz.func25, Tryz.ntmps25
    go_wp2_with fail
    go_ret
    exact int_post HE.out.symm HBL.out
  have HKD := Lib.hid (show askedE kind L1 K1 L2 K2 = if (K1.length ≠ K2.length ∨ K1.length = 0 ∨ 8 < K1.length) ∨ (keysB L1.length K1 = false ∨ keysB L2.length K2 = false) then 190 else if alikeB L1 K1 L2 K2 = true then 0 else 6 by unfold askedE; rw [if_neg (by omega)])
  by_cases hln : K1.length ≠ K2.length
  · have HE := Lib.hid (show askedE kind L1 K1 L2 K2 = 190 by rw [HKD.out, if_pos (.inl (.inl hln))])
    have n1 : ((K1.length : Int) != (K2.length : Int)) = true := by simp; omega
    have n2 : ((K1.length : Int) == (K2.length : Int)) = false := by simp; omega
    clear HW hln
    go_enter Tryz.func25, Tryz.ntmps25
    go_wp2_with fail
    go_ret
    exact int_post HE.out.symm HBL.out
  have n1 : ((K1.length : Int) != (K2.length : Int)) = false := by simp; omega
  have n2 : ((K1.length : Int) == (K2.length : Int)) = true := by simp; omega
  by_cases hl0 : K1.length = 0
  · have HE := Lib.hid (show askedE kind L1 K1 L2 K2 = 190 by rw [HKD.out, if_pos (.inl (.inr (.inl hl0)))])
    have n3 : decide ((K1.length : Int) < 1) = true := decide_eq_true (by omega)
    clear HW hln hl0
    go_enter Tryz.func25, Tryz.ntmps25
    go_wp2_with fail
    go_ret
    exact int_post HE.out.symm HBL.out
  have n3 : decide ((K1.length : Int) < 1) = false := decide_eq_false (by omega)
  by_cases hl8 : 8 < K1.length
  · have HE := Lib.hid (show askedE kind L1 K1 L2 K2 = 190 by rw [HKD.out, if_pos (.inl (.inr (.inr hl8)))])
    have n5 : decide ((8 : Int) < (K1.length : Int)) = true := decide_eq_true (by omega)
    clear HW hln
    go_enter Tryz.func25, Tryz.ntmps25
    go_wp2_with fail
    go_ret
    exact int_post HE.out.symm HBL.out
  have n5 : decide ((8 : Int) < (K1.length : Int)) = false := decide_eq_false (by omega)
  have HKD2 := Lib.hid (show askedE kind L1 K1 L2 K2 = if (keysB L1.length K1 = false ∨ keysB L2.length K2 = false) then 190 else if alikeB L1 K1 L2 K2 = true then 0 else 6 by
    rw [HKD.out]
    by_cases h : keysB L1.length K1 = false ∨ keysB L2.length K2 = false
    · rw [if_pos (.inr h), if_pos h]
    · rw [if_neg (by rintro (g | g); · omega
                     · exact h g), if_neg h])
  have KY1 := Lib.hid (keysB_iff (n := L1.length) (ks := K1))
  have KY2 := Lib.hid (keysB_iff (n := L2.length) (ks := K2))
  have GOOD := Lib.hid (alikeB_good (L1 := L1) (L2 := L2) (K1 := K1) (K2 := K2) (by omega))
  have HLE := Lib.hid (show K1.length = K2.length by omega)
  clear HKD hln
  go_enter Tryz.func25, Tryz.ntmps25
  go_wp2_with fail
  rw [← HW.out]
  refine (may_calls (w := W) (nv := nv1) (by omega) (HK1.out.below HBW.out)).mono ?_
  rintro e W2 ⟨rfl, hb2⟩
  have HBU := Lib.hid hb2
  have B2 := A2.out.below hb2 A2.out.lt
  have r0 := B2.row 0 _ rfl
  have r1 := B2.row 1 _ rfl
  have r4 := B2.row 4 _ rfl
  have hl2 := B2.lt
  clear hb2 B2 HW HBL
  generalize keysB L1.length K1 = kb1 at *
  cases kb1 with
  | false =>
    have HE := Lib.hid (show askedE kind L1 K1 L2 K2 = 190 by rw [HKD2.out, if_pos (.inl rfl)])
    clear HKD2 KY1 KY2 GOOD
    go_wp2_with fail
    go_ret
    exact int_post HE.out.symm (HBW.out.trans (HBU.out.mono HBW.out.size))
  | true =>
  go_wp2_with fail
  refine (may_calls (w := W2) (nv := nv2) (by omega) (HK2.out.below (HBW.out.trans (HBU.out.mono HBW.out.size)))).mono ?_
  rintro e W3 ⟨rfl, hb3⟩
  have HBV := Lib.hid (HBU.out.trans (hb3.mono HBU.out.size))
  clear hb3 r0 r1 r4 hl2
  generalize keysB L2.length K2 = kb2 at *
  cases kb2 with
  | false =>
    have HE := Lib.hid (show askedE kind L1 K1 L2 K2 = 190 by rw [HKD2.out, if_pos (.inr rfl)])
    clear HKD2 KY1 KY2 GOOD
    go_wp2_with fail
    go_ret
    exact int_post HE.out.symm (HBW.out.trans (HBV.out.mono HBW.out.size))
  | true =>
  have HE := Lib.hid (show askedE kind L1 K1 L2 K2 = if alikeB L1 K1 L2 K2 = true then 0 else 6 by rw [HKD2.out, if_neg (by simp)])
  have KO1 := Lib.hid (KY1.out.1 (by first | rfl | trivial))
  have KO2 := Lib.hid (KY2.out.1 (by first | rfl | trivial))
  clear HKD2 KY1 KY2
  go_wp2_with fail
  clear n1 n2 n3 n5
  go_loopw [8] (fun i wr => ∃ k : Nat, k ≤ K1.length ∧ i = .int .i64 k ∧ Hid (Below W.heap.size W wr) ∧ Hid (∀ (j a b : Nat) (h1 : j < K1.length) (h2 : j < K2.length) (ha : a < L1.length) (hb : b < L2.length), K1[j] = a → K2[j] = b → j < k → eqT (bareF L1[a]) (bareF L2[b]) = true)) (fun i _ => K1.length - (intOf i).toNat)
  case atStart => exact ⟨0, by omega, rfl, HBV, Lib.hid (fun j a b _ _ _ _ _ _ h => absurd h (Nat.not_lt_zero _))⟩
  case round =>
    obtain ⟨k, hk, rfl, HBo, HA⟩ := hrel
    have HB := Lib.hid (HBW.out.trans (HBo.out.mono HBW.out.size))
    by_cases hlt : k < K1.length
    · have hlt2 : k < K2.length := by have := HLE.out; omega
      obtain ⟨hxa, ba, oa, rfl, z0⟩ := HD1.out k hlt
      obtain ⟨hxb, bk, ok, rfl, z1⟩ := HD2.out k hlt2
      obtain ⟨⟨ka0, ka1⟩, _⟩ := KO1.out k hlt
      obtain ⟨⟨kb0, kb1⟩, _⟩ := KO2.out k hlt2
      obtain ⟨a, ea⟩ : ∃ a : Nat, K1[k] = a := ⟨K1[k].toNat, by omega⟩
      obtain ⟨b, eb⟩ : ∃ b : Nat, K2[k] = b := ⟨K2[k].toNat, by omega⟩
      have la : a < L1.length := by omega
      have lb : b < L2.length := by omega
      have Bad := Lib.hid (fun h => alikeB_bad hlt hlt2 ea eb la lb h)
      have Next := Lib.hid (show eqT (bareF L1[a]) (bareF L2[b]) = true → ∀ (j a b : Nat) (h1 : j < K1.length) (h2 : j < K2.length) (ha : a < L1.length) (hb : b < L2.length), K1[j] = a → K2[j] = b → j < k + 1 → eqT (bareF L1[a]) (bareF L2[b]) = true from fun ht j a' b' h1 h2 ha hb e1 e2 hjk => by
        by_cases e : j = k
        · subst e
          obtain rfl : a = a' := by omega
          obtain rfl : b = b' := by omega
          exact ht
        · exact HA.out j a' b' h1 h2 ha hb e1 e2 (by omega))
      rw [ea] at z0 hxa
      rw [eb] at z1 hxb
      clear ka0 ka1 kb0 kb1 ea eb
      obtain ⟨b1, o1, p1, c1, rfl, g1, s0, s1, s2, s3, s4, s5, s6⟩ := HC1.out.seven a la
      obtain ⟨b2, o2, p2, c2, rfl, g2, t0, t1, t2, t3, t4, t5, t6⟩ := HC2.out.seven b lb
      have OK1 := Lib.hid (okL_mem HO1.out _ (List.getElem_mem la))
      have OK2 := Lib.hid (okL_mem HO2.out _ (List.getElem_mem lb))
      have FL1 := Lib.hid (HF1.out _ (List.getElem_mem la))
      have FL2 := Lib.hid (HF2.out _ (List.getElem_mem lb))
      have F1 := Lib.hid (g1.below HB.out)
      have F2 := Lib.hid (g2.below HB.out)
      generalize L1[a] = f at *
      generalize L2[b] = g at *
      have B1 := A1.out.below HBo.out A1.out.lt
      have B2 := A2.out.below HBo.out A2.out.lt
      have hs : SidesAt wr w.heap.size (w.heap.size + 1) b1 o1 L1.length fc1 ba oa K1.length kc1 b2 o2 L2.length fc2 bk ok K2.length kc2 k a b f p1 c1 g p2 c2 :=
        ⟨⟨B1.row 0 _ rfl, B1.row 4 _ rfl, B2.row 0 _ rfl, B2.row 4 _ rfl, cell_below HB.out z0, cell_below HB.out z1⟩, ⟨cell_below HB.out s0, cell_below HB.out s1, cell_below HB.out s2, cell_below HB.out s3, cell_below HB.out s4, cell_below HB.out s5, cell_below HB.out s6⟩, ⟨cell_below HB.out t0, cell_below HB.out t1, cell_below HB.out t2, cell_below HB.out t3, cell_below HB.out t4, cell_below HB.out t5, cell_below HB.out t6⟩⟩
      have HS0 := Lib.hid hs
      have HBr1 := Lib.hid (Below.refl wr.heap.size wr)
      clear s0 s1 s2 s3 s4 s5 s6 t0 t1 t2 t3 t4 t5 t6 g1 g2 hs z0 z1 B1 B2
      go_wp2_with fail
      refine Late.region (fun w' => SidesAt w' w.heap.size (w.heap.size + 1) b1 o1 L1.length fc1 ba oa K1.length kc1 b2 o2 L2.length fc2 bk ok K2.length kc2 k a b f p1 c1 g p2 c2) (fun _ => false) (by kernel_rfl) ?_
      have HSd := Lib.hid (HS0.out.below (below_drew HBr1.out))
      refine Late.take (i := 0) (v := ?_) rfl (by kernel_rfl) (by kernel_rfl) (by kernel_rfl) (by kernel_rfl) (fun _ _ _ h => h) (Or.inl ⟨by rfl, ?_⟩) HSd.out ?_
      rotate_left
      · intro w' hS
        obtain ⟨⟨r0, r1, r2, r3, r4, r5⟩, ⟨s0, s1, s2, s3, s4, s5, s6⟩, ⟨t0, t1, t2, t3, t4, t5, t6⟩⟩ := hS
        go_simp
        rfl
      refine Late.take (i := 1) (v := ?_) rfl (by kernel_rfl) (by kernel_rfl) (by kernel_rfl) (by kernel_rfl) (fun _ _ _ h => h) (Or.inl ⟨by rfl, ?_⟩) HSd.out ?_
      rotate_left
      · intro w' hS
        obtain ⟨⟨r0, r1, r2, r3, r4, r5⟩, ⟨s0, s1, s2, s3, s4, s5, s6⟩, ⟨t0, t1, t2, t3, t4, t5, t6⟩⟩ := hS
        go_simp
        rfl
      refine Late.take (i := 2) (v := ?_) rfl (by kernel_rfl) (by kernel_rfl) (by kernel_rfl) (by kernel_rfl) (fun _ _ _ h => h) (Or.inl ⟨by rfl, ?_⟩) HSd.out ?_
      rotate_left
      · intro w' hS
        obtain ⟨⟨r0, r1, r2, r3, r4, r5⟩, ⟨s0, s1, s2, s3, s4, s5, s6⟩, ⟨t0, t1, t2, t3, t4, t5, t6⟩⟩ := hS
        go_simp
        rfl
      refine Late.take (i := 3) (v := ?_) rfl (by kernel_rfl) (by kernel_rfl) (by kernel_rfl) (by kernel_rfl) (fun _ _ _ h => h) (Or.inl ⟨by rfl, ?_⟩) HSd.out ?_
      rotate_left
      · intro w' hS
        obtain ⟨⟨r0, r1, r2, r3, r4, r5⟩, ⟨s0, s1, s2, s3, s4, s5, s6⟩, ⟨t0, t1, t2, t3, t4, t5, t6⟩⟩ := hS
        go_simp
        rfl
      refine Late.take (i := 4) (v := ?_) rfl (by kernel_rfl) (by kernel_rfl) (by kernel_rfl) (by kernel_rfl) (fun _ _ _ h => h) (Or.inl ⟨by rfl, ?_⟩) HSd.out ?_
      rotate_left
      · intro w' hS
        obtain ⟨⟨r0, r1, r2, r3, r4, r5⟩, ⟨s0, s1, s2, s3, s4, s5, s6⟩, ⟨t0, t1, t2, t3, t4, t5, t6⟩⟩ := hS
        go_simp
        rfl
      refine Late.take (i := 5) (v := ?_) rfl (by kernel_rfl) (by kernel_rfl) (by kernel_rfl) (by kernel_rfl) (fun _ _ _ h => h) (Or.inl ⟨by rfl, ?_⟩) HSd.out ?_
      rotate_left
      · intro w' hS
        obtain ⟨⟨r0, r1, r2, r3, r4, r5⟩, ⟨s0, s1, s2, s3, s4, s5, s6⟩, ⟨t0, t1, t2, t3, t4, t5, t6⟩⟩ := hS
        go_simp
        rfl
      refine Late.take (i := 6) (v := ?_) rfl (by kernel_rfl) (by kernel_rfl) (by kernel_rfl) (by kernel_rfl) (fun _ _ _ h => h) (Or.inl ⟨by rfl, ?_⟩) HSd.out ?_
      rotate_left
      · intro w' hS
        obtain ⟨⟨r0, r1, r2, r3, r4, r5⟩, ⟨s0, s1, s2, s3, s4, s5, s6⟩, ⟨t0, t1, t2, t3, t4, t5, t6⟩⟩ := hS
        go_simp
        rfl
      refine Late.take (i := 7) (v := ?_) rfl (by kernel_rfl) (by kernel_rfl) (by kernel_rfl) (by kernel_rfl) (fun _ _ _ h => h) (Or.inl ⟨by rfl, ?_⟩) HSd.out ?_
      rotate_left
      · intro w' hS
        obtain ⟨⟨r0, r1, r2, r3, r4, r5⟩, ⟨s0, s1, s2, s3, s4, s5, s6⟩, ⟨t0, t1, t2, t3, t4, t5, t6⟩⟩ := hS
        go_simp
        rfl
      refine Late.take (i := 8) (v := ?_) rfl (by kernel_rfl) (by kernel_rfl) (by kernel_rfl) (by kernel_rfl) (fun _ _ _ h => h) (Or.inl ⟨by rfl, ?_⟩) HSd.out ?_
      rotate_left
      · intro w' hS
        obtain ⟨⟨r0, r1, r2, r3, r4, r5⟩, ⟨s0, s1, s2, s3, s4, s5, s6⟩, ⟨t0, t1, t2, t3, t4, t5, t6⟩⟩ := hS
        go_simp
        rfl
      refine Late.take (i := 9) (v := ?_) rfl (by kernel_rfl) (by kernel_rfl) (by kernel_rfl) (by kernel_rfl) (fun _ _ _ h => h) (Or.inl ⟨by rfl, ?_⟩) HSd.out ?_
      rotate_left
      · intro w' hS
        obtain ⟨⟨r0, r1, r2, r3, r4, r5⟩, ⟨s0, s1, s2, s3, s4, s5, s6⟩, ⟨t0, t1, t2, t3, t4, t5, t6⟩⟩ := hS
        go_simp
        rfl
      refine Late.two (i := 10) (k := 11) (by kernel_rfl) rfl rfl (fun K hK => ?_) (fun K hK => ?_)
      · go_simp
        refine (rbare_calls' f OK1.out wr.drew p1 c1 (F1.out.below (below_drew HBr1.out))).mono ?_
        rintro e V ⟨u1, v1, rfl, hg, hb⟩
        have hb : Below wr.heap.size wr V := (below_drew (Below.refl _ wr)).trans hb
        have HSv := Lib.hid (HS0.out.below (HBr1.out.trans (hb.mono HBr1.out.size)))
        refine hK _ _ (fun _ => HSv.out) ?_
        clear hK K HSv
        refine Late.one (i := 11) (by kernel_rfl) rfl (fun K hK => ?_)
        go_simp
        have HUB := Lib.hid (hb.alloc hb.size (.cells #[Value.string ⟨#[]⟩, Value.bool false, Value.int .i64 0, Value.int .i64 0, Value.int .i64 0, Value.int .i64 0, Value.slice none 0 0] 59))
        have BXZ := Lib.hid (BoxN.new V 59 [Value.string ⟨#[]⟩, Value.bool false, Value.int .i64 0, Value.int .i64 0, Value.int .i64 0, Value.int .i64 0, Value.slice none 0 0])
        have HX1 := Lib.hid hb.size
        have GB := Lib.hid (show FdS (fun bl => bl ≠ V.heap.size) (V.alloc (.cells #[Value.string ⟨#[]⟩, Value.bool false, Value.int .i64 0, Value.int .i64 0, Value.int .i64 0, Value.int .i64 0, Value.slice none 0 0] 59)) (bareF f) [.string (bareF f).nm, .bool (bareF f).nl, .int .i64 (bareF f).k, .int .i64 (bareF f).wd, .int .i64 (bareF f).id, .int .i64 (bareF f).ix, .slice u1 (bareF f).kids.length v1] from hg.keep (fun bl hs hlt => ⟨((Below.refl _ V).alloc (Nat.le_refl _) _).block bl hlt, by omega⟩))
        clear hg hb
        obtain ⟨x1, hx⟩ : ∃ x, x = V.heap.size := ⟨_, rfl⟩
        obtain ⟨B, hB⟩ : ∃ B, B = V.alloc (.cells #[Value.string ⟨#[]⟩, Value.bool false, Value.int .i64 0, Value.int .i64 0, Value.int .i64 0, Value.int .i64 0, Value.slice none 0 0] 59) := ⟨_, rfl⟩
        have HUB := Lib.hid (show Below wr.heap.size wr B by rw [hB]; exact HUB.out)
        have BXZ := Lib.hid (show BoxN B x1 59 [Value.string ⟨#[]⟩, Value.bool false, Value.int .i64 0, Value.int .i64 0, Value.int .i64 0, Value.int .i64 0, Value.slice none 0 0] by rw [hB, hx]; exact BXZ.out)
        have HX1 := Lib.hid (show wr.heap.size ≤ x1 by rw [hx]; exact HX1.out)
        have GB := Lib.hid (show FdS (fun bl => bl ≠ x1) B (bareF f) [.string (bareF f).nm, .bool (bareF f).nl, .int .i64 (bareF f).k, .int .i64 (bareF f).wd, .int .i64 (bareF f).id, .int .i64 (bareF f).ix, .slice u1 (bareF f).kids.length v1] by rw [hB, hx]; exact GB.out)
        rw [← hB, ← hx]
        clear hB hx
        have HSB := Lib.hid (HS0.out.below (HBr1.out.trans (HUB.out.mono HBr1.out.size)))
        refine hK _ _ (fun _ => HSB.out) ?_
        clear hK K
        have kk0 : B.cell? ⟨x1, 0, none⟩ = some _ := BXZ.out.row 0 _ rfl
        have kk1 : B.cell? ⟨x1, 1, none⟩ = some _ := BXZ.out.row 1 _ rfl
        have kk2 : B.cell? ⟨x1, 2, none⟩ = some _ := BXZ.out.row 2 _ rfl
        have kk3 : B.cell? ⟨x1, 3, none⟩ = some _ := BXZ.out.row 3 _ rfl
        have kk4 : B.cell? ⟨x1, 4, none⟩ = some _ := BXZ.out.row 4 _ rfl
        have kk5 : B.cell? ⟨x1, 5, none⟩ = some _ := BXZ.out.row 5 _ rfl
        have kk6 : B.cell? ⟨x1, 6, none⟩ = some _ := BXZ.out.row 6 _ rfl
        have z0 : B.frozen? ⟨x1, 0, none⟩ = false := BXZ.out.frozen 0
        have z1 : B.frozen? ⟨x1, 1, none⟩ = false := BXZ.out.frozen 1
        have z2 : B.frozen? ⟨x1, 2, none⟩ = false := BXZ.out.frozen 2
        have z3 : B.frozen? ⟨x1, 3, none⟩ = false := BXZ.out.frozen 3
        have z4 : B.frozen? ⟨x1, 4, none⟩ = false := BXZ.out.frozen 4
        have z5 : B.frozen? ⟨x1, 5, none⟩ = false := BXZ.out.frozen 5
        have z6 : B.frozen? ⟨x1, 6, none⟩ = false := BXZ.out.frozen 6
        refine Late.one (i := 12) (by kernel_rfl) rfl (fun K hK => ?_)
        go_simp
        obtain ⟨E1, hE⟩ : ∃ E, E = put7 B x1 (.string (bareF f).nm) (.bool (bareF f).nl) (.int .i64 (bareF f).k) (.int .i64 (bareF f).wd) (.int .i64 (bareF f).id) (.int .i64 (bareF f).ix) (.slice u1 (bareF f).kids.length v1) := ⟨_, rfl⟩
        have BX1 := Lib.hid (show BoxN E1 x1 59 [.string (bareF f).nm, .bool (bareF f).nl, .int .i64 (bareF f).k, .int .i64 (bareF f).wd, .int .i64 (bareF f).id, .int .i64 (bareF f).ix, .slice u1 (bareF f).kids.length v1] by rw [hE]; exact put7_box rfl BXZ.out _ _ _ _ _ _ _)
        have hUE : Below wr.heap.size wr E1 := by rw [hE]; exact put7_below HUB.out HX1.out _ _ _ _ _ _ _
        have G1 := Lib.hid (show FdAt E1 (bareF f) [.string (bareF f).nm, .bool (bareF f).nl, .int .i64 (bareF f).k, .int .i64 (bareF f).wd, .int .i64 (bareF f).id, .int .i64 (bareF f).ix, .slice u1 (bareF f).kids.length v1] by rw [hE]; exact (GB.out.keep (T := fun _ => True) (fun bl hs hlt => ⟨put7_other hs _ _ _ _ _ _ _, trivial⟩)).at)
        have hEq : ((((((B.setCell ⟨x1, 0, none⟩ (.string (bareF f).nm)).setCell ⟨x1, 1, none⟩ (.bool (bareF f).nl)).setCell ⟨x1, 2, none⟩ (.int .i64 (bareF f).k)).setCell ⟨x1, 3, none⟩ (.int .i64 (bareF f).wd)).setCell ⟨x1, 4, none⟩ (.int .i64 (bareF f).id)).setCell ⟨x1, 5, none⟩ (.int .i64 (bareF f).ix)).setCell ⟨x1, 6, none⟩ (.slice u1 (bareF f).kids.length v1) = E1 := by rw [hE]; rfl
        rw [hEq]
        clear hEq hE kk0 z0 kk1 z1 kk2 z2 kk3 z3 kk4 z4 kk5 z5 kk6 z6
        have HBr2 := Lib.hid (HBr1.out.trans (hUE.mono HBr1.out.size))
        have HSE := Lib.hid (HS0.out.below HBr2.out)
        refine hK _ _ (fun _ => HSE.out) ?_
        clear hK K BXZ GB HUB HSB HSE hUE
        refine Late.done (by kernel_rfl) ?_ _
        clear HSd
        go_wp2_with fail
        refine Late.region (fun w' => SidesAt w' w.heap.size (w.heap.size + 1) b1 o1 L1.length fc1 ba oa K1.length kc1 b2 o2 L2.length fc2 bk ok K2.length kc2 k a b f p1 c1 g p2 c2) (fun _ => false) (by kernel_rfl) ?_
        have HSd := Lib.hid (HS0.out.below (below_drew HBr2.out))
        refine Late.take (i := 0) (v := ?_) rfl (by kernel_rfl) (by kernel_rfl) (by kernel_rfl) (by kernel_rfl) (fun _ _ _ h => h) (Or.inl ⟨by rfl, ?_⟩) HSd.out ?_
        rotate_left
        · intro w' hS
          obtain ⟨⟨r0, r1, r2, r3, r4, r5⟩, ⟨s0, s1, s2, s3, s4, s5, s6⟩, ⟨t0, t1, t2, t3, t4, t5, t6⟩⟩ := hS
          go_simp
          rfl
        refine Late.take (i := 1) (v := ?_) rfl (by kernel_rfl) (by kernel_rfl) (by kernel_rfl) (by kernel_rfl) (fun _ _ _ h => h) (Or.inl ⟨by rfl, ?_⟩) HSd.out ?_
        rotate_left
        · intro w' hS
          obtain ⟨⟨r0, r1, r2, r3, r4, r5⟩, ⟨s0, s1, s2, s3, s4, s5, s6⟩, ⟨t0, t1, t2, t3, t4, t5, t6⟩⟩ := hS
          go_simp
          rfl
        refine Late.take (i := 2) (v := ?_) rfl (by kernel_rfl) (by kernel_rfl) (by kernel_rfl) (by kernel_rfl) (fun _ _ _ h => h) (Or.inl ⟨by rfl, ?_⟩) HSd.out ?_
        rotate_left
        · intro w' hS
          obtain ⟨⟨r0, r1, r2, r3, r4, r5⟩, ⟨s0, s1, s2, s3, s4, s5, s6⟩, ⟨t0, t1, t2, t3, t4, t5, t6⟩⟩ := hS
          go_simp
          rfl
        refine Late.take (i := 3) (v := ?_) rfl (by kernel_rfl) (by kernel_rfl) (by kernel_rfl) (by kernel_rfl) (fun _ _ _ h => h) (Or.inl ⟨by rfl, ?_⟩) HSd.out ?_
        rotate_left
        · intro w' hS
          obtain ⟨⟨r0, r1, r2, r3, r4, r5⟩, ⟨s0, s1, s2, s3, s4, s5, s6⟩, ⟨t0, t1, t2, t3, t4, t5, t6⟩⟩ := hS
          go_simp
          rfl
        refine Late.take (i := 4) (v := ?_) rfl (by kernel_rfl) (by kernel_rfl) (by kernel_rfl) (by kernel_rfl) (fun _ _ _ h => h) (Or.inl ⟨by rfl, ?_⟩) HSd.out ?_
        rotate_left
        · intro w' hS
          obtain ⟨⟨r0, r1, r2, r3, r4, r5⟩, ⟨s0, s1, s2, s3, s4, s5, s6⟩, ⟨t0, t1, t2, t3, t4, t5, t6⟩⟩ := hS
          go_simp
          rfl
        refine Late.take (i := 5) (v := ?_) rfl (by kernel_rfl) (by kernel_rfl) (by kernel_rfl) (by kernel_rfl) (fun _ _ _ h => h) (Or.inl ⟨by rfl, ?_⟩) HSd.out ?_
        rotate_left
        · intro w' hS
          obtain ⟨⟨r0, r1, r2, r3, r4, r5⟩, ⟨s0, s1, s2, s3, s4, s5, s6⟩, ⟨t0, t1, t2, t3, t4, t5, t6⟩⟩ := hS
          go_simp
          rfl
        refine Late.take (i := 6) (v := ?_) rfl (by kernel_rfl) (by kernel_rfl) (by kernel_rfl) (by kernel_rfl) (fun _ _ _ h => h) (Or.inl ⟨by rfl, ?_⟩) HSd.out ?_
        rotate_left
        · intro w' hS
          obtain ⟨⟨r0, r1, r2, r3, r4, r5⟩, ⟨s0, s1, s2, s3, s4, s5, s6⟩, ⟨t0, t1, t2, t3, t4, t5, t6⟩⟩ := hS
          go_simp
          rfl
        refine Late.take (i := 7) (v := ?_) rfl (by kernel_rfl) (by kernel_rfl) (by kernel_rfl) (by kernel_rfl) (fun _ _ _ h => h) (Or.inl ⟨by rfl, ?_⟩) HSd.out ?_
        rotate_left
        · intro w' hS
          obtain ⟨⟨r0, r1, r2, r3, r4, r5⟩, ⟨s0, s1, s2, s3, s4, s5, s6⟩, ⟨t0, t1, t2, t3, t4, t5, t6⟩⟩ := hS
          go_simp
          rfl
        refine Late.take (i := 8) (v := ?_) rfl (by kernel_rfl) (by kernel_rfl) (by kernel_rfl) (by kernel_rfl) (fun _ _ _ h => h) (Or.inl ⟨by rfl, ?_⟩) HSd.out ?_
        rotate_left
        · intro w' hS
          obtain ⟨⟨r0, r1, r2, r3, r4, r5⟩, ⟨s0, s1, s2, s3, s4, s5, s6⟩, ⟨t0, t1, t2, t3, t4, t5, t6⟩⟩ := hS
          go_simp
          rfl
        refine Late.take (i := 9) (v := ?_) rfl (by kernel_rfl) (by kernel_rfl) (by kernel_rfl) (by kernel_rfl) (fun _ _ _ h => h) (Or.inl ⟨by rfl, ?_⟩) HSd.out ?_
        rotate_left
        · intro w' hS
          obtain ⟨⟨r0, r1, r2, r3, r4, r5⟩, ⟨s0, s1, s2, s3, s4, s5, s6⟩, ⟨t0, t1, t2, t3, t4, t5, t6⟩⟩ := hS
          go_simp
          rfl
        refine Late.two (i := 10) (k := 11) (by kernel_rfl) rfl rfl (fun K hK => ?_) (fun K hK => ?_)
        · go_simp
          refine (rbare_calls' g OK2.out E1.drew p2 c2 (F2.out.below (below_drew HBr2.out))).mono ?_
          rintro e V ⟨u2, v2, rfl, hg, hb⟩
          have hb : Below E1.heap.size E1 V := (below_drew (Below.refl _ E1)).trans hb
          have HSv := Lib.hid (HS0.out.below (HBr2.out.trans (hb.mono HBr2.out.size)))
          refine hK _ _ (fun _ => HSv.out) ?_
          clear hK K HSv
          refine Late.one (i := 11) (by kernel_rfl) rfl (fun K hK => ?_)
          go_simp
          have HUB := Lib.hid (hb.alloc hb.size (.cells #[Value.string ⟨#[]⟩, Value.bool false, Value.int .i64 0, Value.int .i64 0, Value.int .i64 0, Value.int .i64 0, Value.slice none 0 0] 59))
          have BXZ := Lib.hid (BoxN.new V 59 [Value.string ⟨#[]⟩, Value.bool false, Value.int .i64 0, Value.int .i64 0, Value.int .i64 0, Value.int .i64 0, Value.slice none 0 0])
          have HX2 := Lib.hid hb.size
          have GB := Lib.hid (show FdS (fun bl => bl ≠ V.heap.size) (V.alloc (.cells #[Value.string ⟨#[]⟩, Value.bool false, Value.int .i64 0, Value.int .i64 0, Value.int .i64 0, Value.int .i64 0, Value.slice none 0 0] 59)) (bareF g) [.string (bareF g).nm, .bool (bareF g).nl, .int .i64 (bareF g).k, .int .i64 (bareF g).wd, .int .i64 (bareF g).id, .int .i64 (bareF g).ix, .slice u2 (bareF g).kids.length v2] from hg.keep (fun bl hs hlt => ⟨((Below.refl _ V).alloc (Nat.le_refl _) _).block bl hlt, by omega⟩))
          clear hg hb
          obtain ⟨x2, hx⟩ : ∃ x, x = V.heap.size := ⟨_, rfl⟩
          obtain ⟨B, hB⟩ : ∃ B, B = V.alloc (.cells #[Value.string ⟨#[]⟩, Value.bool false, Value.int .i64 0, Value.int .i64 0, Value.int .i64 0, Value.int .i64 0, Value.slice none 0 0] 59) := ⟨_, rfl⟩
          have HUB := Lib.hid (show Below E1.heap.size E1 B by rw [hB]; exact HUB.out)
          have BXZ := Lib.hid (show BoxN B x2 59 [Value.string ⟨#[]⟩, Value.bool false, Value.int .i64 0, Value.int .i64 0, Value.int .i64 0, Value.int .i64 0, Value.slice none 0 0] by rw [hB, hx]; exact BXZ.out)
          have HX2 := Lib.hid (show E1.heap.size ≤ x2 by rw [hx]; exact HX2.out)
          have GB := Lib.hid (show FdS (fun bl => bl ≠ x2) B (bareF g) [.string (bareF g).nm, .bool (bareF g).nl, .int .i64 (bareF g).k, .int .i64 (bareF g).wd, .int .i64 (bareF g).id, .int .i64 (bareF g).ix, .slice u2 (bareF g).kids.length v2] by rw [hB, hx]; exact GB.out)
          rw [← hB, ← hx]
          clear hB hx
          have HSB := Lib.hid (HS0.out.below (HBr2.out.trans (HUB.out.mono HBr2.out.size)))
          refine hK _ _ (fun _ => HSB.out) ?_
          clear hK K
          have kk0 : B.cell? ⟨x2, 0, none⟩ = some _ := BXZ.out.row 0 _ rfl
          have kk1 : B.cell? ⟨x2, 1, none⟩ = some _ := BXZ.out.row 1 _ rfl
          have kk2 : B.cell? ⟨x2, 2, none⟩ = some _ := BXZ.out.row 2 _ rfl
          have kk3 : B.cell? ⟨x2, 3, none⟩ = some _ := BXZ.out.row 3 _ rfl
          have kk4 : B.cell? ⟨x2, 4, none⟩ = some _ := BXZ.out.row 4 _ rfl
          have kk5 : B.cell? ⟨x2, 5, none⟩ = some _ := BXZ.out.row 5 _ rfl
          have kk6 : B.cell? ⟨x2, 6, none⟩ = some _ := BXZ.out.row 6 _ rfl
          have z0 : B.frozen? ⟨x2, 0, none⟩ = false := BXZ.out.frozen 0
          have z1 : B.frozen? ⟨x2, 1, none⟩ = false := BXZ.out.frozen 1
          have z2 : B.frozen? ⟨x2, 2, none⟩ = false := BXZ.out.frozen 2
          have z3 : B.frozen? ⟨x2, 3, none⟩ = false := BXZ.out.frozen 3
          have z4 : B.frozen? ⟨x2, 4, none⟩ = false := BXZ.out.frozen 4
          have z5 : B.frozen? ⟨x2, 5, none⟩ = false := BXZ.out.frozen 5
          have z6 : B.frozen? ⟨x2, 6, none⟩ = false := BXZ.out.frozen 6
          refine Late.one (i := 12) (by kernel_rfl) rfl (fun K hK => ?_)
          go_simp
          obtain ⟨E2, hE⟩ : ∃ E, E = put7 B x2 (.string (bareF g).nm) (.bool (bareF g).nl) (.int .i64 (bareF g).k) (.int .i64 (bareF g).wd) (.int .i64 (bareF g).id) (.int .i64 (bareF g).ix) (.slice u2 (bareF g).kids.length v2) := ⟨_, rfl⟩
          have BX2 := Lib.hid (show BoxN E2 x2 59 [.string (bareF g).nm, .bool (bareF g).nl, .int .i64 (bareF g).k, .int .i64 (bareF g).wd, .int .i64 (bareF g).id, .int .i64 (bareF g).ix, .slice u2 (bareF g).kids.length v2] by rw [hE]; exact put7_box rfl BXZ.out _ _ _ _ _ _ _)
          have hUE : Below E1.heap.size E1 E2 := by rw [hE]; exact put7_below HUB.out HX2.out _ _ _ _ _ _ _
          have G2 := Lib.hid (show FdAt E2 (bareF g) [.string (bareF g).nm, .bool (bareF g).nl, .int .i64 (bareF g).k, .int .i64 (bareF g).wd, .int .i64 (bareF g).id, .int .i64 (bareF g).ix, .slice u2 (bareF g).kids.length v2] by rw [hE]; exact (GB.out.keep (T := fun _ => True) (fun bl hs hlt => ⟨put7_other hs _ _ _ _ _ _ _, trivial⟩)).at)
          have hEq : ((((((B.setCell ⟨x2, 0, none⟩ (.string (bareF g).nm)).setCell ⟨x2, 1, none⟩ (.bool (bareF g).nl)).setCell ⟨x2, 2, none⟩ (.int .i64 (bareF g).k)).setCell ⟨x2, 3, none⟩ (.int .i64 (bareF g).wd)).setCell ⟨x2, 4, none⟩ (.int .i64 (bareF g).id)).setCell ⟨x2, 5, none⟩ (.int .i64 (bareF g).ix)).setCell ⟨x2, 6, none⟩ (.slice u2 (bareF g).kids.length v2) = E2 := by rw [hE]; rfl
          rw [hEq]
          clear hEq hE kk0 z0 kk1 z1 kk2 z2 kk3 z3 kk4 z4 kk5 z5 kk6 z6
          have HBr3 := Lib.hid (HBr2.out.trans (hUE.mono HBr2.out.size))
          have BX1 := Lib.hid (BX1.out.below hUE BX1.out.lt)
          have G1 := Lib.hid (G1.out.below hUE)
          have HSE := Lib.hid (HS0.out.below HBr3.out)
          refine hK _ _ (fun _ => HSE.out) ?_
          clear hK K BXZ GB HUB HSB HSE hUE
          refine Late.done (by kernel_rfl) ?_ _
          clear HSd
          have y12 := BX1.out.row 2 _ rfl
          have y13 := BX1.out.row 3 _ rfl
          have y14 := BX1.out.row 4 _ rfl
          have y15 := BX1.out.row 5 _ rfl
          have y16 := BX1.out.row 6 _ rfl
          have hl1' := BX1.out.lt
          have y22 := BX2.out.row 2 _ rfl
          have y23 := BX2.out.row 3 _ rfl
          have y24 := BX2.out.row 4 _ rfl
          have y25 := BX2.out.row 5 _ rfl
          have y26 := BX2.out.row 6 _ rfl
          have hl2' := BX2.out.lt
          go_wp2_with fail
          refine (ralike_calls G1.out G2.out (by rw [FL1.out.1, FL2.out.1]) (by rw [FL1.out.2, FL2.out.2])).mono ?_
          rintro e W9 ⟨rfl, hb9⟩
          have HB9 := Lib.hid (HB.out.trans ((HBr3.out.trans (hb9.mono HBr3.out.size)).mono HB.out.size))
          have HBo9 := Lib.hid (HBo.out.trans ((HBr3.out.trans (hb9.mono HBr3.out.size)).mono HBo.out.size))
          clear hb9 y12 y13 y14 y15 y16 y22 y23 y24 y25 y26 hl1' hl2'
          generalize eqT (bareF f) (bareF g) = t at *
          cases t with
          | true =>
            have HN := Lib.hid (Next.out rfl)
            clear Next Bad
            go_wp2_with fail
            go_round
            case rel => exact ⟨k + 1, by omega, by go_num, HBo9, HN⟩
            case measure => simp [intOf]; omega
          | false =>
            have HN := Lib.hid (show askedE kind L1 K1 L2 K2 = 6 by rw [HE.out, Bad.out rfl]; rfl)
            clear Next Bad
            go_wp2_with fail
            go_ret
            exact int_post HN.out.symm HB9.out
        · go_simp
          have hb0 : Below E1.heap.size E1 (E1.alloc (.cells #[Value.string ⟨#[]⟩, Value.bool false, Value.int .i64 0, Value.int .i64 0, Value.int .i64 0, Value.int .i64 0, Value.slice none 0 0] 59)).drew := below_drew ((Below.refl _ E1).alloc (Nat.le_refl _) _)
          have HSv := Lib.hid (HS0.out.below (HBr2.out.trans (hb0.mono HBr2.out.size)))
          refine hK _ _ (fun _ => HSv.out) ?_
          clear hK K HSv
          refine Late.one (i := 10) (by kernel_rfl) rfl (fun K hK => ?_)
          go_simp
          refine (rbare_calls' g OK2.out (E1.alloc (.cells #[Value.string ⟨#[]⟩, Value.bool false, Value.int .i64 0, Value.int .i64 0, Value.int .i64 0, Value.int .i64 0, Value.slice none 0 0] 59)).drew p2 c2 (F2.out.below (HBr2.out.trans (hb0.mono HBr2.out.size)))).mono ?_
          rintro e B ⟨u2, v2, rfl, hg, hb⟩
          have hsz : (E1.alloc (.cells #[Value.string ⟨#[]⟩, Value.bool false, Value.int .i64 0, Value.int .i64 0, Value.int .i64 0, Value.int .i64 0, Value.slice none 0 0] 59)).drew.heap.size = E1.heap.size + 1 := World.size_alloc _ _
          have HUB := Lib.hid (hb0.trans (hb.mono hb0.size))
          have BXZ := Lib.hid ((show BoxN (E1.alloc (.cells #[Value.string ⟨#[]⟩, Value.bool false, Value.int .i64 0, Value.int .i64 0, Value.int .i64 0, Value.int .i64 0, Value.slice none 0 0] 59)).drew E1.heap.size 59 [Value.string ⟨#[]⟩, Value.bool false, Value.int .i64 0, Value.int .i64 0, Value.int .i64 0, Value.int .i64 0, Value.slice none 0 0] from BoxN.new E1 59 [Value.string ⟨#[]⟩, Value.bool false, Value.int .i64 0, Value.int .i64 0, Value.int .i64 0, Value.int .i64 0, Value.slice none 0 0]).below hb (by omega))
          have GB := Lib.hid (show FdS (fun bl => bl ≠ E1.heap.size) B (bareF g) [.string (bareF g).nm, .bool (bareF g).nl, .int .i64 (bareF g).k, .int .i64 (bareF g).wd, .int .i64 (bareF g).id, .int .i64 (bareF g).ix, .slice u2 (bareF g).kids.length v2] from hg.mono (fun bl hs => by omega))
          clear hg hb hb0 hsz
          obtain ⟨x2, hx⟩ : ∃ x, x = E1.heap.size := ⟨_, rfl⟩
          have HX2 := Lib.hid (show E1.heap.size ≤ x2 by omega)
          rw [← hx] at BXZ GB ⊢
          clear hx
          have HSB := Lib.hid (HS0.out.below (HBr2.out.trans (HUB.out.mono HBr2.out.size)))
          refine hK _ _ (fun _ => HSB.out) ?_
          clear hK K
          have kk0 : B.cell? ⟨x2, 0, none⟩ = some _ := BXZ.out.row 0 _ rfl
          have kk1 : B.cell? ⟨x2, 1, none⟩ = some _ := BXZ.out.row 1 _ rfl
          have kk2 : B.cell? ⟨x2, 2, none⟩ = some _ := BXZ.out.row 2 _ rfl
          have kk3 : B.cell? ⟨x2, 3, none⟩ = some _ := BXZ.out.row 3 _ rfl
          have kk4 : B.cell? ⟨x2, 4, none⟩ = some _ := BXZ.out.row 4 _ rfl
          have kk5 : B.cell? ⟨x2, 5, none⟩ = some _ := BXZ.out.row 5 _ rfl
          have kk6 : B.cell? ⟨x2, 6, none⟩ = some _ := BXZ.out.row 6 _ rfl
          have z0 : B.frozen? ⟨x2, 0, none⟩ = false := BXZ.out.frozen 0
          have z1 : B.frozen? ⟨x2, 1, none⟩ = false := BXZ.out.frozen 1
          have z2 : B.frozen? ⟨x2, 2, none⟩ = false := BXZ.out.frozen 2
          have z3 : B.frozen? ⟨x2, 3, none⟩ = false := BXZ.out.frozen 3
          have z4 : B.frozen? ⟨x2, 4, none⟩ = false := BXZ.out.frozen 4
          have z5 : B.frozen? ⟨x2, 5, none⟩ = false := BXZ.out.frozen 5
          have z6 : B.frozen? ⟨x2, 6, none⟩ = false := BXZ.out.frozen 6
          refine Late.one (i := 12) (by kernel_rfl) rfl (fun K hK => ?_)
          go_simp
          obtain ⟨E2, hE⟩ : ∃ E, E = put7 B x2 (.string (bareF g).nm) (.bool (bareF g).nl) (.int .i64 (bareF g).k) (.int .i64 (bareF g).wd) (.int .i64 (bareF g).id) (.int .i64 (bareF g).ix) (.slice u2 (bareF g).kids.length v2) := ⟨_, rfl⟩
          have BX2 := Lib.hid (show BoxN E2 x2 59 [.string (bareF g).nm, .bool (bareF g).nl, .int .i64 (bareF g).k, .int .i64 (bareF g).wd, .int .i64 (bareF g).id, .int .i64 (bareF g).ix, .slice u2 (bareF g).kids.length v2] by rw [hE]; exact put7_box rfl BXZ.out _ _ _ _ _ _ _)
          have hUE : Below E1.heap.size E1 E2 := by rw [hE]; exact put7_below HUB.out HX2.out _ _ _ _ _ _ _
          have G2 := Lib.hid (show FdAt E2 (bareF g) [.string (bareF g).nm, .bool (bareF g).nl, .int .i64 (bareF g).k, .int .i64 (bareF g).wd, .int .i64 (bareF g).id, .int .i64 (bareF g).ix, .slice u2 (bareF g).kids.length v2] by rw [hE]; exact (GB.out.keep (T := fun _ => True) (fun bl hs hlt => ⟨put7_other hs _ _ _ _ _ _ _, trivial⟩)).at)
          have hEq : ((((((B.setCell ⟨x2, 0, none⟩ (.string (bareF g).nm)).setCell ⟨x2, 1, none⟩ (.bool (bareF g).nl)).setCell ⟨x2, 2, none⟩ (.int .i64 (bareF g).k)).setCell ⟨x2, 3, none⟩ (.int .i64 (bareF g).wd)).setCell ⟨x2, 4, none⟩ (.int .i64 (bareF g).id)).setCell ⟨x2, 5, none⟩ (.int .i64 (bareF g).ix)).setCell ⟨x2, 6, none⟩ (.slice u2 (bareF g).kids.length v2) = E2 := by rw [hE]; rfl
          rw [hEq]
          clear hEq hE kk0 z0 kk1 z1 kk2 z2 kk3 z3 kk4 z4 kk5 z5 kk6 z6
          have HBr3 := Lib.hid (HBr2.out.trans (hUE.mono HBr2.out.size))
          have BX1 := Lib.hid (BX1.out.below hUE BX1.out.lt)
          have G1 := Lib.hid (G1.out.below hUE)
          have HSE := Lib.hid (HS0.out.below HBr3.out)
          refine hK _ _ (fun _ => HSE.out) ?_
          clear hK K BXZ GB HUB HSB HSE hUE
          refine Late.done (by kernel_rfl) ?_ _
          clear HSd
          have y12 := BX1.out.row 2 _ rfl
          have y13 := BX1.out.row 3 _ rfl
          have y14 := BX1.out.row 4 _ rfl
          have y15 := BX1.out.row 5 _ rfl
          have y16 := BX1.out.row 6 _ rfl
          have hl1' := BX1.out.lt
          have y22 := BX2.out.row 2 _ rfl
          have y23 := BX2.out.row 3 _ rfl
          have y24 := BX2.out.row 4 _ rfl
          have y25 := BX2.out.row 5 _ rfl
          have y26 := BX2.out.row 6 _ rfl
          have hl2' := BX2.out.lt
          go_wp2_with fail
          refine (ralike_calls G1.out G2.out (by rw [FL1.out.1, FL2.out.1]) (by rw [FL1.out.2, FL2.out.2])).mono ?_
          rintro e W9 ⟨rfl, hb9⟩
          have HB9 := Lib.hid (HB.out.trans ((HBr3.out.trans (hb9.mono HBr3.out.size)).mono HB.out.size))
          have HBo9 := Lib.hid (HBo.out.trans ((HBr3.out.trans (hb9.mono HBr3.out.size)).mono HBo.out.size))
          clear hb9 y12 y13 y14 y15 y16 y22 y23 y24 y25 y26 hl1' hl2'
          generalize eqT (bareF f) (bareF g) = t at *
          cases t with
          | true =>
            have HN := Lib.hid (Next.out rfl)
            clear Next Bad
            go_wp2_with fail
            go_round
            case rel => exact ⟨k + 1, by omega, by go_num, HBo9, HN⟩
            case measure => simp [intOf]; omega
          | false =>
            have HN := Lib.hid (show askedE kind L1 K1 L2 K2 = 6 by rw [HE.out, Bad.out rfl]; rfl)
            clear Next Bad
            go_wp2_with fail
            go_ret
            exact int_post HN.out.symm HB9.out
      · go_simp
        have hb0 : Below wr.heap.size wr (wr.alloc (.cells #[Value.string ⟨#[]⟩, Value.bool false, Value.int .i64 0, Value.int .i64 0, Value.int .i64 0, Value.int .i64 0, Value.slice none 0 0] 59)).drew := below_drew ((Below.refl _ wr).alloc (Nat.le_refl _) _)
        have HSv := Lib.hid (HS0.out.below (HBr1.out.trans (hb0.mono HBr1.out.size)))
        refine hK _ _ (fun _ => HSv.out) ?_
        clear hK K HSv
        refine Late.one (i := 10) (by kernel_rfl) rfl (fun K hK => ?_)
        go_simp
        refine (rbare_calls' f OK1.out (wr.alloc (.cells #[Value.string ⟨#[]⟩, Value.bool false, Value.int .i64 0, Value.int .i64 0, Value.int .i64 0, Value.int .i64 0, Value.slice none 0 0] 59)).drew p1 c1 (F1.out.below (HBr1.out.trans (hb0.mono HBr1.out.size)))).mono ?_
        rintro e B ⟨u1, v1, rfl, hg, hb⟩
        have hsz : (wr.alloc (.cells #[Value.string ⟨#[]⟩, Value.bool false, Value.int .i64 0, Value.int .i64 0, Value.int .i64 0, Value.int .i64 0, Value.slice none 0 0] 59)).drew.heap.size = wr.heap.size + 1 := World.size_alloc _ _
        have HUB := Lib.hid (hb0.trans (hb.mono hb0.size))
        have BXZ := Lib.hid ((show BoxN (wr.alloc (.cells #[Value.string ⟨#[]⟩, Value.bool false, Value.int .i64 0, Value.int .i64 0, Value.int .i64 0, Value.int .i64 0, Value.slice none 0 0] 59)).drew wr.heap.size 59 [Value.string ⟨#[]⟩, Value.bool false, Value.int .i64 0, Value.int .i64 0, Value.int .i64 0, Value.int .i64 0, Value.slice none 0 0] from BoxN.new wr 59 [Value.string ⟨#[]⟩, Value.bool false, Value.int .i64 0, Value.int .i64 0, Value.int .i64 0, Value.int .i64 0, Value.slice none 0 0]).below hb (by omega))
        have GB := Lib.hid (show FdS (fun bl => bl ≠ wr.heap.size) B (bareF f) [.string (bareF f).nm, .bool (bareF f).nl, .int .i64 (bareF f).k, .int .i64 (bareF f).wd, .int .i64 (bareF f).id, .int .i64 (bareF f).ix, .slice u1 (bareF f).kids.length v1] from hg.mono (fun bl hs => by omega))
        clear hg hb hb0 hsz
        obtain ⟨x1, hx⟩ : ∃ x, x = wr.heap.size := ⟨_, rfl⟩
        have HX1 := Lib.hid (show wr.heap.size ≤ x1 by omega)
        rw [← hx] at BXZ GB ⊢
        clear hx
        have HSB := Lib.hid (HS0.out.below (HBr1.out.trans (HUB.out.mono HBr1.out.size)))
        refine hK _ _ (fun _ => HSB.out) ?_
        clear hK K
        have kk0 : B.cell? ⟨x1, 0, none⟩ = some _ := BXZ.out.row 0 _ rfl
        have kk1 : B.cell? ⟨x1, 1, none⟩ = some _ := BXZ.out.row 1 _ rfl
        have kk2 : B.cell? ⟨x1, 2, none⟩ = some _ := BXZ.out.row 2 _ rfl
        have kk3 : B.cell? ⟨x1, 3, none⟩ = some _ := BXZ.out.row 3 _ rfl
        have kk4 : B.cell? ⟨x1, 4, none⟩ = some _ := BXZ.out.row 4 _ rfl
        have kk5 : B.cell? ⟨x1, 5, none⟩ = some _ := BXZ.out.row 5 _ rfl
        have kk6 : B.cell? ⟨x1, 6, none⟩ = some _ := BXZ.out.row 6 _ rfl
        have z0 : B.frozen? ⟨x1, 0, none⟩ = false := BXZ.out.frozen 0
        have z1 : B.frozen? ⟨x1, 1, none⟩ = false := BXZ.out.frozen 1
        have z2 : B.frozen? ⟨x1, 2, none⟩ = false := BXZ.out.frozen 2
        have z3 : B.frozen? ⟨x1, 3, none⟩ = false := BXZ.out.frozen 3
        have z4 : B.frozen? ⟨x1, 4, none⟩ = false := BXZ.out.frozen 4
        have z5 : B.frozen? ⟨x1, 5, none⟩ = false := BXZ.out.frozen 5
        have z6 : B.frozen? ⟨x1, 6, none⟩ = false := BXZ.out.frozen 6
        refine Late.one (i := 12) (by kernel_rfl) rfl (fun K hK => ?_)
        go_simp
        obtain ⟨E1, hE⟩ : ∃ E, E = put7 B x1 (.string (bareF f).nm) (.bool (bareF f).nl) (.int .i64 (bareF f).k) (.int .i64 (bareF f).wd) (.int .i64 (bareF f).id) (.int .i64 (bareF f).ix) (.slice u1 (bareF f).kids.length v1) := ⟨_, rfl⟩
        have BX1 := Lib.hid (show BoxN E1 x1 59 [.string (bareF f).nm, .bool (bareF f).nl, .int .i64 (bareF f).k, .int .i64 (bareF f).wd, .int .i64 (bareF f).id, .int .i64 (bareF f).ix, .slice u1 (bareF f).kids.length v1] by rw [hE]; exact put7_box rfl BXZ.out _ _ _ _ _ _ _)
        have hUE : Below wr.heap.size wr E1 := by rw [hE]; exact put7_below HUB.out HX1.out _ _ _ _ _ _ _
        have G1 := Lib.hid (show FdAt E1 (bareF f) [.string (bareF f).nm, .bool (bareF f).nl, .int .i64 (bareF f).k, .int .i64 (bareF f).wd, .int .i64 (bareF f).id, .int .i64 (bareF f).ix, .slice u1 (bareF f).kids.length v1] by rw [hE]; exact (GB.out.keep (T := fun _ => True) (fun bl hs hlt => ⟨put7_other hs _ _ _ _ _ _ _, trivial⟩)).at)
        have hEq : ((((((B.setCell ⟨x1, 0, none⟩ (.string (bareF f).nm)).setCell ⟨x1, 1, none⟩ (.bool (bareF f).nl)).setCell ⟨x1, 2, none⟩ (.int .i64 (bareF f).k)).setCell ⟨x1, 3, none⟩ (.int .i64 (bareF f).wd)).setCell ⟨x1, 4, none⟩ (.int .i64 (bareF f).id)).setCell ⟨x1, 5, none⟩ (.int .i64 (bareF f).ix)).setCell ⟨x1, 6, none⟩ (.slice u1 (bareF f).kids.length v1) = E1 := by rw [hE]; rfl
        rw [hEq]
        clear hEq hE kk0 z0 kk1 z1 kk2 z2 kk3 z3 kk4 z4 kk5 z5 kk6 z6
        have HBr2 := Lib.hid (HBr1.out.trans (hUE.mono HBr1.out.size))
        have HSE := Lib.hid (HS0.out.below HBr2.out)
        refine hK _ _ (fun _ => HSE.out) ?_
        clear hK K BXZ GB HUB HSB HSE hUE
        refine Late.done (by kernel_rfl) ?_ _
        clear HSd
        go_wp2_with fail
        refine Late.region (fun w' => SidesAt w' w.heap.size (w.heap.size + 1) b1 o1 L1.length fc1 ba oa K1.length kc1 b2 o2 L2.length fc2 bk ok K2.length kc2 k a b f p1 c1 g p2 c2) (fun _ => false) (by kernel_rfl) ?_
        have HSd := Lib.hid (HS0.out.below (below_drew HBr2.out))
        refine Late.take (i := 0) (v := ?_) rfl (by kernel_rfl) (by kernel_rfl) (by kernel_rfl) (by kernel_rfl) (fun _ _ _ h => h) (Or.inl ⟨by rfl, ?_⟩) HSd.out ?_
        rotate_left
        · intro w' hS
          obtain ⟨⟨r0, r1, r2, r3, r4, r5⟩, ⟨s0, s1, s2, s3, s4, s5, s6⟩, ⟨t0, t1, t2, t3, t4, t5, t6⟩⟩ := hS
          go_simp
          rfl
        refine Late.take (i := 1) (v := ?_) rfl (by kernel_rfl) (by kernel_rfl) (by kernel_rfl) (by kernel_rfl) (fun _ _ _ h => h) (Or.inl ⟨by rfl, ?_⟩) HSd.out ?_
        rotate_left
        · intro w' hS
          obtain ⟨⟨r0, r1, r2, r3, r4, r5⟩, ⟨s0, s1, s2, s3, s4, s5, s6⟩, ⟨t0, t1, t2, t3, t4, t5, t6⟩⟩ := hS
          go_simp
          rfl
        refine Late.take (i := 2) (v := ?_) rfl (by kernel_rfl) (by kernel_rfl) (by kernel_rfl) (by kernel_rfl) (fun _ _ _ h => h) (Or.inl ⟨by rfl, ?_⟩) HSd.out ?_
        rotate_left
        · intro w' hS
          obtain ⟨⟨r0, r1, r2, r3, r4, r5⟩, ⟨s0, s1, s2, s3, s4, s5, s6⟩, ⟨t0, t1, t2, t3, t4, t5, t6⟩⟩ := hS
          go_simp
          rfl
        refine Late.take (i := 3) (v := ?_) rfl (by kernel_rfl) (by kernel_rfl) (by kernel_rfl) (by kernel_rfl) (fun _ _ _ h => h) (Or.inl ⟨by rfl, ?_⟩) HSd.out ?_
        rotate_left
        · intro w' hS
          obtain ⟨⟨r0, r1, r2, r3, r4, r5⟩, ⟨s0, s1, s2, s3, s4, s5, s6⟩, ⟨t0, t1, t2, t3, t4, t5, t6⟩⟩ := hS
          go_simp
          rfl
        refine Late.take (i := 4) (v := ?_) rfl (by kernel_rfl) (by kernel_rfl) (by kernel_rfl) (by kernel_rfl) (fun _ _ _ h => h) (Or.inl ⟨by rfl, ?_⟩) HSd.out ?_
        rotate_left
        · intro w' hS
          obtain ⟨⟨r0, r1, r2, r3, r4, r5⟩, ⟨s0, s1, s2, s3, s4, s5, s6⟩, ⟨t0, t1, t2, t3, t4, t5, t6⟩⟩ := hS
          go_simp
          rfl
        refine Late.take (i := 5) (v := ?_) rfl (by kernel_rfl) (by kernel_rfl) (by kernel_rfl) (by kernel_rfl) (fun _ _ _ h => h) (Or.inl ⟨by rfl, ?_⟩) HSd.out ?_
        rotate_left
        · intro w' hS
          obtain ⟨⟨r0, r1, r2, r3, r4, r5⟩, ⟨s0, s1, s2, s3, s4, s5, s6⟩, ⟨t0, t1, t2, t3, t4, t5, t6⟩⟩ := hS
          go_simp
          rfl
        refine Late.take (i := 6) (v := ?_) rfl (by kernel_rfl) (by kernel_rfl) (by kernel_rfl) (by kernel_rfl) (fun _ _ _ h => h) (Or.inl ⟨by rfl, ?_⟩) HSd.out ?_
        rotate_left
        · intro w' hS
          obtain ⟨⟨r0, r1, r2, r3, r4, r5⟩, ⟨s0, s1, s2, s3, s4, s5, s6⟩, ⟨t0, t1, t2, t3, t4, t5, t6⟩⟩ := hS
          go_simp
          rfl
        refine Late.take (i := 7) (v := ?_) rfl (by kernel_rfl) (by kernel_rfl) (by kernel_rfl) (by kernel_rfl) (fun _ _ _ h => h) (Or.inl ⟨by rfl, ?_⟩) HSd.out ?_
        rotate_left
        · intro w' hS
          obtain ⟨⟨r0, r1, r2, r3, r4, r5⟩, ⟨s0, s1, s2, s3, s4, s5, s6⟩, ⟨t0, t1, t2, t3, t4, t5, t6⟩⟩ := hS
          go_simp
          rfl
        refine Late.take (i := 8) (v := ?_) rfl (by kernel_rfl) (by kernel_rfl) (by kernel_rfl) (by kernel_rfl) (fun _ _ _ h => h) (Or.inl ⟨by rfl, ?_⟩) HSd.out ?_
        rotate_left
        · intro w' hS
          obtain ⟨⟨r0, r1, r2, r3, r4, r5⟩, ⟨s0, s1, s2, s3, s4, s5, s6⟩, ⟨t0, t1, t2, t3, t4, t5, t6⟩⟩ := hS
          go_simp
          rfl
        refine Late.take (i := 9) (v := ?_) rfl (by kernel_rfl) (by kernel_rfl) (by kernel_rfl) (by kernel_rfl) (fun _ _ _ h => h) (Or.inl ⟨by rfl, ?_⟩) HSd.out ?_
        rotate_left
        · intro w' hS
          obtain ⟨⟨r0, r1, r2, r3, r4, r5⟩, ⟨s0, s1, s2, s3, s4, s5, s6⟩, ⟨t0, t1, t2, t3, t4, t5, t6⟩⟩ := hS
          go_simp
          rfl
        refine Late.two (i := 10) (k := 11) (by kernel_rfl) rfl rfl (fun K hK => ?_) (fun K hK => ?_)
        · go_simp
          refine (rbare_calls' g OK2.out E1.drew p2 c2 (F2.out.below (below_drew HBr2.out))).mono ?_
          rintro e V ⟨u2, v2, rfl, hg, hb⟩
          have hb : Below E1.heap.size E1 V := (below_drew (Below.refl _ E1)).trans hb
          have HSv := Lib.hid (HS0.out.below (HBr2.out.trans (hb.mono HBr2.out.size)))
          refine hK _ _ (fun _ => HSv.out) ?_
          clear hK K HSv
          refine Late.one (i := 11) (by kernel_rfl) rfl (fun K hK => ?_)
          go_simp
          have HUB := Lib.hid (hb.alloc hb.size (.cells #[Value.string ⟨#[]⟩, Value.bool false, Value.int .i64 0, Value.int .i64 0, Value.int .i64 0, Value.int .i64 0, Value.slice none 0 0] 59))
          have BXZ := Lib.hid (BoxN.new V 59 [Value.string ⟨#[]⟩, Value.bool false, Value.int .i64 0, Value.int .i64 0, Value.int .i64 0, Value.int .i64 0, Value.slice none 0 0])
          have HX2 := Lib.hid hb.size
          have GB := Lib.hid (show FdS (fun bl => bl ≠ V.heap.size) (V.alloc (.cells #[Value.string ⟨#[]⟩, Value.bool false, Value.int .i64 0, Value.int .i64 0, Value.int .i64 0, Value.int .i64 0, Value.slice none 0 0] 59)) (bareF g) [.string (bareF g).nm, .bool (bareF g).nl, .int .i64 (bareF g).k, .int .i64 (bareF g).wd, .int .i64 (bareF g).id, .int .i64 (bareF g).ix, .slice u2 (bareF g).kids.length v2] from hg.keep (fun bl hs hlt => ⟨((Below.refl _ V).alloc (Nat.le_refl _) _).block bl hlt, by omega⟩))
          clear hg hb
          obtain ⟨x2, hx⟩ : ∃ x, x = V.heap.size := ⟨_, rfl⟩
          obtain ⟨B, hB⟩ : ∃ B, B = V.alloc (.cells #[Value.string ⟨#[]⟩, Value.bool false, Value.int .i64 0, Value.int .i64 0, Value.int .i64 0, Value.int .i64 0, Value.slice none 0 0] 59) := ⟨_, rfl⟩
          have HUB := Lib.hid (show Below E1.heap.size E1 B by rw [hB]; exact HUB.out)
          have BXZ := Lib.hid (show BoxN B x2 59 [Value.string ⟨#[]⟩, Value.bool false, Value.int .i64 0, Value.int .i64 0, Value.int .i64 0, Value.int .i64 0, Value.slice none 0 0] by rw [hB, hx]; exact BXZ.out)
          have HX2 := Lib.hid (show E1.heap.size ≤ x2 by rw [hx]; exact HX2.out)
          have GB := Lib.hid (show FdS (fun bl => bl ≠ x2) B (bareF g) [.string (bareF g).nm, .bool (bareF g).nl, .int .i64 (bareF g).k, .int .i64 (bareF g).wd, .int .i64 (bareF g).id, .int .i64 (bareF g).ix, .slice u2 (bareF g).kids.length v2] by rw [hB, hx]; exact GB.out)
          rw [← hB, ← hx]
          clear hB hx
          have HSB := Lib.hid (HS0.out.below (HBr2.out.trans (HUB.out.mono HBr2.out.size)))
          refine hK _ _ (fun _ => HSB.out) ?_
          clear hK K
          have kk0 : B.cell? ⟨x2, 0, none⟩ = some _ := BXZ.out.row 0 _ rfl
          have kk1 : B.cell? ⟨x2, 1, none⟩ = some _ := BXZ.out.row 1 _ rfl
          have kk2 : B.cell? ⟨x2, 2, none⟩ = some _ := BXZ.out.row 2 _ rfl
          have kk3 : B.cell? ⟨x2, 3, none⟩ = some _ := BXZ.out.row 3 _ rfl
          have kk4 : B.cell? ⟨x2, 4, none⟩ = some _ := BXZ.out.row 4 _ rfl
          have kk5 : B.cell? ⟨x2, 5, none⟩ = some _ := BXZ.out.row 5 _ rfl
          have kk6 : B.cell? ⟨x2, 6, none⟩ = some _ := BXZ.out.row 6 _ rfl
          have z0 : B.frozen? ⟨x2, 0, none⟩ = false := BXZ.out.frozen 0
          have z1 : B.frozen? ⟨x2, 1, none⟩ = false := BXZ.out.frozen 1
          have z2 : B.frozen? ⟨x2, 2, none⟩ = false := BXZ.out.frozen 2
          have z3 : B.frozen? ⟨x2, 3, none⟩ = false := BXZ.out.frozen 3
          have z4 : B.frozen? ⟨x2, 4, none⟩ = false := BXZ.out.frozen 4
          have z5 : B.frozen? ⟨x2, 5, none⟩ = false := BXZ.out.frozen 5
          have z6 : B.frozen? ⟨x2, 6, none⟩ = false := BXZ.out.frozen 6
          refine Late.one (i := 12) (by kernel_rfl) rfl (fun K hK => ?_)
          go_simp
          obtain ⟨E2, hE⟩ : ∃ E, E = put7 B x2 (.string (bareF g).nm) (.bool (bareF g).nl) (.int .i64 (bareF g).k) (.int .i64 (bareF g).wd) (.int .i64 (bareF g).id) (.int .i64 (bareF g).ix) (.slice u2 (bareF g).kids.length v2) := ⟨_, rfl⟩
          have BX2 := Lib.hid (show BoxN E2 x2 59 [.string (bareF g).nm, .bool (bareF g).nl, .int .i64 (bareF g).k, .int .i64 (bareF g).wd, .int .i64 (bareF g).id, .int .i64 (bareF g).ix, .slice u2 (bareF g).kids.length v2] by rw [hE]; exact put7_box rfl BXZ.out _ _ _ _ _ _ _)
          have hUE : Below E1.heap.size E1 E2 := by rw [hE]; exact put7_below HUB.out HX2.out _ _ _ _ _ _ _
          have G2 := Lib.hid (show FdAt E2 (bareF g) [.string (bareF g).nm, .bool (bareF g).nl, .int .i64 (bareF g).k, .int .i64 (bareF g).wd, .int .i64 (bareF g).id, .int .i64 (bareF g).ix, .slice u2 (bareF g).kids.length v2] by rw [hE]; exact (GB.out.keep (T := fun _ => True) (fun bl hs hlt => ⟨put7_other hs _ _ _ _ _ _ _, trivial⟩)).at)
          have hEq : ((((((B.setCell ⟨x2, 0, none⟩ (.string (bareF g).nm)).setCell ⟨x2, 1, none⟩ (.bool (bareF g).nl)).setCell ⟨x2, 2, none⟩ (.int .i64 (bareF g).k)).setCell ⟨x2, 3, none⟩ (.int .i64 (bareF g).wd)).setCell ⟨x2, 4, none⟩ (.int .i64 (bareF g).id)).setCell ⟨x2, 5, none⟩ (.int .i64 (bareF g).ix)).setCell ⟨x2, 6, none⟩ (.slice u2 (bareF g).kids.length v2) = E2 := by rw [hE]; rfl
          rw [hEq]
          clear hEq hE kk0 z0 kk1 z1 kk2 z2 kk3 z3 kk4 z4 kk5 z5 kk6 z6
          have HBr3 := Lib.hid (HBr2.out.trans (hUE.mono HBr2.out.size))
          have BX1 := Lib.hid (BX1.out.below hUE BX1.out.lt)
          have G1 := Lib.hid (G1.out.below hUE)
          have HSE := Lib.hid (HS0.out.below HBr3.out)
          refine hK _ _ (fun _ => HSE.out) ?_
          clear hK K BXZ GB HUB HSB HSE hUE
          refine Late.done (by kernel_rfl) ?_ _
          clear HSd
          have y12 := BX1.out.row 2 _ rfl
          have y13 := BX1.out.row 3 _ rfl
          have y14 := BX1.out.row 4 _ rfl
          have y15 := BX1.out.row 5 _ rfl
          have y16 := BX1.out.row 6 _ rfl
          have hl1' := BX1.out.lt
          have y22 := BX2.out.row 2 _ rfl
          have y23 := BX2.out.row 3 _ rfl
          have y24 := BX2.out.row 4 _ rfl
          have y25 := BX2.out.row 5 _ rfl
          have y26 := BX2.out.row 6 _ rfl
          have hl2' := BX2.out.lt
          go_wp2_with fail
          refine (ralike_calls G1.out G2.out (by rw [FL1.out.1, FL2.out.1]) (by rw [FL1.out.2, FL2.out.2])).mono ?_
          rintro e W9 ⟨rfl, hb9⟩
          have HB9 := Lib.hid (HB.out.trans ((HBr3.out.trans (hb9.mono HBr3.out.size)).mono HB.out.size))
          have HBo9 := Lib.hid (HBo.out.trans ((HBr3.out.trans (hb9.mono HBr3.out.size)).mono HBo.out.size))
          clear hb9 y12 y13 y14 y15 y16 y22 y23 y24 y25 y26 hl1' hl2'
          generalize eqT (bareF f) (bareF g) = t at *
          cases t with
          | true =>
            have HN := Lib.hid (Next.out rfl)
            clear Next Bad
            go_wp2_with fail
            go_round
            case rel => exact ⟨k + 1, by omega, by go_num, HBo9, HN⟩
            case measure => simp [intOf]; omega
          | false =>
            have HN := Lib.hid (show askedE kind L1 K1 L2 K2 = 6 by rw [HE.out, Bad.out rfl]; rfl)
            clear Next Bad
            go_wp2_with fail
            go_ret
            exact int_post HN.out.symm HB9.out
        · go_simp
          have hb0 : Below E1.heap.size E1 (E1.alloc (.cells #[Value.string ⟨#[]⟩, Value.bool false, Value.int .i64 0, Value.int .i64 0, Value.int .i64 0, Value.int .i64 0, Value.slice none 0 0] 59)).drew := below_drew ((Below.refl _ E1).alloc (Nat.le_refl _) _)
          have HSv := Lib.hid (HS0.out.below (HBr2.out.trans (hb0.mono HBr2.out.size)))
          refine hK _ _ (fun _ => HSv.out) ?_
          clear hK K HSv
          refine Late.one (i := 10) (by kernel_rfl) rfl (fun K hK => ?_)
          go_simp
          refine (rbare_calls' g OK2.out (E1.alloc (.cells #[Value.string ⟨#[]⟩, Value.bool false, Value.int .i64 0, Value.int .i64 0, Value.int .i64 0, Value.int .i64 0, Value.slice none 0 0] 59)).drew p2 c2 (F2.out.below (HBr2.out.trans (hb0.mono HBr2.out.size)))).mono ?_
          rintro e B ⟨u2, v2, rfl, hg, hb⟩
          have hsz : (E1.alloc (.cells #[Value.string ⟨#[]⟩, Value.bool false, Value.int .i64 0, Value.int .i64 0, Value.int .i64 0, Value.int .i64 0, Value.slice none 0 0] 59)).drew.heap.size = E1.heap.size + 1 := World.size_alloc _ _
          have HUB := Lib.hid (hb0.trans (hb.mono hb0.size))
          have BXZ := Lib.hid ((show BoxN (E1.alloc (.cells #[Value.string ⟨#[]⟩, Value.bool false, Value.int .i64 0, Value.int .i64 0, Value.int .i64 0, Value.int .i64 0, Value.slice none 0 0] 59)).drew E1.heap.size 59 [Value.string ⟨#[]⟩, Value.bool false, Value.int .i64 0, Value.int .i64 0, Value.int .i64 0, Value.int .i64 0, Value.slice none 0 0] from BoxN.new E1 59 [Value.string ⟨#[]⟩, Value.bool false, Value.int .i64 0, Value.int .i64 0, Value.int .i64 0, Value.int .i64 0, Value.slice none 0 0]).below hb (by omega))
          have GB := Lib.hid (show FdS (fun bl => bl ≠ E1.heap.size) B (bareF g) [.string (bareF g).nm, .bool (bareF g).nl, .int .i64 (bareF g).k, .int .i64 (bareF g).wd, .int .i64 (bareF g).id, .int .i64 (bareF g).ix, .slice u2 (bareF g).kids.length v2] from hg.mono (fun bl hs => by omega))
          clear hg hb hb0 hsz
          obtain ⟨x2, hx⟩ : ∃ x, x = E1.heap.size := ⟨_, rfl⟩
          have HX2 := Lib.hid (show E1.heap.size ≤ x2 by omega)
          rw [← hx] at BXZ GB ⊢
          clear hx
          have HSB := Lib.hid (HS0.out.below (HBr2.out.trans (HUB.out.mono HBr2.out.size)))
          refine hK _ _ (fun _ => HSB.out) ?_
          clear hK K
          have kk0 : B.cell? ⟨x2, 0, none⟩ = some _ := BXZ.out.row 0 _ rfl
          have kk1 : B.cell? ⟨x2, 1, none⟩ = some _ := BXZ.out.row 1 _ rfl
          have kk2 : B.cell? ⟨x2, 2, none⟩ = some _ := BXZ.out.row 2 _ rfl
          have kk3 : B.cell? ⟨x2, 3, none⟩ = some _ := BXZ.out.row 3 _ rfl
          have kk4 : B.cell? ⟨x2, 4, none⟩ = some _ := BXZ.out.row 4 _ rfl
          have kk5 : B.cell? ⟨x2, 5, none⟩ = some _ := BXZ.out.row 5 _ rfl
          have kk6 : B.cell? ⟨x2, 6, none⟩ = some _ := BXZ.out.row 6 _ rfl
          have z0 : B.frozen? ⟨x2, 0, none⟩ = false := BXZ.out.frozen 0
          have z1 : B.frozen? ⟨x2, 1, none⟩ = false := BXZ.out.frozen 1
          have z2 : B.frozen? ⟨x2, 2, none⟩ = false := BXZ.out.frozen 2
          have z3 : B.frozen? ⟨x2, 3, none⟩ = false := BXZ.out.frozen 3
          have z4 : B.frozen? ⟨x2, 4, none⟩ = false := BXZ.out.frozen 4
          have z5 : B.frozen? ⟨x2, 5, none⟩ = false := BXZ.out.frozen 5
          have z6 : B.frozen? ⟨x2, 6, none⟩ = false := BXZ.out.frozen 6
          refine Late.one (i := 12) (by kernel_rfl) rfl (fun K hK => ?_)
          go_simp
          obtain ⟨E2, hE⟩ : ∃ E, E = put7 B x2 (.string (bareF g).nm) (.bool (bareF g).nl) (.int .i64 (bareF g).k) (.int .i64 (bareF g).wd) (.int .i64 (bareF g).id) (.int .i64 (bareF g).ix) (.slice u2 (bareF g).kids.length v2) := ⟨_, rfl⟩
          have BX2 := Lib.hid (show BoxN E2 x2 59 [.string (bareF g).nm, .bool (bareF g).nl, .int .i64 (bareF g).k, .int .i64 (bareF g).wd, .int .i64 (bareF g).id, .int .i64 (bareF g).ix, .slice u2 (bareF g).kids.length v2] by rw [hE]; exact put7_box rfl BXZ.out _ _ _ _ _ _ _)
          have hUE : Below E1.heap.size E1 E2 := by rw [hE]; exact put7_below HUB.out HX2.out _ _ _ _ _ _ _
          have G2 := Lib.hid (show FdAt E2 (bareF g) [.string (bareF g).nm, .bool (bareF g).nl, .int .i64 (bareF g).k, .int .i64 (bareF g).wd, .int .i64 (bareF g).id, .int .i64 (bareF g).ix, .slice u2 (bareF g).kids.length v2] by rw [hE]; exact (GB.out.keep (T := fun _ => True) (fun bl hs hlt => ⟨put7_other hs _ _ _ _ _ _ _, trivial⟩)).at)
          have hEq : ((((((B.setCell ⟨x2, 0, none⟩ (.string (bareF g).nm)).setCell ⟨x2, 1, none⟩ (.bool (bareF g).nl)).setCell ⟨x2, 2, none⟩ (.int .i64 (bareF g).k)).setCell ⟨x2, 3, none⟩ (.int .i64 (bareF g).wd)).setCell ⟨x2, 4, none⟩ (.int .i64 (bareF g).id)).setCell ⟨x2, 5, none⟩ (.int .i64 (bareF g).ix)).setCell ⟨x2, 6, none⟩ (.slice u2 (bareF g).kids.length v2) = E2 := by rw [hE]; rfl
          rw [hEq]
          clear hEq hE kk0 z0 kk1 z1 kk2 z2 kk3 z3 kk4 z4 kk5 z5 kk6 z6
          have HBr3 := Lib.hid (HBr2.out.trans (hUE.mono HBr2.out.size))
          have BX1 := Lib.hid (BX1.out.below hUE BX1.out.lt)
          have G1 := Lib.hid (G1.out.below hUE)
          have HSE := Lib.hid (HS0.out.below HBr3.out)
          refine hK _ _ (fun _ => HSE.out) ?_
          clear hK K BXZ GB HUB HSB HSE hUE
          refine Late.done (by kernel_rfl) ?_ _
          clear HSd
          have y12 := BX1.out.row 2 _ rfl
          have y13 := BX1.out.row 3 _ rfl
          have y14 := BX1.out.row 4 _ rfl
          have y15 := BX1.out.row 5 _ rfl
          have y16 := BX1.out.row 6 _ rfl
          have hl1' := BX1.out.lt
          have y22 := BX2.out.row 2 _ rfl
          have y23 := BX2.out.row 3 _ rfl
          have y24 := BX2.out.row 4 _ rfl
          have y25 := BX2.out.row 5 _ rfl
          have y26 := BX2.out.row 6 _ rfl
          have hl2' := BX2.out.lt
          go_wp2_with fail
          refine (ralike_calls G1.out G2.out (by rw [FL1.out.1, FL2.out.1]) (by rw [FL1.out.2, FL2.out.2])).mono ?_
          rintro e W9 ⟨rfl, hb9⟩
          have HB9 := Lib.hid (HB.out.trans ((HBr3.out.trans (hb9.mono HBr3.out.size)).mono HB.out.size))
          have HBo9 := Lib.hid (HBo.out.trans ((HBr3.out.trans (hb9.mono HBr3.out.size)).mono HBo.out.size))
          clear hb9 y12 y13 y14 y15 y16 y22 y23 y24 y25 y26 hl1' hl2'
          generalize eqT (bareF f) (bareF g) = t at *
          cases t with
          | true =>
            have HN := Lib.hid (Next.out rfl)
            clear Next Bad
            go_wp2_with fail
            go_round
            case rel => exact ⟨k + 1, by omega, by go_num, HBo9, HN⟩
            case measure => simp [intOf]; omega
          | false =>
            have HN := Lib.hid (show askedE kind L1 K1 L2 K2 = 6 by rw [HE.out, Bad.out rfl]; rfl)
            clear Next Bad
            go_wp2_with fail
            go_ret
            exact int_post HN.out.symm HB9.out
    · have HN := Lib.hid (show askedE kind L1 K1 L2 K2 = 0 by rw [HE.out, GOOD.out (fun j a b h1 h2 ha hb e1 e2 => HA.out j a b h1 h2 ha hb e1 e2 (by omega)) (by first | rfl | trivial) (by first | rfl | trivial)]; rfl)
      go_wp2_with fail
      go_ret
      exact int_post HN.out.symm HB.out

end Go.Fld
