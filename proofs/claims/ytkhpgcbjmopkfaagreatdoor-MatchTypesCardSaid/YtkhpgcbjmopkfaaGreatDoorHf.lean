import Derived.Test.YtkhpgcbjmopkfaaGreatDoorHk
set_option linter.unusedVariables false
set_option maxRecDepth 100000
/-!
  WHAT IS WRONG WITH A KIND AND KEYS: the program's answer. No conditions.
-/
namespace Go.Fld
open Go Go.RowKit Go.Proofs Go.ChangeShapes Go.WideShapes Go.ChangeAt Go.Shelf

/-- What a round of the program's loop over keys reads. -/
def PairAt (W : World) (x y b1 o1 n1 fc1 b2 o2 n2 fc2 bk ok m2 kc2 k a b : Nat) (f : Fd) (p1 : Option Addr) (c1 : Nat) (g : Fd) (p2 : Option Addr) (c2 : Nat) : Prop :=
  (W.cell? ⟨x, 0, none⟩ = some (.slice (some ⟨b1, o1, none⟩) n1 fc1) ∧ W.cell? ⟨y, 0, none⟩ = some (.slice (some ⟨b2, o2, none⟩) n2 fc2) ∧ W.cell? ⟨y, 2, none⟩ = some (.slice (some ⟨bk, ok, none⟩) m2 kc2) ∧ W.cell? ⟨bk, ok + k, none⟩ = some (.int .i64 b)) ∧ (W.cell? ⟨b1, o1 + a * 7, none⟩ = some (.string f.nm) ∧ W.cell? ⟨b1, o1 + a * 7 + 1, none⟩ = some (.bool f.nl) ∧ W.cell? ⟨b1, o1 + a * 7 + 2, none⟩ = some (.int .i64 f.k) ∧ W.cell? ⟨b1, o1 + a * 7 + 3, none⟩ = some (.int .i64 f.wd) ∧ W.cell? ⟨b1, o1 + a * 7 + 4, none⟩ = some (.int .i64 f.id) ∧ W.cell? ⟨b1, o1 + a * 7 + 5, none⟩ = some (.int .i64 f.ix) ∧ W.cell? ⟨b1, o1 + a * 7 + 6, none⟩ = some (.slice p1 f.kids.length c1)) ∧ (W.cell? ⟨b2, o2 + b * 7, none⟩ = some (.string g.nm) ∧ W.cell? ⟨b2, o2 + b * 7 + 1, none⟩ = some (.bool g.nl) ∧ W.cell? ⟨b2, o2 + b * 7 + 2, none⟩ = some (.int .i64 g.k) ∧ W.cell? ⟨b2, o2 + b * 7 + 3, none⟩ = some (.int .i64 g.wd) ∧ W.cell? ⟨b2, o2 + b * 7 + 4, none⟩ = some (.int .i64 g.id) ∧ W.cell? ⟨b2, o2 + b * 7 + 5, none⟩ = some (.int .i64 g.ix) ∧ W.cell? ⟨b2, o2 + b * 7 + 6, none⟩ = some (.slice p2 g.kids.length c2))
theorem PairAt.below {W U : World} {x y b1 o1 n1 fc1 b2 o2 n2 fc2 bk ok m2 kc2 k a b : Nat} {f : Fd} {p1 : Option Addr} {c1 : Nat} {g : Fd} {p2 : Option Addr} {c2 : Nat} (h : PairAt W x y b1 o1 n1 fc1 b2 o2 n2 fc2 bk ok m2 kc2 k a b f p1 c1 g p2 c2) (hb : Below W.heap.size W U) : PairAt U x y b1 o1 n1 fc1 b2 o2 n2 fc2 bk ok m2 kc2 k a b f p1 c1 g p2 c2 := by
  obtain ⟨⟨r0, r1, r2, r3⟩, ⟨s0, s1, s2, s3, s4, s5, s6⟩, ⟨t0, t1, t2, t3, t4, t5, t6⟩⟩ := h
  exact ⟨⟨cell_below hb r0, cell_below hb r1, cell_below hb r2, cell_below hb r3⟩, ⟨cell_below hb s0, cell_below hb s1, cell_below hb s2, cell_below hb s3, cell_below hb s4, cell_below hb s5, cell_below hb s6⟩, ⟨cell_below hb t0, cell_below hb t1, cell_below hb t2, cell_below hb t3, cell_below hb t4, cell_below hb t5, cell_below hb t6⟩⟩

/-- What the program reads of two sides ahead of its loop. -/
def AskAt (W : World) (x y : Nat) (p1 : Option Addr) (n1 c1 : Nat) (q1 : Option Addr) (m1 d1 : Nat) (p2 : Option Addr) (n2 c2 : Nat) (q2 : Option Addr) (m2 d2 : Nat) : Prop :=
  W.cell? ⟨x, 0, none⟩ = some (.slice p1 n1 c1) ∧ W.cell? ⟨x, 2, none⟩ = some (.slice q1 m1 d1) ∧ W.cell? ⟨y, 0, none⟩ = some (.slice p2 n2 c2) ∧ W.cell? ⟨y, 2, none⟩ = some (.slice q2 m2 d2)

set_option maxHeartbeats 16000000 in
theorem asked_calls {w : World} {sa sb : Nat} {L1 L2 : List Fd} {K1 K2 : List Int} {f1 k1 f2 k2 : Value} (kind : Int)
    (x0 : w.cell? ⟨sa, 0, none⟩ = some f1) (x2 : w.cell? ⟨sa, 2, none⟩ = some k1) (y0 : w.cell? ⟨sb, 0, none⟩ = some f2) (y2 : w.cell? ⟨sb, 2, none⟩ = some k2)
    (hL1 : FdsAt w L1 f1) (hK1 : IntsAt w K1 k1) (hL2 : FdsAt w L2 f2) (hK2 : IntsAt w K2 k2) (o1 : okL L1) (o2 : okL L2) :
    Calls Tryz.prog 18 #[.int .i64 kind, .pointer (some ⟨sa, 0, none⟩), .pointer (some ⟨sb, 0, none⟩)] w (IntPost w (askedE kind L1 K1 L2 K2)) := by
  have HK1 := Lib.hid hK1
  have HK2 := Lib.hid hK2
  obtain ⟨fp1, fc1, rfl, hl1, hm1, hC1⟩ := hL1
  obtain ⟨fp2, fc2, rfl, hl2, hm2, hC2⟩ := hL2
  obtain ⟨kp1, kc1, rfl, kl1, km1, hD1⟩ := hK1
  obtain ⟨kp2, kc2, rfl, kl2, km2, hD2⟩ := hK2
  unfold maxLen at hm1 hm2 km1 km2
  have X0 := Lib.hid x0
  have X2 := Lib.hid x2
  have Y0 := Lib.hid y0
  have Y2 := Lib.hid y2
  have HC1 := Lib.hid hC1
  have HC2 := Lib.hid hC2
  have HD1 := Lib.hid hD1
  have HD2 := Lib.hid hD2
  have HO1 := Lib.hid o1
  have HO2 := Lib.hid o2
  have hsa := World.block_lt_of_cell? w _ x0
  have hsb := World.block_lt_of_cell? w _ y0
  clear hC1 hC2 hD1 hD2 o1 o2
  by_cases hk1 : kind < 1
  · have HE := Lib.hid (show askedE kind L1 K1 L2 K2 = 1 by unfold askedE; rw [if_pos (.inl hk1)])
    go_enter Tryz.func18, Tryz.ntmps18
    go_wp2_with fail
    go_ret
    exact int_post HE.out.symm (Below.refl _ _)
  by_cases hk5 : 5 < kind
  · have HE := Lib.hid (show askedE kind L1 K1 L2 K2 = 1 by unfold askedE; rw [if_pos (.inr hk5)])
    go_enter Tryz.func18, Tryz.ntmps18
    go_wp2_with fail
    go_ret
    exact int_post HE.out.symm (Below.refl _ _)
  have HKD := Lib.hid (show askedE kind L1 K1 L2 K2 = if (K1.length ≠ K2.length ∨ K1.length = 0 ∨ 8 < K1.length) ∨ (keysB L1.length K1 = false ∨ keysB L2.length K2 = false) then 190 else if alikeB L1 K1 L2 K2 = true then 0 else 6 by unfold askedE; rw [if_neg (by omega)])
  by_cases hln : K1.length ≠ K2.length
  · have HE := Lib.hid (show askedE kind L1 K1 L2 K2 = 190 by rw [HKD.out, if_pos (.inl (.inl hln))])
    have n1 : ((K1.length : Int) != (K2.length : Int)) = true := by simp; omega
    have n2 : ((K1.length : Int) == (K2.length : Int)) = false := by simp; omega
    go_enter Tryz.func18, Tryz.ntmps18
    go_wp2_with fail
    go_quiet (fail)
    go_wp2_with fail
    go_ret
    exact int_post HE.out.symm (below_drewN (Below.refl _ _) _)
  have n1 : ((K1.length : Int) != (K2.length : Int)) = false := by simp; omega
  have n2 : ((K1.length : Int) == (K2.length : Int)) = true := by simp; omega
  by_cases hl0 : K1.length = 0
  · have HE := Lib.hid (show askedE kind L1 K1 L2 K2 = 190 by rw [HKD.out, if_pos (.inl (.inr (.inl hl0)))])
    have n3 : ((K1.length : Int) == 0) = true := by simp [hl0]
    clear hl0
    go_enter Tryz.func18, Tryz.ntmps18
    go_wp2_with fail
    go_quiet (fail)
    go_wp2_with fail
    go_ret
    exact int_post HE.out.symm (below_drewN (Below.refl _ _) _)
  have n3 : ((K1.length : Int) == 0) = false := beq_eq_false_iff_ne.2 (by omega)
  by_cases hl8 : 8 < K1.length
  · have HE := Lib.hid (show askedE kind L1 K1 L2 K2 = 190 by rw [HKD.out, if_pos (.inl (.inr (.inr hl8)))])
    have n5 : decide ((8 : Int) < (K1.length : Int)) = true := decide_eq_true (by omega)
    go_enter Tryz.func18, Tryz.ntmps18
    go_wp2_with fail
    go_quiet (fail)
    go_wp2_with fail
    go_ret
    exact int_post HE.out.symm (below_drewN (Below.refl _ _) _)
  have n5 : decide ((8 : Int) < (K1.length : Int)) = false := decide_eq_false (by omega)
  have HKD2 := Lib.hid (show askedE kind L1 K1 L2 K2 = if (keysB L1.length K1 = false ∨ keysB L2.length K2 = false) then 190 else if alikeB L1 K1 L2 K2 = true then 0 else 6 by
    rw [HKD.out]
    by_cases h : keysB L1.length K1 = false ∨ keysB L2.length K2 = false
    · rw [if_pos (.inr h), if_pos h]
    · rw [if_neg (by rintro (g | g); · omega
                     · exact h g), if_neg h])
  have KY1 := Lib.hid (keysB_iff (n := L1.length) (ks := K1))
  have KY2 := Lib.hid (keysB_iff (n := L2.length) (ks := K2))
  have GOOD := Lib.hid (alikeB_good (L1 := L1) (L2 := L2) (K1 := K1) (K2 := K2) (by omega))
  have HLE := Lib.hid (show K1.length = K2.length by omega)
  clear HKD hln
  cases kb1 : keysB L1.length K1 with
  | false =>
    have KB1 := Lib.hid kb1
    have HE := Lib.hid (show askedE kind L1 K1 L2 K2 = 190 by rw [HKD2.out, if_pos (.inl kb1)])
    clear HKD2 KY1 KY2 GOOD kb1
    go_enter Tryz.func18, Tryz.ntmps18
    go_wp2_with fail
    have N1 := Lib.hid (show ∀ n : Nat, Calls Tryz.prog 30 #[.pointer (some ⟨sa, 0, none⟩)] (w.drewN n) (fun e w' => e = .returned (.bool false) ∧ w' = w.drewN n) from fun n => by
      have h := names_calls (w := w.drewN n) (by omega) X0.out X2.out (HK1.out.below (below_drewN (Below.refl _ w) n))
      rw [KB1.out] at h
      exact h)
    go_quiet (first | (with_reducible exact Calls.quiet_of_same (N1.out _)))
    go_wp2_with fail
    go_ret
    exact int_post HE.out.symm (below_drewN (Below.refl _ _) _)
  | true =>
  have KB1 := Lib.hid kb1
  cases kb2 : keysB L2.length K2 with
  | false =>
    have KB2 := Lib.hid kb2
    have HE := Lib.hid (show askedE kind L1 K1 L2 K2 = 190 by rw [HKD2.out, if_pos (.inr kb2)])
    clear HKD2 KY1 KY2 GOOD kb1 kb2
    go_enter Tryz.func18, Tryz.ntmps18
    go_wp2_with fail
    have N1 := Lib.hid (show ∀ n : Nat, Calls Tryz.prog 30 #[.pointer (some ⟨sa, 0, none⟩)] (w.drewN n) (fun e w' => e = .returned (.bool true) ∧ w' = w.drewN n) from fun n => by
      have h := names_calls (w := w.drewN n) (by omega) X0.out X2.out (HK1.out.below (below_drewN (Below.refl _ w) n))
      rw [KB1.out] at h
      exact h)
    have N2 := Lib.hid (show ∀ n : Nat, Calls Tryz.prog 30 #[.pointer (some ⟨sb, 0, none⟩)] (w.drewN n) (fun e w' => e = .returned (.bool false) ∧ w' = w.drewN n) from fun n => by
      have h := names_calls (w := w.drewN n) (by omega) Y0.out Y2.out (HK2.out.below (below_drewN (Below.refl _ w) n))
      rw [KB2.out] at h
      exact h)
    go_quiet (first | (with_reducible exact Calls.quiet_of_same (N1.out _)) | (with_reducible exact Calls.quiet_of_same (N2.out _)))
    go_wp2_with fail
    go_ret
    exact int_post HE.out.symm (below_drewN (Below.refl _ _) _)
  | true =>
  have KB2 := Lib.hid kb2
  have HE := Lib.hid (show askedE kind L1 K1 L2 K2 = if alikeB L1 K1 L2 K2 = true then 0 else 6 by rw [HKD2.out, if_neg (by simp [kb1, kb2])])
  have KO1 := Lib.hid (KY1.out.1 kb1)
  have KO2 := Lib.hid (KY2.out.1 kb2)
  clear HKD2 KY1 KY2 kb1 kb2
  go_enter Tryz.func18, Tryz.ntmps18
  go_wp2_with fail
  have N1 := Lib.hid (show ∀ n : Nat, Calls Tryz.prog 30 #[.pointer (some ⟨sa, 0, none⟩)] (w.drewN n) (fun e w' => e = .returned (.bool true) ∧ w' = w.drewN n) from fun n => by
    have h := names_calls (w := w.drewN n) (by omega) X0.out X2.out (HK1.out.below (below_drewN (Below.refl _ w) n))
    rw [KB1.out] at h
    exact h)
  have N2 := Lib.hid (show ∀ n : Nat, Calls Tryz.prog 30 #[.pointer (some ⟨sb, 0, none⟩)] (w.drewN n) (fun e w' => e = .returned (.bool true) ∧ w' = w.drewN n) from fun n => by
    have h := names_calls (w := w.drewN n) (by omega) Y0.out Y2.out (HK2.out.below (below_drewN (Below.refl _ w) n))
    rw [KB2.out] at h
    exact h)
  go_quiet (first | (with_reducible exact Calls.quiet_of_same (N1.out _)) | (with_reducible exact Calls.quiet_of_same (N2.out _)))
  go_wp2_with fail
  clear n1 n2 n3 n5 x0 x2 y0 y2
  go_loopw [59] (fun i wr => ∃ k : Nat, k ≤ K1.length ∧ i = .int .i64 k ∧ Hid (Below w.heap.size w wr) ∧ Hid (∀ (j a b : Nat) (h1 : j < K1.length) (h2 : j < K2.length) (ha : a < L1.length) (hb : b < L2.length), K1[j] = a → K2[j] = b → j < k → eqT (bareF L1[a]) (bareF L2[b]) = true)) (fun i _ => K1.length - (intOf i).toNat)
  case atStart => exact ⟨0, by omega, rfl, Lib.hid (below_drewN (Below.refl _ _) _), Lib.hid (fun j a b _ _ _ _ _ _ h => absurd h (Nat.not_lt_zero _))⟩
  case round =>
    obtain ⟨k, hk, rfl, HB, HA⟩ := hrel
    by_cases hlt : k < K1.length
    · have hlt2 : k < K2.length := by have := HLE.out; omega
      obtain ⟨hxa, ba, oa, rfl, z0⟩ := HD1.out k hlt
      obtain ⟨hxb, bk, ok, rfl, z1⟩ := HD2.out k hlt2
      obtain ⟨⟨ka0, ka1⟩, _⟩ := KO1.out k hlt
      obtain ⟨⟨kb0, kb1⟩, _⟩ := KO2.out k hlt2
      obtain ⟨a, ea⟩ : ∃ a : Nat, K1[k] = a := ⟨K1[k].toNat, by omega⟩
      obtain ⟨b, eb⟩ : ∃ b : Nat, K2[k] = b := ⟨K2[k].toNat, by omega⟩
      have la : a < L1.length := by omega
      have lb : b < L2.length := by omega
      have Bad := Lib.hid (fun h => alikeB_bad hlt hlt2 ea eb la lb h)
      have Next := Lib.hid (show eqT (bareF L1[a]) (bareF L2[b]) = true → ∀ (j a b : Nat) (h1 : j < K1.length) (h2 : j < K2.length) (ha : a < L1.length) (hb : b < L2.length), K1[j] = a → K2[j] = b → j < k + 1 → eqT (bareF L1[a]) (bareF L2[b]) = true from fun ht j a' b' h1 h2 ha hb e1 e2 hjk => by
        by_cases e : j = k
        · subst e
          obtain rfl : a = a' := by omega
          obtain rfl : b = b' := by omega
          exact ht
        · exact HA.out j a' b' h1 h2 ha hb e1 e2 (by omega))
      rw [ea] at z0 hxa
      rw [eb] at z1 hxb
      clear ka0 ka1 kb0 kb1 ea eb
      obtain ⟨b1, o1, p1, c1, rfl, g1, s0, s1, s2, s3, s4, s5, s6⟩ := HC1.out.seven a la
      obtain ⟨b2, o2, p2, c2, rfl, g2, t0, t1, t2, t3, t4, t5, t6⟩ := HC2.out.seven b lb
      have OK1 := Lib.hid (okL_mem HO1.out _ (List.getElem_mem la))
      have OK2 := Lib.hid (okL_mem HO2.out _ (List.getElem_mem lb))
      have F1 := Lib.hid (g1.below HB.out)
      have F2 := Lib.hid (g2.below HB.out)
      generalize L1[a] = f at *
      generalize L2[b] = g at *
      have x0 := cell_below HB.out X0.out
      have y0 := cell_below HB.out Y0.out
      have y2 := cell_below HB.out Y2.out
      have z0 := cell_below HB.out z0
      have z1 := cell_below HB.out z1
      have hs : PairAt wr.drew sa sb b1 o1 L1.length fc1 b2 o2 L2.length fc2 bk ok K2.length kc2 k a b f p1 c1 g p2 c2 :=
        ⟨⟨x0, y0, y2, z1⟩, ⟨cell_below HB.out s0, cell_below HB.out s1, cell_below HB.out s2, cell_below HB.out s3, cell_below HB.out s4, cell_below HB.out s5, cell_below HB.out s6⟩, ⟨cell_below HB.out t0, cell_below HB.out t1, cell_below HB.out t2, cell_below HB.out t3, cell_below HB.out t4, cell_below HB.out t5, cell_below HB.out t6⟩⟩
      have HS0 := Lib.hid hs
      clear s0 s1 s2 s3 s4 s5 s6 t0 t1 t2 t3 t4 t5 t6 g1 g2 hs x0 y0 y2 z1
      go_wp2_with fail
      clear z0
      refine Late.region (fun w' => PairAt w' sa sb b1 o1 L1.length fc1 b2 o2 L2.length fc2 bk ok K2.length kc2 k a b f p1 c1 g p2 c2) (fun _ => false) (by kernel_rfl) ?_
      refine Late.take (i := 0) (v := ?_) rfl (by kernel_rfl) (by kernel_rfl) (by kernel_rfl) (by kernel_rfl) (fun _ _ _ h => h) (Or.inl ⟨by rfl, ?_⟩) HS0.out ?_
      rotate_left
      · intro w' hS
        obtain ⟨⟨r0, r1, r2, r3⟩, ⟨s0, s1, s2, s3, s4, s5, s6⟩, ⟨t0, t1, t2, t3, t4, t5, t6⟩⟩ := hS
        go_simp
        rfl
      refine Late.take (i := 1) (v := ?_) rfl (by kernel_rfl) (by kernel_rfl) (by kernel_rfl) (by kernel_rfl) (fun _ _ _ h => h) (Or.inl ⟨by rfl, ?_⟩) HS0.out ?_
      rotate_left
      · intro w' hS
        obtain ⟨⟨r0, r1, r2, r3⟩, ⟨s0, s1, s2, s3, s4, s5, s6⟩, ⟨t0, t1, t2, t3, t4, t5, t6⟩⟩ := hS
        go_simp
        rfl
      refine Late.take (i := 2) (v := ?_) rfl (by kernel_rfl) (by kernel_rfl) (by kernel_rfl) (by kernel_rfl) (fun _ _ _ h => h) (Or.inl ⟨by rfl, ?_⟩) HS0.out ?_
      rotate_left
      · intro w' hS
        obtain ⟨⟨r0, r1, r2, r3⟩, ⟨s0, s1, s2, s3, s4, s5, s6⟩, ⟨t0, t1, t2, t3, t4, t5, t6⟩⟩ := hS
        go_simp
        rfl
      refine Late.take (i := 3) (v := ?_) rfl (by kernel_rfl) (by kernel_rfl) (by kernel_rfl) (by kernel_rfl) (fun _ _ _ h => h) (Or.inl ⟨by rfl, ?_⟩) HS0.out ?_
      rotate_left
      · intro w' hS
        obtain ⟨⟨r0, r1, r2, r3⟩, ⟨s0, s1, s2, s3, s4, s5, s6⟩, ⟨t0, t1, t2, t3, t4, t5, t6⟩⟩ := hS
        go_simp
        rfl
      refine Late.take (i := 4) (v := ?_) rfl (by kernel_rfl) (by kernel_rfl) (by kernel_rfl) (by kernel_rfl) (fun _ _ _ h => h) (Or.inl ⟨by rfl, ?_⟩) HS0.out ?_
      rotate_left
      · intro w' hS
        obtain ⟨⟨r0, r1, r2, r3⟩, ⟨s0, s1, s2, s3, s4, s5, s6⟩, ⟨t0, t1, t2, t3, t4, t5, t6⟩⟩ := hS
        go_simp
        rfl
      refine Late.take (i := 5) (v := ?_) rfl (by kernel_rfl) (by kernel_rfl) (by kernel_rfl) (by kernel_rfl) (fun _ _ _ h => h) (Or.inl ⟨by rfl, ?_⟩) HS0.out ?_
      rotate_left
      · intro w' hS
        obtain ⟨⟨r0, r1, r2, r3⟩, ⟨s0, s1, s2, s3, s4, s5, s6⟩, ⟨t0, t1, t2, t3, t4, t5, t6⟩⟩ := hS
        go_simp
        rfl
      refine Late.take (i := 6) (v := ?_) rfl (by kernel_rfl) (by kernel_rfl) (by kernel_rfl) (by kernel_rfl) (fun _ _ _ h => h) (Or.inl ⟨by rfl, ?_⟩) HS0.out ?_
      rotate_left
      · intro w' hS
        obtain ⟨⟨r0, r1, r2, r3⟩, ⟨s0, s1, s2, s3, s4, s5, s6⟩, ⟨t0, t1, t2, t3, t4, t5, t6⟩⟩ := hS
        go_simp
        rfl
      refine Late.take (i := 7) (v := ?_) rfl (by kernel_rfl) (by kernel_rfl) (by kernel_rfl) (by kernel_rfl) (fun _ _ _ h => h) (Or.inl ⟨by rfl, ?_⟩) HS0.out ?_
      rotate_left
      · intro w' hS
        obtain ⟨⟨r0, r1, r2, r3⟩, ⟨s0, s1, s2, s3, s4, s5, s6⟩, ⟨t0, t1, t2, t3, t4, t5, t6⟩⟩ := hS
        go_simp
        rfl
      refine Late.take (i := 10) (v := ?_) rfl (by kernel_rfl) (by kernel_rfl) (by kernel_rfl) (by kernel_rfl) (fun _ _ _ h => h) (Or.inl ⟨by rfl, ?_⟩) HS0.out ?_
      rotate_left
      · intro w' hS
        obtain ⟨⟨r0, r1, r2, r3⟩, ⟨s0, s1, s2, s3, s4, s5, s6⟩, ⟨t0, t1, t2, t3, t4, t5, t6⟩⟩ := hS
        go_simp
        rfl
      refine Late.take (i := 11) (v := ?_) rfl (by kernel_rfl) (by kernel_rfl) (by kernel_rfl) (by kernel_rfl) (fun _ _ _ h => h) (Or.inl ⟨by rfl, ?_⟩) HS0.out ?_
      rotate_left
      · intro w' hS
        obtain ⟨⟨r0, r1, r2, r3⟩, ⟨s0, s1, s2, s3, s4, s5, s6⟩, ⟨t0, t1, t2, t3, t4, t5, t6⟩⟩ := hS
        go_simp
        rfl
      refine Late.take (i := 12) (v := ?_) rfl (by kernel_rfl) (by kernel_rfl) (by kernel_rfl) (by kernel_rfl) (fun _ _ _ h => h) (Or.inl ⟨by rfl, ?_⟩) HS0.out ?_
      rotate_left
      · intro w' hS
        obtain ⟨⟨r0, r1, r2, r3⟩, ⟨s0, s1, s2, s3, s4, s5, s6⟩, ⟨t0, t1, t2, t3, t4, t5, t6⟩⟩ := hS
        go_simp
        rfl
      refine Late.take (i := 13) (v := ?_) rfl (by kernel_rfl) (by kernel_rfl) (by kernel_rfl) (by kernel_rfl) (fun _ _ _ h => h) (Or.inl ⟨by rfl, ?_⟩) HS0.out ?_
      rotate_left
      · intro w' hS
        obtain ⟨⟨r0, r1, r2, r3⟩, ⟨s0, s1, s2, s3, s4, s5, s6⟩, ⟨t0, t1, t2, t3, t4, t5, t6⟩⟩ := hS
        go_simp
        rfl
      refine Late.take (i := 14) (v := ?_) rfl (by kernel_rfl) (by kernel_rfl) (by kernel_rfl) (by kernel_rfl) (fun _ _ _ h => h) (Or.inl ⟨by rfl, ?_⟩) HS0.out ?_
      rotate_left
      · intro w' hS
        obtain ⟨⟨r0, r1, r2, r3⟩, ⟨s0, s1, s2, s3, s4, s5, s6⟩, ⟨t0, t1, t2, t3, t4, t5, t6⟩⟩ := hS
        go_simp
        rfl
      refine Late.take (i := 15) (v := ?_) rfl (by kernel_rfl) (by kernel_rfl) (by kernel_rfl) (by kernel_rfl) (fun _ _ _ h => h) (Or.inl ⟨by rfl, ?_⟩) HS0.out ?_
      rotate_left
      · intro w' hS
        obtain ⟨⟨r0, r1, r2, r3⟩, ⟨s0, s1, s2, s3, s4, s5, s6⟩, ⟨t0, t1, t2, t3, t4, t5, t6⟩⟩ := hS
        go_simp
        rfl
      refine Late.take (i := 16) (v := ?_) rfl (by kernel_rfl) (by kernel_rfl) (by kernel_rfl) (by kernel_rfl) (fun _ _ _ h => h) (Or.inl ⟨by rfl, ?_⟩) HS0.out ?_
      rotate_left
      · intro w' hS
        obtain ⟨⟨r0, r1, r2, r3⟩, ⟨s0, s1, s2, s3, s4, s5, s6⟩, ⟨t0, t1, t2, t3, t4, t5, t6⟩⟩ := hS
        go_simp
        rfl
      refine Late.take (i := 17) (v := ?_) rfl (by kernel_rfl) (by kernel_rfl) (by kernel_rfl) (by kernel_rfl) (fun _ _ _ h => h) (Or.inl ⟨by rfl, ?_⟩) HS0.out ?_
      rotate_left
      · intro w' hS
        obtain ⟨⟨r0, r1, r2, r3⟩, ⟨s0, s1, s2, s3, s4, s5, s6⟩, ⟨t0, t1, t2, t3, t4, t5, t6⟩⟩ := hS
        go_simp
        rfl
      refine Late.take (i := 18) (v := ?_) rfl (by kernel_rfl) (by kernel_rfl) (by kernel_rfl) (by kernel_rfl) (fun _ _ _ h => h) (Or.inl ⟨by rfl, ?_⟩) HS0.out ?_
      rotate_left
      · intro w' hS
        obtain ⟨⟨r0, r1, r2, r3⟩, ⟨s0, s1, s2, s3, s4, s5, s6⟩, ⟨t0, t1, t2, t3, t4, t5, t6⟩⟩ := hS
        go_simp
        rfl
      refine Late.take (i := 19) (v := ?_) rfl (by kernel_rfl) (by kernel_rfl) (by kernel_rfl) (by kernel_rfl) (fun _ _ _ h => h) (Or.inl ⟨by rfl, ?_⟩) HS0.out ?_
      rotate_left
      · intro w' hS
        obtain ⟨⟨r0, r1, r2, r3⟩, ⟨s0, s1, s2, s3, s4, s5, s6⟩, ⟨t0, t1, t2, t3, t4, t5, t6⟩⟩ := hS
        go_simp
        rfl
      refine Late.take (i := 20) (v := ?_) rfl (by kernel_rfl) (by kernel_rfl) (by kernel_rfl) (by kernel_rfl) (fun _ _ _ h => h) (Or.inl ⟨by rfl, ?_⟩) HS0.out ?_
      rotate_left
      · intro w' hS
        obtain ⟨⟨r0, r1, r2, r3⟩, ⟨s0, s1, s2, s3, s4, s5, s6⟩, ⟨t0, t1, t2, t3, t4, t5, t6⟩⟩ := hS
        go_simp
        rfl
      refine Late.take (i := 21) (v := ?_) rfl (by kernel_rfl) (by kernel_rfl) (by kernel_rfl) (by kernel_rfl) (fun _ _ _ h => h) (Or.inl ⟨by rfl, ?_⟩) HS0.out ?_
      rotate_left
      · intro w' hS
        obtain ⟨⟨r0, r1, r2, r3⟩, ⟨s0, s1, s2, s3, s4, s5, s6⟩, ⟨t0, t1, t2, t3, t4, t5, t6⟩⟩ := hS
        go_simp
        rfl
      refine Late.take (i := 22) (v := ?_) rfl (by kernel_rfl) (by kernel_rfl) (by kernel_rfl) (by kernel_rfl) (fun _ _ _ h => h) (Or.inl ⟨by rfl, ?_⟩) HS0.out ?_
      rotate_left
      · intro w' hS
        obtain ⟨⟨r0, r1, r2, r3⟩, ⟨s0, s1, s2, s3, s4, s5, s6⟩, ⟨t0, t1, t2, t3, t4, t5, t6⟩⟩ := hS
        go_simp
        rfl
      refine Late.take (i := 23) (v := ?_) rfl (by kernel_rfl) (by kernel_rfl) (by kernel_rfl) (by kernel_rfl) (fun _ _ _ h => h) (Or.inl ⟨by rfl, ?_⟩) HS0.out ?_
      rotate_left
      · intro w' hS
        obtain ⟨⟨r0, r1, r2, r3⟩, ⟨s0, s1, s2, s3, s4, s5, s6⟩, ⟨t0, t1, t2, t3, t4, t5, t6⟩⟩ := hS
        go_simp
        rfl
      refine Late.one (i := 8) (by kernel_rfl) rfl (fun K hK => ?_)
      go_simp
      refine (bare_calls f OK1.out wr.drew p1 c1 (F1.out.below (w' := wr.drew) (below_drew (Below.refl _ wr)))).mono ?_
      rintro e W2 ⟨u1, v1, rfl, hg1, hb2⟩
      have HS2 := Lib.hid (HS0.out.below hb2)
      have HB2 := Lib.hid ((below_drew HB.out).trans (hb2.mono HB.out.size))
      have G1 := Lib.hid hg1.at
      have F2 := Lib.hid ((F2.out.below (w' := wr.drew) (below_drew (Below.refl _ wr))).below hb2)
      clear hg1 hb2
      refine hK _ _ (fun _ => HS2.out) ?_
      clear hK K
      have hfd := fun w' => field59_2 (.string (bareF f).nm) (.bool (bareF f).nl) (.int .i64 (bareF f).k) (.int .i64 (bareF f).wd) (.int .i64 (bareF f).id) (.int .i64 (bareF f).ix) (.slice u1 (bareF f).kids.length v1) w'
      refine Late.take (i := 9) (v := ?_) rfl (by kernel_rfl) (by kernel_rfl) (by kernel_rfl) (by kernel_rfl) (fun _ _ _ h => h) (Or.inl ⟨by rfl, ?_⟩) HS2.out ?_
      rotate_left
      · intro w' hS
        obtain ⟨⟨r0, r1, r2, r3⟩, ⟨s0, s1, s2, s3, s4, s5, s6⟩, ⟨t0, t1, t2, t3, t4, t5, t6⟩⟩ := hS
        go_simp
        rfl
      refine Late.one (i := 24) (by kernel_rfl) rfl (fun K hK => ?_)
      go_simp
      refine (bare_calls g OK2.out W2 p2 c2 F2.out).mono ?_
      rintro e W3 ⟨u2, v2, rfl, hg2, hb3⟩
      have HS3 := Lib.hid (HS2.out.below hb3)
      have HB3 := Lib.hid (HB2.out.trans (hb3.mono HB2.out.size))
      have G2 := Lib.hid hg2.at
      have G1 := Lib.hid (G1.out.below hb3)
      clear hg2 hb3
      refine hK _ _ (fun _ => HS3.out) ?_
      clear hK K
      have hfe := fun w' => field59_2 (.string (bareF g).nm) (.bool (bareF g).nl) (.int .i64 (bareF g).k) (.int .i64 (bareF g).wd) (.int .i64 (bareF g).id) (.int .i64 (bareF g).ix) (.slice u2 (bareF g).kids.length v2) w'
      refine Late.take (i := 25) (v := ?_) rfl (by kernel_rfl) (by kernel_rfl) (by kernel_rfl) (by kernel_rfl) (fun _ _ _ h => h) (Or.inl ⟨by rfl, ?_⟩) HS3.out ?_
      rotate_left
      · intro w' hS
        obtain ⟨⟨r0, r1, r2, r3⟩, ⟨s0, s1, s2, s3, s4, s5, s6⟩, ⟨t0, t1, t2, t3, t4, t5, t6⟩⟩ := hS
        go_simp
        rfl
      refine Late.one (i := 26) (by kernel_rfl) rfl (fun K hK => ?_)
      go_simp
      refine (alike_calls (bareF f) (bareF g) W3 u1 u2 v1 v2 G1.out G2.out).mono ?_
      rintro e W4 ⟨rfl, hb4⟩
      have HS4 := Lib.hid (HS3.out.below hb4)
      have HB4 := Lib.hid (HB3.out.trans (hb4.mono HB3.out.size))
      clear hb4 G1 G2 F1 F2 hfd hfe
      refine hK _ _ (fun _ => HS4.out) ?_
      clear hK K
      generalize eqT (bareF f) (bareF g) = t at *
      cases t with
      | true =>
        have HN := Lib.hid (Next.out rfl)
        clear Next Bad
        refine Late.take (i := 27) (v := ?_) rfl (by kernel_rfl) (by kernel_rfl) (by kernel_rfl) (by kernel_rfl) (fun _ _ _ h => h) (Or.inl ⟨by rfl, ?_⟩) HS4.out ?_
        rotate_left
        · intro w' hS
          obtain ⟨⟨r0, r1, r2, r3⟩, ⟨s0, s1, s2, s3, s4, s5, s6⟩, ⟨t0, t1, t2, t3, t4, t5, t6⟩⟩ := hS
          go_simp
          rfl
        refine Late.done (by kernel_rfl) ?_ _
        go_wp2_with fail
        go_round
        case rel => exact ⟨k + 1, by omega, by go_num, HB4, HN⟩
        case measure => simp [intOf]; omega
      | false =>
        have HN := Lib.hid (show askedE kind L1 K1 L2 K2 = 6 by rw [HE.out, Bad.out rfl]; rfl)
        clear Next Bad
        refine Late.take (i := 27) (v := ?_) rfl (by kernel_rfl) (by kernel_rfl) (by kernel_rfl) (by kernel_rfl) (fun _ _ _ h => h) (Or.inl ⟨by rfl, ?_⟩) HS4.out ?_
        rotate_left
        · intro w' hS
          obtain ⟨⟨r0, r1, r2, r3⟩, ⟨s0, s1, s2, s3, s4, s5, s6⟩, ⟨t0, t1, t2, t3, t4, t5, t6⟩⟩ := hS
          go_simp
          rfl
        refine Late.done (by kernel_rfl) ?_ _
        go_wp2_with fail
        go_ret
        exact int_post HN.out.symm HB4.out
    · have HN := Lib.hid (show askedE kind L1 K1 L2 K2 = 0 by rw [HE.out, GOOD.out (fun j a b h1 h2 ha hb e1 e2 => HA.out j a b h1 h2 ha hb e1 e2 (by omega)) KB1.out KB2.out]; rfl)
      go_wp2_with fail
      go_ret
      exact int_post HN.out.symm HB.out

end Go.Fld
