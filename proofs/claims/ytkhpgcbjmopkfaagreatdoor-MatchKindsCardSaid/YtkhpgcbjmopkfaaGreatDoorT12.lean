import Derived.Test.YtkhpgcbjmopkfaaGreatDoorT00
import Derived.Test.YtkhpgcbjmopkfaaGreatDoorT09
import Derived.Test.YtkhpgcbjmopkfaaGreatDoorT10
import Derived.Test.YtkhpgcbjmopkfaaGreatDoorT11
set_option linter.unusedVariables false
set_option linter.unusedSimpArgs false
set_option linter.unnecessarySimpa false
set_option maxRecDepth 100000
namespace Go.Fld
open Go Go.RowKit Go.Proofs Go.ChangeShapes Go.WideShapes Go.ChangeAt Go.Shelf
theorem askedE_zero {kind : Int} {L1 L2 : List Fd} {K1 K2 : List Int} (h : askedE kind L1 K1 L2 K2 = 0) : (1 ≤ kind ∧ kind ≤ 5) ∧ K1.length = K2.length ∧ KeysOk L1.length K1 ∧ KeysOk L2.length K2 := by
 unfold askedE at h
 by_cases h1 : kind < 1 ∨ 5 < kind
 ·rw [if_pos h1] at h; cases h
 rw [if_neg h1] at h
 by_cases h2 : (K1.length ≠ K2.length ∨ K1.length = 0 ∨ 8 < K1.length) ∨ (keysB L1.length K1 = false ∨ keysB L2.length K2 = false)
 ·rw [if_pos h2] at h; cases h
 refine ⟨by omega, ?_, keysB_iff.1 ?_, keysB_iff.1 ?_⟩
 ·by_cases e : K1.length = K2.length
  ·exact e
  ·exact absurd (.inl (.inl e)) h2
 ·cases hk : keysB L1.length K1 with
  | true => rfl
  | false => exact absurd (.inr (.inl hk)) h2
 ·cases hk : keysB L2.length K2 with
  | true => rfl
  | false => exact absurd (.inr (.inr hk)) h2
theorem FdS.relet {S : Nat → Prop} {W : World} {f : Fd} {p : Option Addr} {cap : Nat} (h : FdS S W f [.string f.nm, .bool f.nl, .int .i64 f.k, .int .i64 f.wd, .int .i64 f.id, .int .i64 f.ix, .slice p f.kids.length cap]) (nl : Bool) :
  FdS S W (f.named f.nm nl) [.string f.nm, .bool nl, .int .i64 f.k, .int .i64 f.wd, .int .i64 f.id, .int .i64 f.ix, .slice p f.kids.length cap] := by
 cases f with
 | mk nm nl' k wd id ix kids =>
  simp only [FdS] at h
  obtain ⟨h0, h1, h2, h3, h4, p', cap', e, h6, h7, h8⟩ := h
  have e6 : Value.slice p kids.length cap = Value.slice p' kids.length cap' := by
   have := congrArg (fun l => l[6]?) e
   simp at this
   rw [this.1, this.2.2]
  cases e6
  exact FdS.mk' h0 h1 h2 h3 h4 h6 h7 h8
theorem leftF_none {kind : Int} {K1 : List Int} {L2 : List Fd} {K2 : List Int} {k : Nat} {g : Fd} (hk : kind = 3) (h : idxI K1 k < 0) : leftF kind K1 L2 K2 k g = (bareF g).named (bareF g).nm true := by
 unfold leftF; rw [if_pos hk, decide_eq_true h]; rfl
theorem leftF_nl {kind : Int} {K1 : List Int} {L2 : List Fd} {K2 : List Int} {k : Nat} {g : Fd} (hk : kind = 3) (h : ¬ idxI K1 k < 0) (hn : (bareF g).nl = true) : leftF kind K1 L2 K2 k g = (bareF g).named (bareF g).nm true := by
 unfold leftF; rw [if_pos hk, hn, Bool.true_or, Bool.or_true]
theorem leftF_key {kind : Int} {K1 : List Int} {L2 : List Fd} {K2 : List Int} {k j c : Nat} {g : Fd} (hk : kind = 3) (hi : idxI K1 k = j) (hn : (bareF g).nl = false) (hj : j < K2.length) (hc : K2[j] = c) (hl : c < L2.length) : leftF kind K1 L2 K2 k g = (bareF g).named (bareF g).nm (bareF L2[c]).nl := by
 unfold leftF
 rw [if_pos hk, hi, hn, decide_eq_false (by omega)]
 simp [hj, hc, hl]
theorem idxAt_cases : ∀ (l : List Int) (v : Int) (k : Nat), idxAt l v k = -1 ∨ ∃ j, j < l.length ∧ idxAt l v k = ((k + j : Nat) : Int)
 | [], v, k => .inl rfl
 | x :: r, v, k => by
  unfold idxAt
  split
  ·exact .inr ⟨0, by simp, by simp⟩
  ·rcases idxAt_cases r v (k + 1) with h | ⟨j, h1, h2⟩
   ·exact .inl h
   ·exact .inr ⟨j + 1, by simpa using h1, by rw [h2]; congr 1; omega⟩
theorem idxI_some {l : List Int} {x : Int} (h : ¬ idxI l x < 0) : ∃ j : Nat, idxI l x = j ∧ j < l.length := by
 rcases idxAt_cases l x 0 with e | ⟨j, h1, h2⟩
 ·exact absurd (show idxI l x < 0 by unfold idxI; omega) h
 ·exact ⟨j, by unfold idxI; omega, h1⟩
theorem field59_1 (c0 c1 c2 c3 c4 c5 c6 : Value) (w : World) : (Instr.field 59 (.agg #[c0, c1, c2, c3, c4, c5, c6]) 1).run Tryz.prog w = .ok c1 w := by kernel_rfl
set_option maxHeartbeats 16000000 in
theorem type_calls {w : World} {L1 L2 : List Fd} {N1 N2 : List (ByteArray × ByteArray)} {K1 K2 : List Int} {f1 n1 k1 f2 n2 k2 : Value} (kind : Int) (hL1 : FdsAt w L1 f1) (hN1 : NtsAt w N1 n1) (hK1 : IntsAt w K1 k1) (hL2 : FdsAt w L2 f2) (hN2 : NtsAt w N2 n2) (hK2 : IntsAt w K2 k2) (hS : SaysAt w) :
  Calls Tryz.prog 8 #[.int .i64 kind, .agg #[f1, n1], k1, .agg #[f2, n2], k2] w (SchemaPost w (typeS kind L1 (sizesOf N1) K1 L2 (sizesOf N2) K2)) := by
 have HL1 := zh hL1
 have HL2 := zh hL2
 have HN1 := zh hN1
 have HN2 := zh hN2
 have HK1 := zh hK1
 have HK2 := zh hK2
 have HS := zh hS
 obtain ⟨fp1, fc1, rfl, -, -, -⟩ := hL1
 obtain ⟨fp2, fc2, rfl, -, -, -⟩ := hL2
 obtain ⟨np1, nc1, rfl, -, -, -⟩ := hN1
 obtain ⟨np2, nc2, rfl, -, -, -⟩ := hN2
 obtain ⟨kp1, kc1, rfl, -, -, -⟩ := hK1
 obtain ⟨kp2, kc2, rfl, -, -, -⟩ := hK2
 clear hS
 obtain ⟨W, hW⟩ : ∃ W, W = ((w.alloc (.cells #[.slice fp1 L1.length fc1, .slice np1 N1.length nc1] 26)).alloc (.cells #[.slice fp2 L2.length fc2, .slice np2 N2.length nc2] 26)).alloc (.cells #[.slice none 0 0, .slice none 0 0] 26) := ⟨_, rfl⟩
 have a1 : BoxN W w.heap.size 26 [.slice fp1 L1.length fc1, .slice np1 N1.length nc1] := by
  rw [hW]
  exact ((BoxN.new w 26 [.slice fp1 L1.length fc1, .slice np1 N1.length nc1]).alloc _).alloc _
 have a2 : BoxN W (w.heap.size + 1) 26 [.slice fp2 L2.length fc2, .slice np2 N2.length nc2] := by
  rw [hW]
  have := (BoxN.new (w.alloc (.cells #[.slice fp1 L1.length fc1, .slice np1 N1.length nc1] 26)) 26 [.slice fp2 L2.length fc2, .slice np2 N2.length nc2]).alloc (.cells #[.slice none 0 0, .slice none 0 0] 26)
  rwa [World.size_alloc] at this
 have a3 : BoxN W (w.heap.size + 1 + 1) 26 [.slice none 0 0, .slice none 0 0] := by
  rw [hW]
  have := BoxN.new ((w.alloc (.cells #[.slice fp1 L1.length fc1, .slice np1 N1.length nc1] 26)).alloc (.cells #[.slice fp2 L2.length fc2, .slice np2 N2.length nc2] 26)) 26 [.slice none 0 0, .slice none 0 0]
  rwa [World.size_alloc, World.size_alloc] at this
 have hBW : Below w.heap.size w W := by rw [hW]; exact (((Below.refl _ w).alloc (Nat.le_refl _) _).alloc (by simp) _).alloc (by simp; omega) _
 have A1 := zh a1
 have A2 := zh a2
 have A3 := zh a3
 have HBW := zh hBW
 have HW := zh hW
 clear a1 a2 a3 hBW hW
 go_enter Tryz.func8, Tryz.ntmps8
 go_wp2_with fail
 rw [← HW.o]
 clear HW
 refine (right_calls (HL1.o.below HBW.o) (HN1.o.below HBW.o) (HS.o.below HBW.o)).mono ?_
 rintro e W2 ⟨rfl, hb2⟩
 have HBU := zh hb2
 have HB2 := zh (HBW.o.trans (hb2.mono HBW.o.size))
 have B1 := A1.o.below hb2 A1.o.lt
 have B2 := A2.o.below hb2 A2.o.lt
 have B3 := A3.o.below hb2 A3.o.lt
 have BB3 := zh B3
 have r0 := B2.row 0 _ rfl
 have r1 := B2.row 1 _ rfl
 have q0 := B3.row 0 _ rfl
 have q1 := B3.row 1 _ rfl
 have z0 := B3.frozen 0
 have z1 := B3.frozen 1
 have hl2 := B2.lt
 have hl3 := B3.lt
 clear hb2 B1 B2 B3
 cases e1 : (schemaE L1 (sizesOf N1) == 0) with
 | false =>
  have HE := zh (show typeS kind L1 (sizesOf N1) K1 L2 (sizesOf N2) K2 = ([], 5) by unfold typeS; rw [if_pos (.inl (by simpa using e1))])
  clear e1
  go_wp2_with fail
  rw [HE.o]
  exact schema_back (i := 10) (j := 11) rfl (put2_box rfl BB3.o _ _) (put2_below HB2.o (by omega) _ _) (fds_none _) rfl rfl
 | true =>
 have E1 := zh e1
 clear e1
 go_wp2_with fail
 refine (right_calls (HL2.o.below HB2.o) (HN2.o.below HB2.o) (HS.o.below HB2.o)).mono ?_
 rintro e W3 ⟨rfl, hb3⟩
 have HBV := zh (HBU.o.trans (hb3.mono HBU.o.size))
 have HB3 := zh (HB2.o.trans (hb3.mono HB2.o.size))
 clear hb3 r0 r1 q0 q1 z0 z1 hl2 hl3 BB3
 have B1 := A1.o.below HBV.o A1.o.lt
 have B2 := A2.o.below HBV.o A2.o.lt
 have B3 := A3.o.below HBV.o A3.o.lt
 have BB3 := zh B3
 have p0 := B1.row 0 _ rfl
 have p1 := B1.row 1 _ rfl
 have r0 := B2.row 0 _ rfl
 have r1 := B2.row 1 _ rfl
 have q0 := B3.row 0 _ rfl
 have q1 := B3.row 1 _ rfl
 have z0 := B3.frozen 0
 have z1 := B3.frozen 1
 have hl1 := B1.lt
 have hl2 := B2.lt
 have hl3 := B3.lt
 clear B1 B2 B3
 cases e2 : (schemaE L2 (sizesOf N2) == 0) with
 | false =>
  have HE := zh (show typeS kind L1 (sizesOf N1) K1 L2 (sizesOf N2) K2 = ([], 5) by unfold typeS; rw [if_pos (.inr (by simpa using e2))])
  clear e2
  go_wp2_with fail
  rw [HE.o]
  exact schema_back (i := 10) (j := 11) rfl (put2_box rfl BB3.o _ _) (put2_below HB3.o (by omega) _ _) (fds_none _) rfl rfl
 | true =>
 have e1 := E1.o
 have M1 : schemaE L1 (sizesOf N1) = 0 := by simpa using e1
 have M2 : schemaE L2 (sizesOf N2) = 0 := by simpa using e2
 have O1 := zh (checkE_ok (schemaE_ok M1).1).1
 have O2 := zh (checkE_ok (schemaE_ok M2).1).1
 have S1 := zh (schemaE_ok M1).2
 have S2 := zh (schemaE_ok M2).2
 have HT := zh (show typeS kind L1 (sizesOf N1) K1 L2 (sizesOf N2) K2 = if askedE kind L1 K1 L2 K2 ≠ 0 then ([], askedE kind L1 K1 L2 K2) else if 4 ≤ kind then (L1, 0) else if schemaE (outL kind L1 K1 L2 K2) [] ≠ 0 then ([], schemaE (outL kind L1 K1 L2 K2) []) else (outL kind L1 K1 L2 K2, 0) by unfold typeS; rw [if_neg (by simp [M1, M2])])
 clear e1 e2 E1 M1 M2
 go_wp2_with fail
 obtain ⟨X, hX⟩ : ∃ X, X = (W3.alloc (.cells #[.slice fp1 L1.length fc1, .slice np1 N1.length nc1, .slice kp1 K1.length kc1, .slice none 0 0, .int .i64 0] 54)).alloc (.cells #[.slice fp2 L2.length fc2, .slice np2 N2.length nc2, .slice kp2 K2.length kc2, .slice none 0 0, .int .i64 0] 54) := ⟨_, rfl⟩
 have x1 : BoxN X W3.heap.size 54 [.slice fp1 L1.length fc1, .slice np1 N1.length nc1, .slice kp1 K1.length kc1, .slice none 0 0, .int .i64 0] := by
  rw [hX]
  exact (BoxN.new W3 54 [.slice fp1 L1.length fc1, .slice np1 N1.length nc1, .slice kp1 K1.length kc1, .slice none 0 0, .int .i64 0]).alloc _
 have x2 : BoxN X (W3.heap.size + 1) 54 [.slice fp2 L2.length fc2, .slice np2 N2.length nc2, .slice kp2 K2.length kc2, .slice none 0 0, .int .i64 0] := by
  rw [hX]
  have := BoxN.new (W3.alloc (.cells #[.slice fp1 L1.length fc1, .slice np1 N1.length nc1, .slice kp1 K1.length kc1, .slice none 0 0, .int .i64 0] 54)) 54 [.slice fp2 L2.length fc2, .slice np2 N2.length nc2, .slice kp2 K2.length kc2, .slice none 0 0, .int .i64 0]
  rwa [World.size_alloc] at this
 have hbX : Below W3.heap.size W3 X := by rw [hX]; exact ((Below.refl _ W3).alloc (Nat.le_refl _) _).alloc (by simp) _
 rw [← hX]
 clear hX
 have HBX := zh (HBV.o.trans (hbX.mono HBV.o.size))
 have HBXw := zh (HB3.o.trans (hbX.mono HB3.o.size))
 clear hbX p0 p1 r0 r1 q0 q1 z0 z1 hl1 hl2 hl3 BB3
 refine (asked_calls (w := X) (sa := W3.heap.size) (sb := W3.heap.size + 1) kind (x1.row 0 _ rfl) (x1.row 2 _ rfl) (x2.row 0 _ rfl) (x2.row 2 _ rfl) (HL1.o.below HBXw.o) (HK1.o.below HBXw.o) (HL2.o.below HBXw.o) (HK2.o.below HBXw.o) O1.o O2.o).mono ?_
 rintro e W4 ⟨rfl, hb4⟩
 have HB4 := zh (HBX.o.trans (hb4.mono HBX.o.size))
 have HB4w := zh (HBXw.o.trans (hb4.mono HBXw.o.size))
 clear x1 x2 hb4 HBX HBXw HBV HB3 HBU HB2
 have B1 := A1.o.below HB4.o A1.o.lt
 have B3 := A3.o.below HB4.o A3.o.lt
 have BB1 := zh B1
 have BB3 := zh B3
 have p0 := B1.row 0 _ rfl
 have q0 := B3.row 0 _ rfl
 have q1 := B3.row 1 _ rfl
 have z0 := B3.frozen 0
 have z1 := B3.frozen 1
 have hl1 := B1.lt
 have hl3 := B3.lt
 clear B1 B3
 have AZ := zh (@askedE_zero kind L1 L2 K1 K2)
 generalize askedE kind L1 K1 L2 K2 = er at *
 by_cases her : er ≠ 0
 ·have HE := zh (show typeS kind L1 (sizesOf N1) K1 L2 (sizesOf N2) K2 = ([], er) by rw [HT.o, if_pos her])
  have hx1 : (er != 0) = true := by simpa using her
  have hx2 : (er == 0) = false := by simpa using her
  clear HT AZ her
  go_wp2_with fail
  rw [HE.o]
  exact schema_back (i := 10) (j := 11) rfl (put2_box rfl BB3.o _ _) (put2_below HB4w.o (by omega) _ _) (fds_none _) rfl rfl
 have her : er = 0 := by omega
 obtain ⟨⟨hk1, hk5⟩, hKL, hK1, hK2⟩ := AZ.o her
 have HKL := zh hKL
 have HKO1 := zh hK1
 have HKO2 := zh hK2
 replace HT := zh (show typeS kind L1 (sizesOf N1) K1 L2 (sizesOf N2) K2 = if 4 ≤ kind then (L1, 0) else if schemaE (outL kind L1 K1 L2 K2) [] ≠ 0 then ([], schemaE (outL kind L1 K1 L2 K2) []) else (outL kind L1 K1 L2 K2, 0) by rw [HT.o, if_neg (by simp [her])])
 clear AZ hKL hK1 hK2
 subst her
 by_cases hk4 : 4 ≤ kind
 ·have HE := zh (show typeS kind L1 (sizesOf N1) K1 L2 (sizesOf N2) K2 = (L1, 0) by rw [HT.o, if_pos hk4])
  clear HT
  by_cases hk44 : kind = 4
  ·have b1 : (kind == 4) = true := by simpa using hk44
   clear hk44
   go_wp2_with fail
   refine (owneds_calls (HL1.o.below HB4w.o) O1.o S1.o).mono ?_
   rintro e W5 ⟨q, c, rfl, ⟨hr1, hr2⟩, hfd, hb5⟩
   have BB5 := zh (BB3.o.below hb5 BB3.o.lt)
   have HB5 := zh (HB4w.o.trans (hb5.mono HB4w.o.size))
   have HFD := zh hfd
   have HRR := zh (And.intro hr1 hr2)
   clear p0 q0 q1 z0 z1 hb5 hfd hr1 hr2
   have q0 := BB5.o.row 0 _ rfl
   have q1 := BB5.o.row 1 _ rfl
   have z0 := BB5.o.frozen 0
   have z1 := BB5.o.frozen 1
   have hl5 := BB5.o.lt
   go_wp2_with fail
   rw [HE.o]
   exact schema_back (i := 10) (j := 11) rfl (put2_box rfl BB5.o _ _) (put2_below HB5.o (by omega) _ _) ⟨q, c, rfl, HRR.o.1, HRR.o.2, (HFD.o.keep (T := fun _ => True) (fun bl hs hlt => ⟨by rw [Below.heap_setCell _ _ _ bl (show bl ≠ w.heap.size + 1 + 1 by omega), Below.heap_setCell _ _ _ bl (show bl ≠ w.heap.size + 1 + 1 by omega)], trivial⟩)).at⟩ rfl rfl
  ·have b1 : (kind == 4) = false := by simpa using hk44
   have b2 : (kind == 5) = true := by simp; omega
   clear hk44
   go_wp2_with fail
   refine (owneds_calls (HL1.o.below HB4w.o) O1.o S1.o).mono ?_
   rintro e W5 ⟨q, c, rfl, ⟨hr1, hr2⟩, hfd, hb5⟩
   have BB5 := zh (BB3.o.below hb5 BB3.o.lt)
   have HB5 := zh (HB4w.o.trans (hb5.mono HB4w.o.size))
   have HFD := zh hfd
   have HRR := zh (And.intro hr1 hr2)
   clear p0 q0 q1 z0 z1 hb5 hfd hr1 hr2
   have q0 := BB5.o.row 0 _ rfl
   have q1 := BB5.o.row 1 _ rfl
   have z0 := BB5.o.frozen 0
   have z1 := BB5.o.frozen 1
   have hl5 := BB5.o.lt
   go_wp2_with fail
   rw [HE.o]
   exact schema_back (i := 10) (j := 11) rfl (put2_box rfl BB5.o _ _) (put2_below HB5.o (by omega) _ _) ⟨q, c, rfl, HRR.o.1, HRR.o.2, (HFD.o.keep (T := fun _ => True) (fun bl hs hlt => ⟨by rw [Below.heap_setCell _ _ _ bl (show bl ≠ w.heap.size + 1 + 1 by omega), Below.heap_setCell _ _ _ bl (show bl ≠ w.heap.size + 1 + 1 by omega)], trivial⟩)).at⟩ rfl rfl
 replace HT := zh (show typeS kind L1 (sizesOf N1) K1 L2 (sizesOf N2) K2 = if schemaE (outL kind L1 K1 L2 K2) [] ≠ 0 then ([], schemaE (outL kind L1 K1 L2 K2) []) else (outL kind L1 K1 L2 K2, 0) by rw [HT.o, if_neg hk4])
 have b1 : (kind == 4) = false := by simp; omega
 have b2 : (kind == 5) = false := by simp; omega
 go_wp2_with fail
 obtain ⟨i1, y1, hi1, hy1, hyc1, hsz1, hby1⟩ := info28_parts
 obtain ⟨V, hV⟩ : ∃ V, V = W4.alloc (.cells #[.slice none 0 0, .slice none 0 0] 26) := ⟨_, rfl⟩
 have bv : BoxN V W4.heap.size 26 [.slice none 0 0, .slice none 0 0] := by rw [hV]; exact BoxN.new W4 26 _
 have hbv : Below W4.heap.size W4 V := by rw [hV]; exact (Below.refl _ W4).alloc (Nat.le_refl _) _
 rw [← hV]
 clear hV
 obtain ⟨xo, hxo⟩ : ∃ xo, xo = W4.heap.size := ⟨_, rfl⟩
 rw [← hxo] at bv ⊢
 have HXO := zh hxo
 have BV := zh bv
 have HV := zh hbv
 obtain ⟨_, _, eL, hlc1, hmc1, hC1⟩ := HL1.o
 cases eL
 unfold maxLen at hmc1
 have HC1 := zh hC1
 clear hxo bv hbv hC1 p0 q0 q1 z0 z1 b1 b2
 go_loopw [58] (fun i wr => ∃ (k : Nat) (q : Option Addr) (c : Nat) (css : List (List Value)), k ≤ L1.length ∧ i = .int .i64 k ∧ Hid (BoxN wr xo 26 [.slice q k c, .slice none 0 0]) ∧ Hid (RowF wr (xo + 1) (.slice q k c) (lefts kind K1 L2 K2 0 (L1.take k)) css) ∧ Hid (Below W4.heap.size W4 wr)) (fun i _ => L1.length - (intOf i).toNat)
 case atStart => exact ⟨0, none, 0, [], by omega, rfl, BV, zh (RowF.nil _ _), HV⟩
 case round =>
  obtain ⟨k, q, c, css, hk, rfl, BO, HR, HB⟩ := hrel
  have HBw := zh (HB4w.o.trans (HB.o.mono HB4w.o.size))
  by_cases hlt : k < L1.length
  ·obtain ⟨b', o', fq, cap', rfl, e3, c0, c1, c2, c3, c4, c5, c6⟩ := HC1.o.seven k hlt
   have E3 := zh (e3.below HBw.o)
   replace c0 := cell_below HBw.o c0
   replace c1 := cell_below HBw.o c1
   replace c2 := cell_below HBw.o c2
   replace c3 := cell_below HBw.o c3
   replace c4 := cell_below HBw.o c4
   replace c5 := cell_below HBw.o c5
   replace c6 := cell_below HBw.o c6
   have HOK := zh (okL_mem O1.o _ (List.getElem_mem hlt))
   have HTK := zh (lefts_step (kind := kind) (K1 := K1) (L2 := L2) (K2 := K2) hlt)
   clear e3
   generalize hg : L1[k] = g at *
   clear hg
   go_wp2_with fail
   obtain ⟨A, hA⟩ : ∃ A, A = wr.alloc (.cells #[Value.string g.nm, Value.bool g.nl, Value.int IntKind.i64 g.k, Value.int IntKind.i64 g.wd, Value.int IntKind.i64 g.id, Value.int IntKind.i64 g.ix, Value.slice fq g.kids.length cap'] 59) := ⟨_, rfl⟩
   have BA : Below wr.heap.size wr A := by rw [hA]; exact (Below.refl _ wr).alloc (Nat.le_refl _) _
   rw [← hA]
   clear hA
   refine (bare_calls g HOK.o A fq cap' (E3.o.below BA)).mono ?_
   rintro e W5 ⟨p1, cap1, rfl, hfd, hb5⟩
   clear c0 c1 c2 c3 c4 c5 c6
   go_wp2_with fail
   have hb2 : Below wr.heap.size wr W5 := BA.trans (hb5.mono BA.size)
   obtain ⟨D, hD⟩ : ∃ D, D = W5.alloc (.cells #[Value.string (bareF g).nm, Value.bool (bareF g).nl, Value.int IntKind.i64 (bareF g).k, Value.int IntKind.i64 (bareF g).wd, Value.int IntKind.i64 (bareF g).id, Value.int IntKind.i64 (bareF g).ix, Value.slice p1 (bareF g).kids.length cap1] 59) := ⟨_, rfl⟩
   have bd : BoxN D W5.heap.size 59 [Value.string (bareF g).nm, Value.bool (bareF g).nl, Value.int IntKind.i64 (bareF g).k, Value.int IntKind.i64 (bareF g).wd, Value.int IntKind.i64 (bareF g).id, Value.int IntKind.i64 (bareF g).ix, Value.slice p1 (bareF g).kids.length cap1] := by rw [hD]; exact BoxN.new W5 59 _
   have hbD : Below W5.heap.size W5 D := by rw [hD]; exact (Below.refl _ W5).alloc (Nat.le_refl _) _
   rw [← hD]
   clear hD
   have hfD : FdS (fun b => A.heap.size ≤ b ∧ b ≠ W5.heap.size) D (bareF g) [.string (bareF g).nm, .bool (bareF g).nl, .int .i64 (bareF g).k, .int .i64 (bareF g).wd, .int .i64 (bareF g).id, .int .i64 (bareF g).ix, .slice p1 (bareF g).kids.length cap1] := hfd.keep (fun b hs hlt => ⟨hbD.block b hlt, hs, by omega⟩)
   have hbDr : Below wr.heap.size wr D := hb2.trans (hbD.mono hb2.size)
   have HBD := zh bd
   have HFD := zh hfD
   have HDr := zh hbDr
   have HX5 := zh hb5.size
   have HAs := zh BA.size
   have HBo := zh (BO.o.below hbDr BO.o.lt)
   have HDw := zh (HBw.o.trans (hbDr.mono HBw.o.size))
   clear hb2 hb5 hbD hfd bd hfD hbDr BA
   refine (idx_calls (HK1.o.below HDw.o) k).mono ?_
   rintro e W6 ⟨rfl, rfl⟩
   by_cases hk3 : kind = 3
   ·have b3 : (kind == 3) = true := by simpa using hk3
    obtain ⟨xd, hxd⟩ : ∃ xd, xd = W5.heap.size := ⟨_, rfl⟩
    rw [← hxd] at HBD HFD ⊢
    have HXD := zh (show A.heap.size ≤ xd by rw [hxd]; exact HX5.o)
    clear hxd HX5 HBo
    by_cases hidx : idxI K1 k < 0
    ·have hA1 : decide (idxI K1 k < 0) = true := decide_eq_true hidx
     have HHL := zh (leftF_none (K1 := K1) (L2 := L2) (K2 := K2) (g := g) hk3 hidx)
     clear hk3 hidx
     have kk1 := HBD.o.row 1 _ rfl
     have z1 := HBD.o.frozen 1
     have hld := HBD.o.lt
     go_wp2_with fail
     refine Mix.region 20 (by kernel_rfl) rfl ?_
     refine Mix.phase (ft := 1) (ph := [0, 1, 2, 3, 4, 5, 6, 7, 8, 9, 10, 11, 12, 13, 14, 15, 16, 17, 18]) (.cons rfl (.cons rfl (.cons rfl (.cons rfl (.cons rfl (.cons rfl (.cons rfl (.cons rfl (.cons rfl (.cons rfl (.cons rfl (.cons rfl (.cons rfl (.cons rfl (.cons rfl (.cons rfl (.cons rfl (.cons rfl (.cons rfl (.nil)))))))))))))))))))) (by kernel_rfl) ?_
     repeat (go_big_quiet_step (fail))
     refine wpQuiet_nil ?_
     rintro _ ⟨nq, rfl⟩
     refine Mix.alone (i := 19) (by kernel_rfl) rfl (by rfl) (fun K hK => ?_)
     go_step
     have HW6 := zh (below_drewN (Below.refl W6.heap.size W6) (1 + nq))
     obtain ⟨WT, hWT⟩ : ∃ WT, WT = (W6.drewN (1 + nq)).setCell ⟨xd, 1, none⟩ (.bool true) := ⟨_, rfl⟩
     have hDX : Below wr.heap.size wr (W6.drewN (1 + nq)) := HDr.o.trans (HW6.o.mono HDr.o.size)
     have hX1 : BoxN (W6.drewN (1 + nq)) xd 59 [Value.string (bareF g).nm, Value.bool (bareF g).nl, Value.int IntKind.i64 (bareF g).k, Value.int IntKind.i64 (bareF g).wd, Value.int IntKind.i64 (bareF g).id, Value.int IntKind.i64 (bareF g).ix, Value.slice p1 (bareF g).kids.length cap1] := HBD.o.below HW6.o HBD.o.lt
     have HBT := zh (show BoxN WT xd 59 [Value.string (bareF g).nm, Value.bool true, Value.int IntKind.i64 (bareF g).k, Value.int IntKind.i64 (bareF g).wd, Value.int IntKind.i64 (bareF g).id, Value.int IntKind.i64 (bareF g).ix, Value.slice p1 (bareF g).kids.length cap1] by rw [hWT]; exact hX1.set 1 _)
     have HFT := zh (show FdS (fun b => A.heap.size ≤ b ∧ b ≠ xd) WT ((bareF g).named (bareF g).nm true) [Value.string (bareF g).nm, Value.bool true, Value.int IntKind.i64 (bareF g).k, Value.int IntKind.i64 (bareF g).wd, Value.int IntKind.i64 (bareF g).id, Value.int IntKind.i64 (bareF g).ix, Value.slice p1 (bareF g).kids.length cap1] by
      rw [hWT]
      exact (HFD.o.keep (T := fun b => A.heap.size ≤ b ∧ b ≠ xd) (w' := (W6.drewN (1 + nq)).setCell ⟨xd, 1, none⟩ (.bool true)) (fun b hs hlt => ⟨(Below.heap_setCell _ _ _ b hs.2).trans (HW6.o.block b hlt), hs⟩)).relet _)
     have HDT := zh (show Below wr.heap.size wr WT by rw [hWT]; exact hDX.setCell (p := ⟨xd, 1, none⟩) (by have := HXD.o; have := HAs.o; show wr.heap.size ≤ xd; omega) _)
     have HBo := zh (show BoxN WT xo 26 [.slice q k c, .slice none 0 0] by rw [hWT]; exact (BO.o.below hDX BO.o.lt).other (a := ⟨xd, 1, none⟩) (by have := BO.o.lt; have := HXD.o; have := HAs.o; show xo ≠ xd; omega) _)
     rw [← hWT]
     clear hWT hDX hX1 HBD HFD HDr kk1 z1
     refine hK _ _ ?_
     clear hK K
     refine Mix.done (by kernel_rfl) ?_
     have HBD := HBT
     have HFD := HFT
     have HDr := HDT
     clear HBT HFT HDT
     have HL := zh (show leftF kind K1 L2 K2 k g = (bareF g).named (bareF g).nm true from HHL.o)
     obtain ⟨gb, hgb⟩ : ∃ gb, gb = (bareF g).named (bareF g).nm true := ⟨_, rfl⟩
     have HGB := zh (HL.o.trans hgb.symm)
     rw [← hgb] at HFD
     have HFB := zh (show [Value.string (bareF g).nm, Value.bool true, Value.int IntKind.i64 (bareF g).k, Value.int IntKind.i64 (bareF g).wd, Value.int IntKind.i64 (bareF g).id, Value.int IntKind.i64 (bareF g).ix, Value.slice p1 (bareF g).kids.length cap1] = [Value.string gb.nm, Value.bool gb.nl, Value.int IntKind.i64 gb.k, Value.int IntKind.i64 gb.wd, Value.int IntKind.i64 gb.id, Value.int IntKind.i64 gb.ix, Value.slice p1 gb.kids.length cap1] by rw [hgb]; rfl)
     rw [HFB.o] at HBD HFD
     clear HL hgb HFB
     have d0 := HBD.o.row 0 _ rfl
     have d1 := HBD.o.row 1 _ rfl
     have d2 := HBD.o.row 2 _ rfl
     have d3 := HBD.o.row 3 _ rfl
     have d4 := HBD.o.row 4 _ rfl
     have d5 := HBD.o.row 5 _ rfl
     have d6 := HBD.o.row 6 _ rfl
     have hld := HBD.o.lt
     have o0 := HBo.o.row 0 _ rfl
     have hlo := HBo.o.lt
     have hR1 := HR.o.below HDr.o
     have htk : (lefts kind K1 L2 K2 0 (L1.take k)).length = k := by rw [lefts_length, List.length_take]; omega
     have hown1 : WT.ownsRow (xo + 1) 59 7 (.slice q k c) k (css.flatMap id) := by have := hR1.own; rwa [htk] at this
     have hoff : ∀ j, (Value.slice q k c).ownBlock = some j → j < wr.heap.size := fun j e => (HR.o.own.lt j e).2
     have hxw : xo < wr.heap.size := BO.o.lt
     have hfd1 : FdS (fun b => xo + 1 ≤ b ∧ (Value.slice q k c).ownBlock ≠ some b) WT gb _ := HFD.o.mono (fun b hb => ⟨by have := HAs.o; have := hb.1; omega, fun e => by have := hoff b e; have := HAs.o; have := hb.1; omega⟩)
     have HR1 := zh hR1
     have HO1 := zh hown1
     have HF1 := zh hfd1
     have HTL := zh htk
     have hZ := BoxN.new WT 59 [Value.string gb.nm, Value.bool gb.nl, Value.int IntKind.i64 gb.k, Value.int IntKind.i64 gb.wd, Value.int IntKind.i64 gb.id, Value.int IntKind.i64 gb.ix, Value.slice p1 gb.kids.length cap1]
     have HZ := zh hZ
     have HB6 := zh (HB.o.trans (HDr.o.mono HB.o.size))
     have hs6 := HB6.o.size
     have hxe1 : xo ≤ W4.heap.size := by have := HXO.o; omega
     have hxe2 : W4.heap.size ≤ xo := by have := HXO.o; omega
     have hsmall : L1.length ≤ 32 := S1.o
     clear hR1 hown1 hoff hfd1 hZ htk
     go_wp2_with (at_builtin; refine wpList_append_lies _ rfl _ _ 23 rfl (xo + 1) 59 i1 y1 7 80 und23 hi1 hy1 hsz1 hby1 hyc1 (by decide) (.slice q k c) k (css.flatMap id) rfl (HO1.o.alloc _) ⟨WT.heap.size, 0, none⟩ 1 1 [Value.string gb.nm, Value.bool gb.nl, Value.int IntKind.i64 gb.k, Value.int IntKind.i64 gb.wd, Value.int IntKind.i64 gb.id, Value.int IntKind.i64 gb.ix, Value.slice p1 gb.kids.length cap1] rfl rfl (World.news_of_block HZ.o) (by simp [Value.oneCell']) (by decide) (by unfold maxLen; omega) (by omega) (by simp; omega) (WT.heap.size + 1) (by simp) ?_; intro gg cc w2 hown2 hgrow2 hat2 hlt2; have bx2 := zh (show BoxN w2 xo 26 [.slice q k c, .slice none 0 0] from (hgrow2.block xo (by simp; omega) (fun e => by have := (HO1.o.lt xo e.symm).1; omega)).trans (HBo.o.alloc _)); have o2 := bx2.o.row 0 _ rfl; have f2 := bx2.o.frozen 0; have l2 := bx2.o.lt)
     refine ⟨⟨k + 1, some ⟨gg, 0, none⟩, cc, css ++ [[Value.string gb.nm, Value.bool gb.nl, Value.int IntKind.i64 gb.k, Value.int IntKind.i64 gb.wd, Value.int IntKind.i64 gb.id, Value.int IntKind.i64 gb.ix, Value.slice p1 gb.kids.length cap1]], by omega, by go_num, zh (bx2.o.set 0 _), zh ?_, zh ((((HB6.o.alloc HB6.o.size _).grown hgrow2 (by have := HB6.o.size; simp; omega) (fun j e => by have := (HO1.o.lt j e).1; omega))).setCell (p := ⟨xo, 0, none⟩) (by simp; omega) _)⟩, by simp [intOf]; omega⟩
     rw [HTK.o, HGB.o]
     exact ((HR1.o.below ((Below.refl _ WT).alloc (Nat.le_refl _) _)).push (HF1.o.below ((Below.refl _ WT).alloc (Nat.le_refl _) _)) HTL.o hown2 hgrow2 (by rw [World.size_alloc]; exact hat2)).setBelow (a := ⟨xo, 0, none⟩) (by simp) _
    cases hnl : (bareF g).nl with
    | true =>
     have hA1 : decide (idxI K1 k < 0) = false := decide_eq_false hidx
     have HHL := zh (leftF_nl (K1 := K1) (L2 := L2) (K2 := K2) (g := g) hk3 hidx hnl)
     rw [hnl] at HBD
     clear hk3 hidx hnl
     have kk1 := HBD.o.row 1 _ rfl
     have z1 := HBD.o.frozen 1
     have hld := HBD.o.lt
     go_wp2_with fail
     refine Mix.region 20 (by kernel_rfl) rfl ?_
     refine Mix.phase (ft := 1) (ph := [0, 1, 2, 3, 4, 5, 6, 7, 8, 9, 10, 11, 12, 13, 14, 15, 16, 17, 18]) (.cons rfl (.cons rfl (.cons rfl (.cons rfl (.cons rfl (.cons rfl (.cons rfl (.cons rfl (.cons rfl (.cons rfl (.cons rfl (.cons rfl (.cons rfl (.cons rfl (.cons rfl (.cons rfl (.cons rfl (.cons rfl (.cons rfl (.nil)))))))))))))))))))) (by kernel_rfl) ?_
     repeat (go_big_quiet_step (fail))
     refine wpQuiet_nil ?_
     rintro _ ⟨nq, rfl⟩
     refine Mix.alone (i := 19) (by kernel_rfl) rfl (by rfl) (fun K hK => ?_)
     go_step
     have HW6 := zh (below_drewN (Below.refl W6.heap.size W6) (1 + nq))
     obtain ⟨WT, hWT⟩ : ∃ WT, WT = (W6.drewN (1 + nq)).setCell ⟨xd, 1, none⟩ (.bool true) := ⟨_, rfl⟩
     have hDX : Below wr.heap.size wr (W6.drewN (1 + nq)) := HDr.o.trans (HW6.o.mono HDr.o.size)
     have hX1 : BoxN (W6.drewN (1 + nq)) xd 59 [Value.string (bareF g).nm, Value.bool true, Value.int IntKind.i64 (bareF g).k, Value.int IntKind.i64 (bareF g).wd, Value.int IntKind.i64 (bareF g).id, Value.int IntKind.i64 (bareF g).ix, Value.slice p1 (bareF g).kids.length cap1] := HBD.o.below HW6.o HBD.o.lt
     have HBT := zh (show BoxN WT xd 59 [Value.string (bareF g).nm, Value.bool true, Value.int IntKind.i64 (bareF g).k, Value.int IntKind.i64 (bareF g).wd, Value.int IntKind.i64 (bareF g).id, Value.int IntKind.i64 (bareF g).ix, Value.slice p1 (bareF g).kids.length cap1] by rw [hWT]; exact hX1.set 1 _)
     have HFT := zh (show FdS (fun b => A.heap.size ≤ b ∧ b ≠ xd) WT ((bareF g).named (bareF g).nm true) [Value.string (bareF g).nm, Value.bool true, Value.int IntKind.i64 (bareF g).k, Value.int IntKind.i64 (bareF g).wd, Value.int IntKind.i64 (bareF g).id, Value.int IntKind.i64 (bareF g).ix, Value.slice p1 (bareF g).kids.length cap1] by
      rw [hWT]
      exact (HFD.o.keep (T := fun b => A.heap.size ≤ b ∧ b ≠ xd) (w' := (W6.drewN (1 + nq)).setCell ⟨xd, 1, none⟩ (.bool true)) (fun b hs hlt => ⟨(Below.heap_setCell _ _ _ b hs.2).trans (HW6.o.block b hlt), hs⟩)).relet _)
     have HDT := zh (show Below wr.heap.size wr WT by rw [hWT]; exact hDX.setCell (p := ⟨xd, 1, none⟩) (by have := HXD.o; have := HAs.o; show wr.heap.size ≤ xd; omega) _)
     have HBo := zh (show BoxN WT xo 26 [.slice q k c, .slice none 0 0] by rw [hWT]; exact (BO.o.below hDX BO.o.lt).other (a := ⟨xd, 1, none⟩) (by have := BO.o.lt; have := HXD.o; have := HAs.o; show xo ≠ xd; omega) _)
     rw [← hWT]
     clear hWT hDX hX1 HBD HFD HDr kk1 z1
     refine hK _ _ ?_
     clear hK K
     refine Mix.done (by kernel_rfl) ?_
     have HBD := HBT
     have HFD := HFT
     have HDr := HDT
     clear HBT HFT HDT
     have HL := zh (show leftF kind K1 L2 K2 k g = (bareF g).named (bareF g).nm true from HHL.o)
     obtain ⟨gb, hgb⟩ : ∃ gb, gb = (bareF g).named (bareF g).nm true := ⟨_, rfl⟩
     have HGB := zh (HL.o.trans hgb.symm)
     rw [← hgb] at HFD
     have HFB := zh (show [Value.string (bareF g).nm, Value.bool true, Value.int IntKind.i64 (bareF g).k, Value.int IntKind.i64 (bareF g).wd, Value.int IntKind.i64 (bareF g).id, Value.int IntKind.i64 (bareF g).ix, Value.slice p1 (bareF g).kids.length cap1] = [Value.string gb.nm, Value.bool gb.nl, Value.int IntKind.i64 gb.k, Value.int IntKind.i64 gb.wd, Value.int IntKind.i64 gb.id, Value.int IntKind.i64 gb.ix, Value.slice p1 gb.kids.length cap1] by rw [hgb]; rfl)
     rw [HFB.o] at HBD HFD
     clear HL hgb HFB
     have d0 := HBD.o.row 0 _ rfl
     have d1 := HBD.o.row 1 _ rfl
     have d2 := HBD.o.row 2 _ rfl
     have d3 := HBD.o.row 3 _ rfl
     have d4 := HBD.o.row 4 _ rfl
     have d5 := HBD.o.row 5 _ rfl
     have d6 := HBD.o.row 6 _ rfl
     have hld := HBD.o.lt
     have o0 := HBo.o.row 0 _ rfl
     have hlo := HBo.o.lt
     have hR1 := HR.o.below HDr.o
     have htk : (lefts kind K1 L2 K2 0 (L1.take k)).length = k := by rw [lefts_length, List.length_take]; omega
     have hown1 : WT.ownsRow (xo + 1) 59 7 (.slice q k c) k (css.flatMap id) := by have := hR1.own; rwa [htk] at this
     have hoff : ∀ j, (Value.slice q k c).ownBlock = some j → j < wr.heap.size := fun j e => (HR.o.own.lt j e).2
     have hxw : xo < wr.heap.size := BO.o.lt
     have hfd1 : FdS (fun b => xo + 1 ≤ b ∧ (Value.slice q k c).ownBlock ≠ some b) WT gb _ := HFD.o.mono (fun b hb => ⟨by have := HAs.o; have := hb.1; omega, fun e => by have := hoff b e; have := HAs.o; have := hb.1; omega⟩)
     have HR1 := zh hR1
     have HO1 := zh hown1
     have HF1 := zh hfd1
     have HTL := zh htk
     have hZ := BoxN.new WT 59 [Value.string gb.nm, Value.bool gb.nl, Value.int IntKind.i64 gb.k, Value.int IntKind.i64 gb.wd, Value.int IntKind.i64 gb.id, Value.int IntKind.i64 gb.ix, Value.slice p1 gb.kids.length cap1]
     have HZ := zh hZ
     have HB6 := zh (HB.o.trans (HDr.o.mono HB.o.size))
     have hs6 := HB6.o.size
     have hxe1 : xo ≤ W4.heap.size := by have := HXO.o; omega
     have hxe2 : W4.heap.size ≤ xo := by have := HXO.o; omega
     have hsmall : L1.length ≤ 32 := S1.o
     clear hR1 hown1 hoff hfd1 hZ htk
     go_wp2_with (at_builtin; refine wpList_append_lies _ rfl _ _ 23 rfl (xo + 1) 59 i1 y1 7 80 und23 hi1 hy1 hsz1 hby1 hyc1 (by decide) (.slice q k c) k (css.flatMap id) rfl (HO1.o.alloc _) ⟨WT.heap.size, 0, none⟩ 1 1 [Value.string gb.nm, Value.bool gb.nl, Value.int IntKind.i64 gb.k, Value.int IntKind.i64 gb.wd, Value.int IntKind.i64 gb.id, Value.int IntKind.i64 gb.ix, Value.slice p1 gb.kids.length cap1] rfl rfl (World.news_of_block HZ.o) (by simp [Value.oneCell']) (by decide) (by unfold maxLen; omega) (by omega) (by simp; omega) (WT.heap.size + 1) (by simp) ?_; intro gg cc w2 hown2 hgrow2 hat2 hlt2; have bx2 := zh (show BoxN w2 xo 26 [.slice q k c, .slice none 0 0] from (hgrow2.block xo (by simp; omega) (fun e => by have := (HO1.o.lt xo e.symm).1; omega)).trans (HBo.o.alloc _)); have o2 := bx2.o.row 0 _ rfl; have f2 := bx2.o.frozen 0; have l2 := bx2.o.lt)
     refine ⟨⟨k + 1, some ⟨gg, 0, none⟩, cc, css ++ [[Value.string gb.nm, Value.bool gb.nl, Value.int IntKind.i64 gb.k, Value.int IntKind.i64 gb.wd, Value.int IntKind.i64 gb.id, Value.int IntKind.i64 gb.ix, Value.slice p1 gb.kids.length cap1]], by omega, by go_num, zh (bx2.o.set 0 _), zh ?_, zh ((((HB6.o.alloc HB6.o.size _).grown hgrow2 (by have := HB6.o.size; simp; omega) (fun j e => by have := (HO1.o.lt j e).1; omega))).setCell (p := ⟨xo, 0, none⟩) (by simp; omega) _)⟩, by simp [intOf]; omega⟩
     rw [HTK.o, HGB.o]
     exact ((HR1.o.below ((Below.refl _ WT).alloc (Nat.le_refl _) _)).push (HF1.o.below ((Below.refl _ WT).alloc (Nat.le_refl _) _)) HTL.o hown2 hgrow2 (by rw [World.size_alloc]; exact hat2)).setBelow (a := ⟨xo, 0, none⟩) (by simp) _
    | false =>
     have hA1 : decide (idxI K1 k < 0) = false := decide_eq_false hidx
     obtain ⟨j, hij, hj1⟩ := idxI_some hidx
     have hj2 : j < K2.length := by have := HKL.o; omega
     obtain ⟨⟨kc0, kc1⟩, _⟩ := HKO2.o j hj2
     obtain ⟨cc, hcc⟩ : ∃ cc : Nat, K2[j] = cc := ⟨K2[j].toNat, by omega⟩
     have hcl : cc < L2.length := by omega
     have HHL := zh (leftF_key (K1 := K1) (L2 := L2) (K2 := K2) (g := g) hk3 hij hnl hj2 hcc hcl)
     obtain ⟨_, _, eL2, hlc2, hmc2, hC2⟩ := HL2.o
     cases eL2
     obtain ⟨_, _, eK2, hlk2, hmk2, hD2⟩ := HK2.o
     cases eK2
     unfold maxLen at hmc2 hmk2
     obtain ⟨hxb, bk, ok, rfl, kz⟩ := hD2 j hj2
     rw [hcc] at kz
     obtain ⟨b2, o2, p2, c2, rfl, g2, s0, s1, s2, s3, s4, s5, s6⟩ := hC2.seven cc hcl
     have OKM := zh (okL_mem O2.o _ (List.getElem_mem hcl))
     have hbw : Below w.heap.size w W6 := HDw.o
     have FM := zh (g2.below hbw)
     generalize L2[cc] = m at *
     have A2r := A2.o.below (HB4.o.trans ((HB.o.trans (HDr.o.mono HB.o.size)).mono HB4.o.size)) A2.o.lt
     rw [hnl] at HBD
     have f0 := HBD.o.row 1 _ rfl
     have f1 := A2r.row 0 _ rfl
     replace kz := cell_below hbw kz
     replace s0 := cell_below hbw s0
     replace s1 := cell_below hbw s1
     replace s2 := cell_below hbw s2
     replace s3 := cell_below hbw s3
     replace s4 := cell_below hbw s4
     replace s5 := cell_below hbw s5
     replace s6 := cell_below hbw s6
     have hl2b := A2r.lt
     rw [hij] at hA1 ⊢
     clear hk3 hidx g2 hC2 hD2 hbw hcc kc0 kc1 hij A2r hnl
     have hld := HBD.o.lt
     go_wp2_with fail
     refine Mix.region 20 (by kernel_rfl) rfl ?_
     refine Mix.phase (ft := 5) (ph := [0, 1, 2, 3, 4, 5, 6, 7, 8, 9, 10, 11, 12, 13, 14]) (.cons rfl (.cons rfl (.cons rfl (.cons rfl (.cons rfl (.cons rfl (.cons rfl (.cons rfl (.cons rfl (.cons rfl (.cons rfl (.cons rfl (.cons rfl (.cons rfl (.cons rfl (.nil)))))))))))))))) (by kernel_rfl) ?_
     repeat (go_big_quiet_step (fail))
     refine wpQuiet_nil ?_
     rintro _ ⟨nq, rfl⟩
     refine Mix.alone (i := 15) (by kernel_rfl) rfl (by rfl) (fun K hK => ?_)
     go_step
     refine (bare_calls m OKM.o (W6.drewN (1 + nq)) p2 c2 (FM.o.below (below_drewN (Below.refl _ W6) (1 + nq)))).mono ?_
     rintro e W7 ⟨u2, v2, rfl, hg2, hb7⟩
     have HW7 := zh ((below_drewN (Below.refl W6.heap.size W6) (1 + nq)).trans hb7)
     clear hg2 hb7
     refine hK _ _ ?_
     clear hK K s0 s1 s2 s3 s4 s5 s6 f0 f1 kz
     have hfe := fun w' => field59_1 (.string (bareF m).nm) (.bool (bareF m).nl) (.int .i64 (bareF m).k) (.int .i64 (bareF m).wd) (.int .i64 (bareF m).id) (.int .i64 (bareF m).ix) (.slice u2 (bareF m).kids.length v2) w'
     refine Mix.phase (ft := 1) (ph := [16, 17, 18]) (.cons rfl (.cons rfl (.cons rfl (.nil)))) (by kernel_rfl) ?_
     repeat (go_big_quiet_step (fail))
     refine wpQuiet_nil ?_
     rintro _ ⟨nr, rfl⟩
     have HW8 := zh (HW7.o.trans ((below_drewN (Below.refl W7.heap.size W7) nr).mono HW7.o.size))
     obtain ⟨ml, hml⟩ : ∃ ml, ml = (bareF m).nl := ⟨_, rfl⟩
     rw [← hml] at HHL ⊢
     clear hfe hml FM OKM
     have kk1 := (HBD.o.below HW7.o HBD.o.lt).row 1 _ rfl
     have z1 := (HBD.o.below HW7.o HBD.o.lt).frozen 1
     have hl7 := (HBD.o.below HW7.o HBD.o.lt).lt
     refine Mix.alone (i := 19) (by kernel_rfl) rfl (by rfl) (fun K hK => ?_)
     go_step
     obtain ⟨WT, hWT⟩ : ∃ WT, WT = (W7.drewN nr).setCell ⟨xd, 1, none⟩ (.bool ml) := ⟨_, rfl⟩
     have hDX : Below wr.heap.size wr (W7.drewN nr) := HDr.o.trans (HW8.o.mono HDr.o.size)
     have hX1 : BoxN (W7.drewN nr) xd 59 [Value.string (bareF g).nm, Value.bool false, Value.int IntKind.i64 (bareF g).k, Value.int IntKind.i64 (bareF g).wd, Value.int IntKind.i64 (bareF g).id, Value.int IntKind.i64 (bareF g).ix, Value.slice p1 (bareF g).kids.length cap1] := HBD.o.below HW8.o HBD.o.lt
     have HBT := zh (show BoxN WT xd 59 [Value.string (bareF g).nm, Value.bool ml, Value.int IntKind.i64 (bareF g).k, Value.int IntKind.i64 (bareF g).wd, Value.int IntKind.i64 (bareF g).id, Value.int IntKind.i64 (bareF g).ix, Value.slice p1 (bareF g).kids.length cap1] by rw [hWT]; exact hX1.set 1 _)
     have HFT := zh (show FdS (fun b => A.heap.size ≤ b ∧ b ≠ xd) WT ((bareF g).named (bareF g).nm ml) [Value.string (bareF g).nm, Value.bool ml, Value.int IntKind.i64 (bareF g).k, Value.int IntKind.i64 (bareF g).wd, Value.int IntKind.i64 (bareF g).id, Value.int IntKind.i64 (bareF g).ix, Value.slice p1 (bareF g).kids.length cap1] by
      rw [hWT]
      exact (HFD.o.keep (T := fun b => A.heap.size ≤ b ∧ b ≠ xd) (w' := (W7.drewN nr).setCell ⟨xd, 1, none⟩ (.bool ml)) (fun b hs hlt => ⟨(Below.heap_setCell _ _ _ b hs.2).trans (HW8.o.block b hlt), hs⟩)).relet _)
     have HDT := zh (show Below wr.heap.size wr WT by rw [hWT]; exact hDX.setCell (p := ⟨xd, 1, none⟩) (by have := HXD.o; have := HAs.o; show wr.heap.size ≤ xd; omega) _)
     have HBo := zh (show BoxN WT xo 26 [.slice q k c, .slice none 0 0] by rw [hWT]; exact (BO.o.below hDX BO.o.lt).other (a := ⟨xd, 1, none⟩) (by have := BO.o.lt; have := HXD.o; have := HAs.o; show xo ≠ xd; omega) _)
     rw [← hWT]
     clear hl7 hld hWT hDX hX1 HBD HFD HDr kk1 z1
     refine hK _ _ ?_
     clear hK K
     refine Mix.done (by kernel_rfl) ?_
     have HBD := HBT
     have HFD := HFT
     have HDr := HDT
     clear HBT HFT HDT
     have HL := zh (show leftF kind K1 L2 K2 k g = (bareF g).named (bareF g).nm ml from HHL.o)
     obtain ⟨gb, hgb⟩ : ∃ gb, gb = (bareF g).named (bareF g).nm ml := ⟨_, rfl⟩
     have HGB := zh (HL.o.trans hgb.symm)
     rw [← hgb] at HFD
     have HFB := zh (show [Value.string (bareF g).nm, Value.bool ml, Value.int IntKind.i64 (bareF g).k, Value.int IntKind.i64 (bareF g).wd, Value.int IntKind.i64 (bareF g).id, Value.int IntKind.i64 (bareF g).ix, Value.slice p1 (bareF g).kids.length cap1] = [Value.string gb.nm, Value.bool gb.nl, Value.int IntKind.i64 gb.k, Value.int IntKind.i64 gb.wd, Value.int IntKind.i64 gb.id, Value.int IntKind.i64 gb.ix, Value.slice p1 gb.kids.length cap1] by rw [hgb]; rfl)
     rw [HFB.o] at HBD HFD
     clear HL hgb HFB
     have d0 := HBD.o.row 0 _ rfl
     have d1 := HBD.o.row 1 _ rfl
     have d2 := HBD.o.row 2 _ rfl
     have d3 := HBD.o.row 3 _ rfl
     have d4 := HBD.o.row 4 _ rfl
     have d5 := HBD.o.row 5 _ rfl
     have d6 := HBD.o.row 6 _ rfl
     have hld := HBD.o.lt
     have o0 := HBo.o.row 0 _ rfl
     have hlo := HBo.o.lt
     have hR1 := HR.o.below HDr.o
     have htk : (lefts kind K1 L2 K2 0 (L1.take k)).length = k := by rw [lefts_length, List.length_take]; omega
     have hown1 : WT.ownsRow (xo + 1) 59 7 (.slice q k c) k (css.flatMap id) := by have := hR1.own; rwa [htk] at this
     have hoff : ∀ j, (Value.slice q k c).ownBlock = some j → j < wr.heap.size := fun j e => (HR.o.own.lt j e).2
     have hxw : xo < wr.heap.size := BO.o.lt
     have hfd1 : FdS (fun b => xo + 1 ≤ b ∧ (Value.slice q k c).ownBlock ≠ some b) WT gb _ := HFD.o.mono (fun b hb => ⟨by have := HAs.o; have := hb.1; omega, fun e => by have := hoff b e; have := HAs.o; have := hb.1; omega⟩)
     have HR1 := zh hR1
     have HO1 := zh hown1
     have HF1 := zh hfd1
     have HTL := zh htk
     have hZ := BoxN.new WT 59 [Value.string gb.nm, Value.bool gb.nl, Value.int IntKind.i64 gb.k, Value.int IntKind.i64 gb.wd, Value.int IntKind.i64 gb.id, Value.int IntKind.i64 gb.ix, Value.slice p1 gb.kids.length cap1]
     have HZ := zh hZ
     have HB6 := zh (HB.o.trans (HDr.o.mono HB.o.size))
     have hs6 := HB6.o.size
     have hxe1 : xo ≤ W4.heap.size := by have := HXO.o; omega
     have hxe2 : W4.heap.size ≤ xo := by have := HXO.o; omega
     have hsmall : L1.length ≤ 32 := S1.o
     clear hR1 hown1 hoff hfd1 hZ htk
     go_wp2_with (at_builtin; refine wpList_append_lies _ rfl _ _ 23 rfl (xo + 1) 59 i1 y1 7 80 und23 hi1 hy1 hsz1 hby1 hyc1 (by decide) (.slice q k c) k (css.flatMap id) rfl (HO1.o.alloc _) ⟨WT.heap.size, 0, none⟩ 1 1 [Value.string gb.nm, Value.bool gb.nl, Value.int IntKind.i64 gb.k, Value.int IntKind.i64 gb.wd, Value.int IntKind.i64 gb.id, Value.int IntKind.i64 gb.ix, Value.slice p1 gb.kids.length cap1] rfl rfl (World.news_of_block HZ.o) (by simp [Value.oneCell']) (by decide) (by unfold maxLen; omega) (by omega) (by simp; omega) (WT.heap.size + 1) (by simp) ?_; intro gg cc w2 hown2 hgrow2 hat2 hlt2; have bx2 := zh (show BoxN w2 xo 26 [.slice q k c, .slice none 0 0] from (hgrow2.block xo (by simp; omega) (fun e => by have := (HO1.o.lt xo e.symm).1; omega)).trans (HBo.o.alloc _)); have o2 := bx2.o.row 0 _ rfl; have f2 := bx2.o.frozen 0; have l2 := bx2.o.lt)
     refine ⟨⟨k + 1, some ⟨gg, 0, none⟩, cc, css ++ [[Value.string gb.nm, Value.bool gb.nl, Value.int IntKind.i64 gb.k, Value.int IntKind.i64 gb.wd, Value.int IntKind.i64 gb.id, Value.int IntKind.i64 gb.ix, Value.slice p1 gb.kids.length cap1]], by omega, by go_num, zh (bx2.o.set 0 _), zh ?_, zh ((((HB6.o.alloc HB6.o.size _).grown hgrow2 (by have := HB6.o.size; simp; omega) (fun j e => by have := (HO1.o.lt j e).1; omega))).setCell (p := ⟨xo, 0, none⟩) (by simp; omega) _)⟩, by simp [intOf]; omega⟩
     rw [HTK.o, HGB.o]
     exact ((HR1.o.below ((Below.refl _ WT).alloc (Nat.le_refl _) _)).push (HF1.o.below ((Below.refl _ WT).alloc (Nat.le_refl _) _)) HTL.o hown2 hgrow2 (by rw [World.size_alloc]; exact hat2)).setBelow (a := ⟨xo, 0, none⟩) (by simp) _
   have HL := zh (show leftF kind K1 L2 K2 k g = bareF g by unfold leftF; rw [if_neg hk3])
   have b3 : (kind == 3) = false := by simpa using hk3
   clear hk3
   obtain ⟨gb, hgb⟩ : ∃ gb, gb = bareF g := ⟨_, rfl⟩
   have HGB := zh (HL.o.trans hgb.symm)
   rw [← hgb] at HBD HFD ⊢
   clear HL hgb
   have d0 := HBD.o.row 0 _ rfl
   have d1 := HBD.o.row 1 _ rfl
   have d2 := HBD.o.row 2 _ rfl
   have d3 := HBD.o.row 3 _ rfl
   have d4 := HBD.o.row 4 _ rfl
   have d5 := HBD.o.row 5 _ rfl
   have d6 := HBD.o.row 6 _ rfl
   have hld := HBD.o.lt
   have o0 := HBo.o.row 0 _ rfl
   have hlo := HBo.o.lt
   have hR1 := HR.o.below HDr.o
   have htk : (lefts kind K1 L2 K2 0 (L1.take k)).length = k := by rw [lefts_length, List.length_take]; omega
   have hown1 : W6.ownsRow (xo + 1) 59 7 (.slice q k c) k (css.flatMap id) := by have := hR1.own; rwa [htk] at this
   have hoff : ∀ j, (Value.slice q k c).ownBlock = some j → j < wr.heap.size := fun j e => (HR.o.own.lt j e).2
   have hxw : xo < wr.heap.size := BO.o.lt
   have hfd1 : FdS (fun b => xo + 1 ≤ b ∧ (Value.slice q k c).ownBlock ≠ some b) W6 gb _ := HFD.o.mono (fun b hb => ⟨by have := HAs.o; have := hb.1; omega, fun e => by have := hoff b e; have := HAs.o; have := hb.1; omega⟩)
   have HR1 := zh hR1
   have HO1 := zh hown1
   have HF1 := zh hfd1
   have HTL := zh htk
   have hZ := BoxN.new W6 59 [Value.string gb.nm, Value.bool gb.nl, Value.int IntKind.i64 gb.k, Value.int IntKind.i64 gb.wd, Value.int IntKind.i64 gb.id, Value.int IntKind.i64 gb.ix, Value.slice p1 gb.kids.length cap1]
   have HZ := zh hZ
   have HB6 := zh (HB.o.trans (HDr.o.mono HB.o.size))
   have hs6 := HB6.o.size
   have hxe1 : xo ≤ W4.heap.size := by have := HXO.o; omega
   have hxe2 : W4.heap.size ≤ xo := by have := HXO.o; omega
   have hsmall : L1.length ≤ 32 := S1.o
   clear hR1 hown1 hoff hfd1 hZ htk
   go_wp2_with (at_builtin; refine wpList_append_lies _ rfl _ _ 23 rfl (xo + 1) 59 i1 y1 7 80 und23 hi1 hy1 hsz1 hby1 hyc1 (by decide) (.slice q k c) k (css.flatMap id) rfl (HO1.o.alloc _) ⟨W6.heap.size, 0, none⟩ 1 1 [Value.string gb.nm, Value.bool gb.nl, Value.int IntKind.i64 gb.k, Value.int IntKind.i64 gb.wd, Value.int IntKind.i64 gb.id, Value.int IntKind.i64 gb.ix, Value.slice p1 gb.kids.length cap1] rfl rfl (World.news_of_block HZ.o) (by simp [Value.oneCell']) (by decide) (by unfold maxLen; omega) (by omega) (by simp; omega) (W6.heap.size + 1) (by simp) ?_; intro gg cc w2 hown2 hgrow2 hat2 hlt2; have bx2 := zh (show BoxN w2 xo 26 [.slice q k c, .slice none 0 0] from (hgrow2.block xo (by simp; omega) (fun e => by have := (HO1.o.lt xo e.symm).1; omega)).trans (HBo.o.alloc _)); have o2 := bx2.o.row 0 _ rfl; have f2 := bx2.o.frozen 0; have l2 := bx2.o.lt)
   refine ⟨⟨k + 1, some ⟨gg, 0, none⟩, cc, css ++ [[Value.string gb.nm, Value.bool gb.nl, Value.int IntKind.i64 gb.k, Value.int IntKind.i64 gb.wd, Value.int IntKind.i64 gb.id, Value.int IntKind.i64 gb.ix, Value.slice p1 gb.kids.length cap1]], by omega, by go_num, zh (bx2.o.set 0 _), zh ?_, zh ((((HB6.o.alloc HB6.o.size _).grown hgrow2 (by have := HB6.o.size; simp; omega) (fun j e => by have := (HO1.o.lt j e).1; omega))).setCell (p := ⟨xo, 0, none⟩) (by simp; omega) _)⟩, by simp [intOf]; omega⟩
   rw [HTK.o, HGB.o]
   exact ((HR1.o.below ((Below.refl _ W6).alloc (Nat.le_refl _) _)).push (HF1.o.below ((Below.refl _ W6).alloc (Nat.le_refl _) _)) HTL.o hown2 hgrow2 (by rw [World.size_alloc]; exact hat2)).setBelow (a := ⟨xo, 0, none⟩) (by simp) _
  ·obtain rfl : k = L1.length := by omega
   have A2r := A2.o.below (HB4.o.trans (HB.o.mono HB4.o.size)) A2.o.lt
   have r0 := A2r.row 0 _ rfl
   have hl2 := A2r.lt
   have hR := HR.o
   rw [List.take_length] at hR
   have HR := zh hR
   clear hR A2r
   obtain ⟨_, _, eL, hlc2, hmc2, hC2⟩ := HL2.o
   cases eL
   unfold maxLen at hmc2
   have HC2 := zh hC2
   clear hC2
   go_wp2_with fail
   go_loopw [99] (fun i wr => ∃ (k n : Nat) (q : Option Addr) (c : Nat) (css : List (List Value)), k ≤ L2.length ∧ n = (lefts kind K1 L2 K2 0 L1 ++ rights kind K2 0 (L2.take k)).length ∧ i = .int .i64 k ∧ Hid (BoxN wr xo 26 [.slice q n c, .slice none 0 0]) ∧ Hid (RowF wr (xo + 1) (.slice q n c) (lefts kind K1 L2 K2 0 L1 ++ rights kind K2 0 (L2.take k)) css) ∧ Hid (Below W4.heap.size W4 wr)) (fun i _ => L2.length - (intOf i).toNat)
   case atStart => exact ⟨0, L1.length, q, c, css, by omega, by simp [rights, lefts_length], rfl, BO, zh (by simpa [rights] using HR.o), HB⟩
   case round =>
    obtain ⟨k, n, q, c, css, hk, hn, rfl, BO, HR, HB⟩ := hrel
    have HBw := zh (HB4w.o.trans (HB.o.mono HB4w.o.size))
    have HN := zh hn
    have hnb : n ≤ 64 := by
     have h1 := rights_length kind K2 (L2.take k) 0
     rw [List.length_append, lefts_length] at hn
     have h2 := S1.o
     have h3 := S2.o
     have h4 : (L2.take k).length ≤ L2.length := by rw [List.length_take]; omega
     omega
    clear hn
    by_cases hlt : k < L2.length
    ·obtain ⟨b', o', fq, cap', rfl, e3, c0, c1, c2, c3, c4, c5, c6⟩ := HC2.o.seven k hlt
     have E3 := zh (e3.below HBw.o)
     replace c0 := cell_below HBw.o c0
     replace c1 := cell_below HBw.o c1
     replace c2 := cell_below HBw.o c2
     replace c3 := cell_below HBw.o c3
     replace c4 := cell_below HBw.o c4
     replace c5 := cell_below HBw.o c5
     replace c6 := cell_below HBw.o c6
     have HOK := zh (okL_mem O2.o _ (List.getElem_mem hlt))
     have HSK := zh (rights_skip (kind := kind) (K2 := K2) hlt)
     have HTK := zh (rights_step (kind := kind) (K2 := K2) hlt)
     clear e3
     generalize hg : L2[k] = g at *
     clear hg
     go_wp2_with fail
     obtain ⟨A, hA⟩ : ∃ A, A = wr.alloc (.cells #[Value.string g.nm, Value.bool g.nl, Value.int IntKind.i64 g.k, Value.int IntKind.i64 g.wd, Value.int IntKind.i64 g.id, Value.int IntKind.i64 g.ix, Value.slice fq g.kids.length cap'] 59) := ⟨_, rfl⟩
     have BA : Below wr.heap.size wr A := by rw [hA]; exact (Below.refl _ wr).alloc (Nat.le_refl _) _
     have ba : BoxN A wr.heap.size 59 [Value.string g.nm, Value.bool g.nl, Value.int IntKind.i64 g.k, Value.int IntKind.i64 g.wd, Value.int IntKind.i64 g.id, Value.int IntKind.i64 g.ix, Value.slice fq g.kids.length cap'] := by rw [hA]; exact BoxN.new wr 59 _
     rw [← hA]
     clear hA
     have HBA := zh BA
     have a0 := ba.row 0 _ rfl
     have a1 := ba.row 1 _ rfl
     have a2 := ba.row 2 _ rfl
     have a3 := ba.row 3 _ rfl
     have a4 := ba.row 4 _ rfl
     have a5 := ba.row 5 _ rfl
     have a6 := ba.row 6 _ rfl
     have hla := ba.lt
     clear c0 c1 c2 c3 c4 c5 c6 ba BA
     refine (has_calls (HK2.o.below (HBw.o.trans (HBA.o.mono HBw.o.size))) k).mono ?_
     rintro e A' ⟨rfl, rfl⟩
     cases hsk : decide (0 ≤ idxI K2 k) with
     | true =>
      have HSK := zh (HSK.o hsk)
      go_wp2_with fail
      exact ⟨⟨k + 1, n, q, c, css, by omega, by rw [HSK.o]; exact HN.o, by go_num, zh (BO.o.below HBA.o BO.o.lt), zh (by rw [HSK.o]; exact HR.o.below HBA.o), zh (HB.o.trans (HBA.o.mono HB.o.size))⟩, by simp [intOf]; omega⟩
     | false =>
      have HTK := zh (HTK.o hsk)
      go_wp2_with fail
      refine (bare_calls g HOK.o A' fq cap' (E3.o.below HBA.o)).mono ?_
      rintro e W5 ⟨p1, cap1, rfl, hfd, hb5⟩
      clear a0 a1 a2 a3 a4 a5 a6 hla
      have HFX := zh hfd
      have HX5 := zh hb5
      have HBb := zh BO.o
      clear hfd hb5
      cases hnl : (bareF g).nl with
      | true =>
       have HRL := zh (show rightF kind g = (bareF g).named (bareF g).nm true by unfold rightF; rw [hnl, Bool.true_or])
       clear hnl
       go_simp
       iterate 10 (first | go_values | go_skip | go_guarded | go_step | go_upon | go_back)
       obtain ⟨WA, hWA⟩ : ∃ WA, WA = W5.alloc (.cells #[Value.string (bareF g).nm, Value.bool true, Value.int IntKind.i64 (bareF g).k, Value.int IntKind.i64 (bareF g).wd, Value.int IntKind.i64 (bareF g).id, Value.int IntKind.i64 (bareF g).ix, Value.slice p1 (bareF g).kids.length cap1] 59) := ⟨_, rfl⟩
       obtain ⟨xd, hxd⟩ : ∃ xd, xd = W5.heap.size := ⟨_, rfl⟩
       have hb2 : Below wr.heap.size wr W5 := HBA.o.trans (HX5.o.mono HBA.o.size)
       have hbD : Below wr.heap.size wr WA := by rw [hWA]; exact hb2.alloc hb2.size _
       have hbE : Below W5.heap.size W5 WA := by rw [hWA]; exact (Below.refl _ _).alloc (Nat.le_refl _) _
       have hbx : BoxN WA xd 59 [Value.string (bareF g).nm, Value.bool true, Value.int IntKind.i64 (bareF g).k, Value.int IntKind.i64 (bareF g).wd, Value.int IntKind.i64 (bareF g).id, Value.int IntKind.i64 (bareF g).ix, Value.slice p1 (bareF g).kids.length cap1] := by rw [hWA, hxd]; exact BoxN.new W5 59 [Value.string (bareF g).nm, Value.bool true, Value.int IntKind.i64 (bareF g).k, Value.int IntKind.i64 (bareF g).wd, Value.int IntKind.i64 (bareF g).id, Value.int IntKind.i64 (bareF g).ix, Value.slice p1 (bareF g).kids.length cap1]
       have hwx : wr.heap.size ≤ xd := by rw [hxd]; exact hb2.size
       have hxs : ∀ b, b < W5.heap.size → b ≠ xd := fun b h => by omega
       rw [← hWA, ← hxd]
       have HBX := zh hbx
       have HDA := zh hbD
       have HEA := zh (And.intro hbE (And.intro hwx hxs))
       clear hWA hxd hb2 hbD hbE hbx hwx hxs
       have kk1 := HBX.o.row 1 _ rfl
       have z1 := HBX.o.frozen 1
       have hld := HBX.o.lt
       iterate 24 (first | go_values | go_skip | go_guarded | go_step | go_upon | go_back)
       obtain ⟨WT, hWT⟩ : ∃ WT, WT = WA.setCell ⟨xd, 1, none⟩ (.bool true) := ⟨_, rfl⟩
       rw [← hWT]
       have HDr := zh (show Below wr.heap.size wr WT by rw [hWT]; exact HDA.o.setCell (p := ⟨xd, 1, none⟩) HEA.o.2.1 _)
       have HBD := zh (show BoxN WT xd 59 [Value.string (bareF g).nm, Value.bool true, Value.int IntKind.i64 (bareF g).k, Value.int IntKind.i64 (bareF g).wd, Value.int IntKind.i64 (bareF g).id, Value.int IntKind.i64 (bareF g).ix, Value.slice p1 (bareF g).kids.length cap1] by rw [hWT]; exact HBX.o.set 1 _)
       have HFD := zh (show FdS (fun b => A'.heap.size ≤ b ∧ b ≠ xd) WT ((bareF g).named (bareF g).nm true) [Value.string (bareF g).nm, Value.bool true, Value.int IntKind.i64 (bareF g).k, Value.int IntKind.i64 (bareF g).wd, Value.int IntKind.i64 (bareF g).id, Value.int IntKind.i64 (bareF g).ix, Value.slice p1 (bareF g).kids.length cap1] by
        rw [hWT]
        exact (HFX.o.keep (T := fun b => A'.heap.size ≤ b ∧ b ≠ xd) (w' := WA.setCell ⟨xd, 1, none⟩ (.bool true)) (fun b hs hlt => ⟨(Below.heap_setCell _ _ _ b (HEA.o.2.2 b hlt)).trans (HEA.o.1.block b hlt), hs, HEA.o.2.2 b hlt⟩)).relet _)
       have HBo := zh (show BoxN WT xo 26 [.slice q n c, .slice none 0 0] by rw [hWT]; exact (HBb.o.below HDA.o HBb.o.lt).other (a := ⟨xd, 1, none⟩) (show xo ≠ xd by have := HBb.o.lt; have := HEA.o.2.1; omega) _)
       have HAs := zh HBA.o.size
       clear hWT HBX HDA HEA kk1 z1 hld HFX HX5
       have HL := zh (show rightF kind g = (bareF g).named (bareF g).nm true from HRL.o)
       obtain ⟨gb, hgb⟩ : ∃ gb, gb = (bareF g).named (bareF g).nm true := ⟨_, rfl⟩
       have HGB := zh (HL.o.trans hgb.symm)
       rw [← hgb] at HFD
       have HFB := zh (show [Value.string (bareF g).nm, Value.bool true, Value.int IntKind.i64 (bareF g).k, Value.int IntKind.i64 (bareF g).wd, Value.int IntKind.i64 (bareF g).id, Value.int IntKind.i64 (bareF g).ix, Value.slice p1 (bareF g).kids.length cap1] = [Value.string gb.nm, Value.bool gb.nl, Value.int IntKind.i64 gb.k, Value.int IntKind.i64 gb.wd, Value.int IntKind.i64 gb.id, Value.int IntKind.i64 gb.ix, Value.slice p1 gb.kids.length cap1] by rw [hgb]; rfl)
       rw [HFB.o] at HBD HFD
       clear HL hgb HFB
       have d0 := HBD.o.row 0 _ rfl
       have d1 := HBD.o.row 1 _ rfl
       have d2 := HBD.o.row 2 _ rfl
       have d3 := HBD.o.row 3 _ rfl
       have d4 := HBD.o.row 4 _ rfl
       have d5 := HBD.o.row 5 _ rfl
       have d6 := HBD.o.row 6 _ rfl
       have hld := HBD.o.lt
       have o0 := HBo.o.row 0 _ rfl
       have hlo := HBo.o.lt
       have hR1 := HR.o.below HDr.o
       have htk := HN.o.symm
       have hown1 : WT.ownsRow (xo + 1) 59 7 (.slice q n c) n (css.flatMap id) := by have := hR1.own; rwa [htk] at this
       have hoff : ∀ j, (Value.slice q n c).ownBlock = some j → j < wr.heap.size := fun j e => (HR.o.own.lt j e).2
       have hxw : xo < wr.heap.size := BO.o.lt
       have hfd1 : FdS (fun b => xo + 1 ≤ b ∧ (Value.slice q n c).ownBlock ≠ some b) WT gb _ := HFD.o.mono (fun b hb => ⟨by have := HAs.o; have := hb.1; omega, fun e => by have := hoff b e; have := HAs.o; have := hb.1; omega⟩)
       have HR1 := zh hR1
       have HO1 := zh hown1
       have HF1 := zh hfd1
       have HTL := zh htk
       have hZ := BoxN.new WT 59 [Value.string gb.nm, Value.bool gb.nl, Value.int IntKind.i64 gb.k, Value.int IntKind.i64 gb.wd, Value.int IntKind.i64 gb.id, Value.int IntKind.i64 gb.ix, Value.slice p1 gb.kids.length cap1]
       have HZ := zh hZ
       have HB6 := zh (HB.o.trans (HDr.o.mono HB.o.size))
       have hs6 := HB6.o.size
       have hxe1 : xo ≤ W4.heap.size := by have := HXO.o; omega
       have hxe2 : W4.heap.size ≤ xo := by have := HXO.o; omega
       clear hR1 hown1 hoff hfd1 hZ htk
       go_wp2_with (at_builtin; refine wpList_append_lies _ rfl _ _ 23 rfl (xo + 1) 59 i1 y1 7 80 und23 hi1 hy1 hsz1 hby1 hyc1 (by decide) (.slice q n c) n (css.flatMap id) rfl (HO1.o.alloc _) ⟨WT.heap.size, 0, none⟩ 1 1 [Value.string gb.nm, Value.bool gb.nl, Value.int IntKind.i64 gb.k, Value.int IntKind.i64 gb.wd, Value.int IntKind.i64 gb.id, Value.int IntKind.i64 gb.ix, Value.slice p1 gb.kids.length cap1] rfl rfl (World.news_of_block HZ.o) (by simp [Value.oneCell']) (by decide) (by unfold maxLen; omega) (by omega) (by simp; omega) (WT.heap.size + 1) (by simp) ?_; intro gg cc w2 hown2 hgrow2 hat2 hlt2; have bx2 := zh (show BoxN w2 xo 26 [.slice q n c, .slice none 0 0] from (hgrow2.block xo (by simp; omega) (fun e => by have := (HO1.o.lt xo e.symm).1; omega)).trans (HBo.o.alloc _)); have o2 := bx2.o.row 0 _ rfl; have f2 := bx2.o.frozen 0; have l2 := bx2.o.lt)
       refine ⟨⟨k + 1, n + 1, some ⟨gg, 0, none⟩, cc, css ++ [[Value.string gb.nm, Value.bool gb.nl, Value.int IntKind.i64 gb.k, Value.int IntKind.i64 gb.wd, Value.int IntKind.i64 gb.id, Value.int IntKind.i64 gb.ix, Value.slice p1 gb.kids.length cap1]], by omega, by rw [HTK.o, ← List.append_assoc, List.length_append, ← HN.o]; rfl, by go_num, zh (bx2.o.set 0 _), zh ?_, zh ((((HB6.o.alloc HB6.o.size _).grown hgrow2 (by have := HB6.o.size; simp; omega) (fun j e => by have := (HO1.o.lt j e).1; omega))).setCell (p := ⟨xo, 0, none⟩) (by simp; omega) _)⟩, by simp [intOf]; omega⟩
       rw [HTK.o, HGB.o, ← List.append_assoc]
       exact ((HR1.o.below ((Below.refl _ WT).alloc (Nat.le_refl _) _)).push (HF1.o.below ((Below.refl _ WT).alloc (Nat.le_refl _) _)) HTL.o hown2 hgrow2 (by rw [World.size_alloc]; exact hat2)).setBelow (a := ⟨xo, 0, none⟩) (by simp) _
      | false =>
       cases hk1 : (kind != 1) with
       | true =>
        have HRL := zh (show rightF kind g = (bareF g).named (bareF g).nm true by unfold rightF; rw [hnl, Bool.false_or, decide_eq_true (by simpa using hk1)])
        clear hnl
        go_simp
        iterate 10 (first | go_values | go_skip | go_guarded | go_step | go_upon | go_back)
        obtain ⟨WA, hWA⟩ : ∃ WA, WA = W5.alloc (.cells #[Value.string (bareF g).nm, Value.bool false, Value.int IntKind.i64 (bareF g).k, Value.int IntKind.i64 (bareF g).wd, Value.int IntKind.i64 (bareF g).id, Value.int IntKind.i64 (bareF g).ix, Value.slice p1 (bareF g).kids.length cap1] 59) := ⟨_, rfl⟩
        obtain ⟨xd, hxd⟩ : ∃ xd, xd = W5.heap.size := ⟨_, rfl⟩
        have hb2 : Below wr.heap.size wr W5 := HBA.o.trans (HX5.o.mono HBA.o.size)
        have hbD : Below wr.heap.size wr WA := by rw [hWA]; exact hb2.alloc hb2.size _
        have hbE : Below W5.heap.size W5 WA := by rw [hWA]; exact (Below.refl _ _).alloc (Nat.le_refl _) _
        have hbx : BoxN WA xd 59 [Value.string (bareF g).nm, Value.bool false, Value.int IntKind.i64 (bareF g).k, Value.int IntKind.i64 (bareF g).wd, Value.int IntKind.i64 (bareF g).id, Value.int IntKind.i64 (bareF g).ix, Value.slice p1 (bareF g).kids.length cap1] := by rw [hWA, hxd]; exact BoxN.new W5 59 [Value.string (bareF g).nm, Value.bool false, Value.int IntKind.i64 (bareF g).k, Value.int IntKind.i64 (bareF g).wd, Value.int IntKind.i64 (bareF g).id, Value.int IntKind.i64 (bareF g).ix, Value.slice p1 (bareF g).kids.length cap1]
        have hwx : wr.heap.size ≤ xd := by rw [hxd]; exact hb2.size
        have hxs : ∀ b, b < W5.heap.size → b ≠ xd := fun b h => by omega
        rw [← hWA, ← hxd]
        have HBX := zh hbx
        have HDA := zh hbD
        have HEA := zh (And.intro hbE (And.intro hwx hxs))
        clear hWA hxd hb2 hbD hbE hbx hwx hxs
        have kk1 := HBX.o.row 1 _ rfl
        have z1 := HBX.o.frozen 1
        have hld := HBX.o.lt
        iterate 29 (first | go_values | go_skip | go_guarded | go_step | go_upon | go_back)
        obtain ⟨WT, hWT⟩ : ∃ WT, WT = WA.setCell ⟨xd, 1, none⟩ (.bool true) := ⟨_, rfl⟩
        rw [← hWT]
        have HDr := zh (show Below wr.heap.size wr WT by rw [hWT]; exact HDA.o.setCell (p := ⟨xd, 1, none⟩) HEA.o.2.1 _)
        have HBD := zh (show BoxN WT xd 59 [Value.string (bareF g).nm, Value.bool true, Value.int IntKind.i64 (bareF g).k, Value.int IntKind.i64 (bareF g).wd, Value.int IntKind.i64 (bareF g).id, Value.int IntKind.i64 (bareF g).ix, Value.slice p1 (bareF g).kids.length cap1] by rw [hWT]; exact HBX.o.set 1 _)
        have HFD := zh (show FdS (fun b => A'.heap.size ≤ b ∧ b ≠ xd) WT ((bareF g).named (bareF g).nm true) [Value.string (bareF g).nm, Value.bool true, Value.int IntKind.i64 (bareF g).k, Value.int IntKind.i64 (bareF g).wd, Value.int IntKind.i64 (bareF g).id, Value.int IntKind.i64 (bareF g).ix, Value.slice p1 (bareF g).kids.length cap1] by
         rw [hWT]
         exact (HFX.o.keep (T := fun b => A'.heap.size ≤ b ∧ b ≠ xd) (w' := WA.setCell ⟨xd, 1, none⟩ (.bool true)) (fun b hs hlt => ⟨(Below.heap_setCell _ _ _ b (HEA.o.2.2 b hlt)).trans (HEA.o.1.block b hlt), hs, HEA.o.2.2 b hlt⟩)).relet _)
        have HBo := zh (show BoxN WT xo 26 [.slice q n c, .slice none 0 0] by rw [hWT]; exact (HBb.o.below HDA.o HBb.o.lt).other (a := ⟨xd, 1, none⟩) (show xo ≠ xd by have := HBb.o.lt; have := HEA.o.2.1; omega) _)
        have HAs := zh HBA.o.size
        clear hWT HBX HDA HEA kk1 z1 hld HFX HX5
        have HL := zh (show rightF kind g = (bareF g).named (bareF g).nm true from HRL.o)
        obtain ⟨gb, hgb⟩ : ∃ gb, gb = (bareF g).named (bareF g).nm true := ⟨_, rfl⟩
        have HGB := zh (HL.o.trans hgb.symm)
        rw [← hgb] at HFD
        have HFB := zh (show [Value.string (bareF g).nm, Value.bool true, Value.int IntKind.i64 (bareF g).k, Value.int IntKind.i64 (bareF g).wd, Value.int IntKind.i64 (bareF g).id, Value.int IntKind.i64 (bareF g).ix, Value.slice p1 (bareF g).kids.length cap1] = [Value.string gb.nm, Value.bool gb.nl, Value.int IntKind.i64 gb.k, Value.int IntKind.i64 gb.wd, Value.int IntKind.i64 gb.id, Value.int IntKind.i64 gb.ix, Value.slice p1 gb.kids.length cap1] by rw [hgb]; rfl)
        rw [HFB.o] at HBD HFD
        clear HL hgb HFB
        have d0 := HBD.o.row 0 _ rfl
        have d1 := HBD.o.row 1 _ rfl
        have d2 := HBD.o.row 2 _ rfl
        have d3 := HBD.o.row 3 _ rfl
        have d4 := HBD.o.row 4 _ rfl
        have d5 := HBD.o.row 5 _ rfl
        have d6 := HBD.o.row 6 _ rfl
        have hld := HBD.o.lt
        have o0 := HBo.o.row 0 _ rfl
        have hlo := HBo.o.lt
        have hR1 := HR.o.below HDr.o
        have htk := HN.o.symm
        have hown1 : WT.ownsRow (xo + 1) 59 7 (.slice q n c) n (css.flatMap id) := by have := hR1.own; rwa [htk] at this
        have hoff : ∀ j, (Value.slice q n c).ownBlock = some j → j < wr.heap.size := fun j e => (HR.o.own.lt j e).2
        have hxw : xo < wr.heap.size := BO.o.lt
        have hfd1 : FdS (fun b => xo + 1 ≤ b ∧ (Value.slice q n c).ownBlock ≠ some b) WT gb _ := HFD.o.mono (fun b hb => ⟨by have := HAs.o; have := hb.1; omega, fun e => by have := hoff b e; have := HAs.o; have := hb.1; omega⟩)
        have HR1 := zh hR1
        have HO1 := zh hown1
        have HF1 := zh hfd1
        have HTL := zh htk
        have hZ := BoxN.new WT 59 [Value.string gb.nm, Value.bool gb.nl, Value.int IntKind.i64 gb.k, Value.int IntKind.i64 gb.wd, Value.int IntKind.i64 gb.id, Value.int IntKind.i64 gb.ix, Value.slice p1 gb.kids.length cap1]
        have HZ := zh hZ
        have HB6 := zh (HB.o.trans (HDr.o.mono HB.o.size))
        have hs6 := HB6.o.size
        have hxe1 : xo ≤ W4.heap.size := by have := HXO.o; omega
        have hxe2 : W4.heap.size ≤ xo := by have := HXO.o; omega
        clear hR1 hown1 hoff hfd1 hZ htk
        go_wp2_with (at_builtin; refine wpList_append_lies _ rfl _ _ 23 rfl (xo + 1) 59 i1 y1 7 80 und23 hi1 hy1 hsz1 hby1 hyc1 (by decide) (.slice q n c) n (css.flatMap id) rfl (HO1.o.alloc _) ⟨WT.heap.size, 0, none⟩ 1 1 [Value.string gb.nm, Value.bool gb.nl, Value.int IntKind.i64 gb.k, Value.int IntKind.i64 gb.wd, Value.int IntKind.i64 gb.id, Value.int IntKind.i64 gb.ix, Value.slice p1 gb.kids.length cap1] rfl rfl (World.news_of_block HZ.o) (by simp [Value.oneCell']) (by decide) (by unfold maxLen; omega) (by omega) (by simp; omega) (WT.heap.size + 1) (by simp) ?_; intro gg cc w2 hown2 hgrow2 hat2 hlt2; have bx2 := zh (show BoxN w2 xo 26 [.slice q n c, .slice none 0 0] from (hgrow2.block xo (by simp; omega) (fun e => by have := (HO1.o.lt xo e.symm).1; omega)).trans (HBo.o.alloc _)); have o2 := bx2.o.row 0 _ rfl; have f2 := bx2.o.frozen 0; have l2 := bx2.o.lt)
        refine ⟨⟨k + 1, n + 1, some ⟨gg, 0, none⟩, cc, css ++ [[Value.string gb.nm, Value.bool gb.nl, Value.int IntKind.i64 gb.k, Value.int IntKind.i64 gb.wd, Value.int IntKind.i64 gb.id, Value.int IntKind.i64 gb.ix, Value.slice p1 gb.kids.length cap1]], by omega, by rw [HTK.o, ← List.append_assoc, List.length_append, ← HN.o]; rfl, by go_num, zh (bx2.o.set 0 _), zh ?_, zh ((((HB6.o.alloc HB6.o.size _).grown hgrow2 (by have := HB6.o.size; simp; omega) (fun j e => by have := (HO1.o.lt j e).1; omega))).setCell (p := ⟨xo, 0, none⟩) (by simp; omega) _)⟩, by simp [intOf]; omega⟩
        rw [HTK.o, HGB.o, ← List.append_assoc]
        exact ((HR1.o.below ((Below.refl _ WT).alloc (Nat.le_refl _) _)).push (HF1.o.below ((Below.refl _ WT).alloc (Nat.le_refl _) _)) HTL.o hown2 hgrow2 (by rw [World.size_alloc]; exact hat2)).setBelow (a := ⟨xo, 0, none⟩) (by simp) _
       | false =>
        have HRL := zh (show rightF kind g = (bareF g).named (bareF g).nm false by unfold rightF; rw [hnl, Bool.false_or, decide_eq_false (by simpa using hk1)])
        clear hnl
        go_simp
        iterate 10 (first | go_values | go_skip | go_guarded | go_step | go_upon | go_back)
        obtain ⟨WA, hWA⟩ : ∃ WA, WA = W5.alloc (.cells #[Value.string (bareF g).nm, Value.bool false, Value.int IntKind.i64 (bareF g).k, Value.int IntKind.i64 (bareF g).wd, Value.int IntKind.i64 (bareF g).id, Value.int IntKind.i64 (bareF g).ix, Value.slice p1 (bareF g).kids.length cap1] 59) := ⟨_, rfl⟩
        obtain ⟨xd, hxd⟩ : ∃ xd, xd = W5.heap.size := ⟨_, rfl⟩
        have hb2 : Below wr.heap.size wr W5 := HBA.o.trans (HX5.o.mono HBA.o.size)
        have hbD : Below wr.heap.size wr WA := by rw [hWA]; exact hb2.alloc hb2.size _
        have hbE : Below W5.heap.size W5 WA := by rw [hWA]; exact (Below.refl _ _).alloc (Nat.le_refl _) _
        have hbx : BoxN WA xd 59 [Value.string (bareF g).nm, Value.bool false, Value.int IntKind.i64 (bareF g).k, Value.int IntKind.i64 (bareF g).wd, Value.int IntKind.i64 (bareF g).id, Value.int IntKind.i64 (bareF g).ix, Value.slice p1 (bareF g).kids.length cap1] := by rw [hWA, hxd]; exact BoxN.new W5 59 [Value.string (bareF g).nm, Value.bool false, Value.int IntKind.i64 (bareF g).k, Value.int IntKind.i64 (bareF g).wd, Value.int IntKind.i64 (bareF g).id, Value.int IntKind.i64 (bareF g).ix, Value.slice p1 (bareF g).kids.length cap1]
        have hwx : wr.heap.size ≤ xd := by rw [hxd]; exact hb2.size
        have hxs : ∀ b, b < W5.heap.size → b ≠ xd := fun b h => by omega
        rw [← hWA, ← hxd]
        have HBX := zh hbx
        have HDA := zh hbD
        have HEA := zh (And.intro hbE (And.intro hwx hxs))
        clear hWA hxd hb2 hbD hbE hbx hwx hxs
        have kk1 := HBX.o.row 1 _ rfl
        have z1 := HBX.o.frozen 1
        have hld := HBX.o.lt
        iterate 29 (first | go_values | go_skip | go_guarded | go_step | go_upon | go_back)
        obtain ⟨WT, hWT⟩ : ∃ WT, WT = WA.setCell ⟨xd, 1, none⟩ (.bool false) := ⟨_, rfl⟩
        rw [← hWT]
        have HDr := zh (show Below wr.heap.size wr WT by rw [hWT]; exact HDA.o.setCell (p := ⟨xd, 1, none⟩) HEA.o.2.1 _)
        have HBD := zh (show BoxN WT xd 59 [Value.string (bareF g).nm, Value.bool false, Value.int IntKind.i64 (bareF g).k, Value.int IntKind.i64 (bareF g).wd, Value.int IntKind.i64 (bareF g).id, Value.int IntKind.i64 (bareF g).ix, Value.slice p1 (bareF g).kids.length cap1] by rw [hWT]; exact HBX.o.set 1 _)
        have HFD := zh (show FdS (fun b => A'.heap.size ≤ b ∧ b ≠ xd) WT ((bareF g).named (bareF g).nm false) [Value.string (bareF g).nm, Value.bool false, Value.int IntKind.i64 (bareF g).k, Value.int IntKind.i64 (bareF g).wd, Value.int IntKind.i64 (bareF g).id, Value.int IntKind.i64 (bareF g).ix, Value.slice p1 (bareF g).kids.length cap1] by
         rw [hWT]
         exact (HFX.o.keep (T := fun b => A'.heap.size ≤ b ∧ b ≠ xd) (w' := WA.setCell ⟨xd, 1, none⟩ (.bool false)) (fun b hs hlt => ⟨(Below.heap_setCell _ _ _ b (HEA.o.2.2 b hlt)).trans (HEA.o.1.block b hlt), hs, HEA.o.2.2 b hlt⟩)).relet _)
        have HBo := zh (show BoxN WT xo 26 [.slice q n c, .slice none 0 0] by rw [hWT]; exact (HBb.o.below HDA.o HBb.o.lt).other (a := ⟨xd, 1, none⟩) (show xo ≠ xd by have := HBb.o.lt; have := HEA.o.2.1; omega) _)
        have HAs := zh HBA.o.size
        clear hWT HBX HDA HEA kk1 z1 hld HFX HX5
        have HL := zh (show rightF kind g = (bareF g).named (bareF g).nm false from HRL.o)
        obtain ⟨gb, hgb⟩ : ∃ gb, gb = (bareF g).named (bareF g).nm false := ⟨_, rfl⟩
        have HGB := zh (HL.o.trans hgb.symm)
        rw [← hgb] at HFD
        have HFB := zh (show [Value.string (bareF g).nm, Value.bool false, Value.int IntKind.i64 (bareF g).k, Value.int IntKind.i64 (bareF g).wd, Value.int IntKind.i64 (bareF g).id, Value.int IntKind.i64 (bareF g).ix, Value.slice p1 (bareF g).kids.length cap1] = [Value.string gb.nm, Value.bool gb.nl, Value.int IntKind.i64 gb.k, Value.int IntKind.i64 gb.wd, Value.int IntKind.i64 gb.id, Value.int IntKind.i64 gb.ix, Value.slice p1 gb.kids.length cap1] by rw [hgb]; rfl)
        rw [HFB.o] at HBD HFD
        clear HL hgb HFB
        have d0 := HBD.o.row 0 _ rfl
        have d1 := HBD.o.row 1 _ rfl
        have d2 := HBD.o.row 2 _ rfl
        have d3 := HBD.o.row 3 _ rfl
        have d4 := HBD.o.row 4 _ rfl
        have d5 := HBD.o.row 5 _ rfl
        have d6 := HBD.o.row 6 _ rfl
        have hld := HBD.o.lt
        have o0 := HBo.o.row 0 _ rfl
        have hlo := HBo.o.lt
        have hR1 := HR.o.below HDr.o
        have htk := HN.o.symm
        have hown1 : WT.ownsRow (xo + 1) 59 7 (.slice q n c) n (css.flatMap id) := by have := hR1.own; rwa [htk] at this
        have hoff : ∀ j, (Value.slice q n c).ownBlock = some j → j < wr.heap.size := fun j e => (HR.o.own.lt j e).2
        have hxw : xo < wr.heap.size := BO.o.lt
        have hfd1 : FdS (fun b => xo + 1 ≤ b ∧ (Value.slice q n c).ownBlock ≠ some b) WT gb _ := HFD.o.mono (fun b hb => ⟨by have := HAs.o; have := hb.1; omega, fun e => by have := hoff b e; have := HAs.o; have := hb.1; omega⟩)
        have HR1 := zh hR1
        have HO1 := zh hown1
        have HF1 := zh hfd1
        have HTL := zh htk
        have hZ := BoxN.new WT 59 [Value.string gb.nm, Value.bool gb.nl, Value.int IntKind.i64 gb.k, Value.int IntKind.i64 gb.wd, Value.int IntKind.i64 gb.id, Value.int IntKind.i64 gb.ix, Value.slice p1 gb.kids.length cap1]
        have HZ := zh hZ
        have HB6 := zh (HB.o.trans (HDr.o.mono HB.o.size))
        have hs6 := HB6.o.size
        have hxe1 : xo ≤ W4.heap.size := by have := HXO.o; omega
        have hxe2 : W4.heap.size ≤ xo := by have := HXO.o; omega
        clear hR1 hown1 hoff hfd1 hZ htk
        go_wp2_with (at_builtin; refine wpList_append_lies _ rfl _ _ 23 rfl (xo + 1) 59 i1 y1 7 80 und23 hi1 hy1 hsz1 hby1 hyc1 (by decide) (.slice q n c) n (css.flatMap id) rfl (HO1.o.alloc _) ⟨WT.heap.size, 0, none⟩ 1 1 [Value.string gb.nm, Value.bool gb.nl, Value.int IntKind.i64 gb.k, Value.int IntKind.i64 gb.wd, Value.int IntKind.i64 gb.id, Value.int IntKind.i64 gb.ix, Value.slice p1 gb.kids.length cap1] rfl rfl (World.news_of_block HZ.o) (by simp [Value.oneCell']) (by decide) (by unfold maxLen; omega) (by omega) (by simp; omega) (WT.heap.size + 1) (by simp) ?_; intro gg cc w2 hown2 hgrow2 hat2 hlt2; have bx2 := zh (show BoxN w2 xo 26 [.slice q n c, .slice none 0 0] from (hgrow2.block xo (by simp; omega) (fun e => by have := (HO1.o.lt xo e.symm).1; omega)).trans (HBo.o.alloc _)); have o2 := bx2.o.row 0 _ rfl; have f2 := bx2.o.frozen 0; have l2 := bx2.o.lt)
        refine ⟨⟨k + 1, n + 1, some ⟨gg, 0, none⟩, cc, css ++ [[Value.string gb.nm, Value.bool gb.nl, Value.int IntKind.i64 gb.k, Value.int IntKind.i64 gb.wd, Value.int IntKind.i64 gb.id, Value.int IntKind.i64 gb.ix, Value.slice p1 gb.kids.length cap1]], by omega, by rw [HTK.o, ← List.append_assoc, List.length_append, ← HN.o]; rfl, by go_num, zh (bx2.o.set 0 _), zh ?_, zh ((((HB6.o.alloc HB6.o.size _).grown hgrow2 (by have := HB6.o.size; simp; omega) (fun j e => by have := (HO1.o.lt j e).1; omega))).setCell (p := ⟨xo, 0, none⟩) (by simp; omega) _)⟩, by simp [intOf]; omega⟩
        rw [HTK.o, HGB.o, ← List.append_assoc]
        exact ((HR1.o.below ((Below.refl _ WT).alloc (Nat.le_refl _) _)).push (HF1.o.below ((Below.refl _ WT).alloc (Nat.le_refl _) _)) HTL.o hown2 hgrow2 (by rw [World.size_alloc]; exact hat2)).setBelow (a := ⟨xo, 0, none⟩) (by simp) _
    ·obtain rfl : k = L2.length := by omega
     have hR := HR.o
     rw [List.take_length] at hR
     have HR := zh (show RowF wr (xo + 1) (.slice q n c) (outL kind L1 K1 L2 K2) css from hR)
     have HNL := zh (show n = (outL kind L1 K1 L2 K2).length by have := HN.o; rwa [List.take_length] at this)
     clear hR HN
     have o0 := BO.o.row 0 _ rfl
     have o1 := BO.o.row 1 _ rfl
     have hlo := BO.o.lt
     have HFL := zh (show FdsAt wr (outL kind L1 K1 L2 K2) (.slice q n c) from ⟨q, c, congrArg (fun m => Value.slice q m c) HNL.o, HR.o.room.1, HR.o.room.2, FdsS.at HR.o.list⟩)
     go_wp2_with fail
     refine (check_calls (NS := []) HFL.o ⟨none, 0, rfl, Nat.le_refl _, Nat.zero_le _, fun i hi => absurd hi (Nat.not_lt_zero _)⟩ (HS.o.below HBw.o)).mono ?_
     rintro e W5 ⟨d, path, at', rfl, ⟨q', c', rfl, -, -, -⟩, hb5⟩
     have HB5 := zh hb5
     have HB5w := zh (HBw.o.trans (hb5.mono HBw.o.size))
     have BO5 := zh (BO.o.below hb5 BO.o.lt)
     have BB5 := zh (A3.o.below (HB4.o.trans ((HB.o.trans (hb5.mono HB.o.size)).mono HB4.o.size)) A3.o.lt)
     clear hb5 o0 o1 hlo
     have o0 := BO5.o.row 0 _ rfl
     have o1 := BO5.o.row 1 _ rfl
     have hlo := BO5.o.lt
     have q0 := BB5.o.row 0 _ rfl
     have q1 := BB5.o.row 1 _ rfl
     have z0 := BB5.o.frozen 0
     have z1 := BB5.o.frozen 1
     have hl5 := BB5.o.lt
     have hne : w.heap.size + 1 + 1 ≠ W5.heap.size := by omega
     rw [show sizesOf [] = [] from rfl]
     obtain ⟨fe, hfe⟩ : ∃ fe, fe = schemaE (outL kind L1 K1 L2 K2) [] := ⟨_, rfl⟩
     rw [← hfe] at HT ⊢
     cases hx : (fe != 0) with
     | true =>
      have HE := zh (show typeS kind L1 (sizesOf N1) K1 L2 (sizesOf N2) K2 = ([], fe) by rw [HT.o, if_pos (by simpa using hx)])
      clear hfe HT
      go_wp2_with fail
      refine Late.region (fun w' => w'.cell? ⟨W5.heap.size, 0, none⟩ = some (.int .i64 fe)) (fun _ => false) (by kernel_rfl) ?_
      have HZ := BoxN.new W5 64 [.int .i64 fe, .slice q' d c', .int .i64 at']
      have HS0 := zh (show (W5.alloc (.cells #[.int .i64 fe, .slice q' d c', .int .i64 at'] 64)).drew.cell? ⟨W5.heap.size, 0, none⟩ = some (.int .i64 fe) from HZ.row 0 _ rfl)
      refine Late.tk (i := 0) (v := ?_) rfl (by kernel_rfl) ⟨by rfl, ?_⟩ HS0.o ?_
      rotate_left
      ·intro w' hS
       have r0 := hS
       go_simp
       rfl
      refine Late.tk (i := 1) (v := ?_) rfl (by kernel_rfl) ⟨by rfl, ?_⟩ HS0.o ?_
      rotate_left
      ·intro w' hS
       have r0 := hS
       go_simp
       rfl
      refine Late.tk (i := 2) (v := ?_) rfl (by kernel_rfl) ⟨by rfl, ?_⟩ HS0.o ?_
      rotate_left
      ·intro w' hS
       have r0 := hS
       go_simp
       rfl
      refine Late.one (i := 3) (by kernel_rfl) rfl (fun K hK => ?_)
      go_simp
      obtain ⟨X, hX⟩ : ∃ X, X = (W5.setCell ⟨w.heap.size + 1 + 1, 0, none⟩ (.slice none 0 0)).setCell ⟨w.heap.size + 1 + 1, 1, none⟩ (.slice none 0 0) := ⟨_, rfl⟩
      have hXs : X.heap.size = W5.heap.size := by rw [hX]; simp
      have hXb := zh (show BoxN X (w.heap.size + 1 + 1) 26 [.slice none 0 0, .slice none 0 0] by rw [hX]; exact put2_box rfl BB5.o _ _)
      have hXw := zh (show Below w.heap.size w X by rw [hX]; exact put2_below HB5w.o (by omega) _ _)
      have HS1 := zh (show (X.alloc (.cells #[.int .i64 fe, .slice q' d c', .int .i64 at'] 64)).drew.cell? ⟨W5.heap.size, 0, none⟩ = some (.int .i64 fe) by rw [← hXs]; exact (BoxN.new X 64 [.int .i64 fe, .slice q' d c', .int .i64 at']).row 0 _ rfl)
      rw [← hX]
      clear hX
      refine hK _ _ (fun _ => HS1.o) ?_
      clear hK K
      refine Late.tk (i := 4) (v := ?_) rfl (by kernel_rfl) ⟨by rfl, ?_⟩ HS1.o ?_
      rotate_left
      ·intro w' hS
       have r0 := hS
       go_simp
       rfl
      refine Late.done (by kernel_rfl) ?_ _
      go_wp2_with fail
      rw [HE.o]
      exact schema_back (i := 10) (j := 11) rfl (show BoxN (X.alloc (.cells #[.int .i64 fe, .slice q' d c', .int .i64 at'] 64)).drew (w.heap.size + 1 + 1) 26 [.slice none 0 0, .slice none 0 0] from hXb.o.alloc _) (below_drew (hXw.o.alloc hXw.o.size _)) (fds_none _) rfl rfl
     | false =>
      have HE := zh (show typeS kind L1 (sizesOf N1) K1 L2 (sizesOf N2) K2 = (outL kind L1 K1 L2 K2, 0) by rw [HT.o, if_neg (by simpa using hx)])
      clear hfe HT
      go_wp2_with fail
      rw [HE.o]
      refine schema_back (i := 10) (j := 11) rfl ((put2_box rfl BB5.o _ _).alloc _) ((put2_below HB5w.o (by omega) _ _).alloc (put2_below HB5w.o (by omega) _ _).size _) ⟨q, c, congrArg (fun m => Value.slice q m c) HNL.o, HR.o.room.1, HR.o.room.2, FdsS.at (FdsS.keep (T := fun _ => True) (fun b hs hlt => ⟨?_, trivial⟩) HR.o.list)⟩ rfl rfl
      have h5 := HB5.o.size
      have hne2 : b ≠ w.heap.size + 1 + 1 := by have := HXO.o; omega
      exact (((Below.refl _ _).alloc (Nat.le_refl _) _).block b (by simp; omega)).trans ((Below.heap_setCell _ _ _ b hne2).trans ((Below.heap_setCell _ _ _ b hne2).trans (HB5.o.block b hlt)))
end Go.Fld
