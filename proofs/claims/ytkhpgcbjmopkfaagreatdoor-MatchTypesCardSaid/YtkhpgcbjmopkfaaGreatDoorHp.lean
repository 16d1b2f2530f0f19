import Derived.Test.YtkhpgcbjmopkfaaGreatDoorHo
import Derived.Test.YtkhpgcbjmopkfaaGreatDoorHj
import Derived.Test.YtkhpgcbjmopkfaaGreatDoorHm
set_option linter.unusedVariables false
set_option maxRecDepth 100000
/-!
  THE SCHEMA OF A JOIN: the reference's Type. No conditions.
-/
namespace Go.Fld
open Go Go.RowKit Go.Proofs Go.ChangeShapes Go.WideShapes Go.ChangeAt Go.Shelf

/-- The cells of a list of fields, one behind the other. -/
theorem fdsC_flat {w : World} {b o : Nat} : ∀ {L : List Fd} {off : Nat}, FdsC w (some ⟨b, o, none⟩) off L →
    ∃ css : List (List Value), css.length = L.length ∧ (∀ cs ∈ css, cs.length = 7 ∧ ∀ u ∈ cs, u.oneCell' = true) ∧ (∀ (i : Nat) (h : i < L.length) (h' : i < css.length), FdAt w L[i] css[i]) ∧ ∀ (j : Nat) (u : Value), (css.flatMap id)[j]? = some u → w.cell? ⟨b, o + off + j, none⟩ = some u
  | [], off, h => ⟨[], rfl, (fun _ h => by cases h), (fun i h => absurd h (Nat.not_lt_zero _)), (fun j u hj => by cases hj)⟩
  | f :: r, off, h => by
    simp only [FdsC] at h
    obtain ⟨⟨b', o', cs, e, h2, h3⟩, h4⟩ := h
    cases e
    obtain ⟨css, c1, c2, c3, c4⟩ := fdsC_flat h4
    obtain ⟨p, cap, hs, _⟩ := h3.shape
    refine ⟨cs :: css, by simp [c1], fun x hx => ?_, fun i hi hi' => ?_, fun j u hj => ?_⟩
    · rcases List.mem_cons.1 hx with e | e
      · rw [e, hs]; exact ⟨rfl, fun u hu => by simp at hu; rcases hu with rfl | rfl | rfl | rfl | rfl | rfl | rfl <;> rfl⟩
      · exact c2 x e
    · cases i with
      | zero => exact h3
      | succ i => exact c3 i (by simpa using hi) (by simpa using hi')
    · have h7 : cs.length = 7 := by rw [hs]; rfl
      simp only [List.flatMap_cons, id] at hj
      by_cases hlt : j < 7
      · rw [List.getElem?_append_left (by omega)] at hj
        exact h2 j u hj
      · rw [List.getElem?_append_right (by omega), h7] at hj
        have := c4 (j - 7) u hj
        rwa [show o + (off + 7) + (j - 7) = o + off + j by omega] at this

/-- Fields that were copied, cell by cell. -/
theorem fdsC_copied {w w' : World} {g : Nat} {L : List Fd} {css : List (List Value)} (h1 : css.length = L.length) (h2 : ∀ cs ∈ css, cs.length = 7) (h3 : ∀ (i : Nat) (h : i < L.length) (h' : i < css.length), FdAt w L[i] css[i]) (hb : Below w.heap.size w w') (h4 : ∀ (j : Nat) (u : Value), (css.flatMap id)[j]? = some u → w'.cell? ⟨g, j, none⟩ = some u) : FdsC w' (some ⟨g, 0, none⟩) 0 L :=
  FdsC.mk' fun i hi => ⟨g, 0, css[i]'(by omega), rfl, fun j u hj => by
    have hj7 : j < 7 := by
      have := (List.getElem?_eq_some_iff.1 hj).1
      rwa [h2 _ (List.getElem_mem (by omega))] at this
    have := h4 (i * 7 + j) u (by rw [flat_get' 7 css h2 i (by omega) j hj7]; exact hj)
    rwa [show 0 + (0 + 7 * i) + j = i * 7 + j by omega], (h3 i hi (by omega)).below hb⟩

theorem askedE_some {kind : Int} {L1 L2 : List Fd} {K1 K2 : List Int} (h : askedE kind L1 K1 L2 K2 = 0) : 0 < L1.length := by
  have hk := askedE_zero h
  have h0 : 0 < K1.length := by
    unfold askedE at h
    rw [if_neg (by omega)] at h
    by_cases e : K1.length = 0
    · rw [if_pos (.inl (.inr (.inl e)))] at h; cases h
    · omega
  have := (hk.2.2.1 0 h0).1
  omega

set_option maxHeartbeats 16000000 in
theorem rtype_calls {w : World} {L1 L2 : List Fd} {N1 N2 : List (ByteArray × ByteArray)} {K1 K2 : List Int} {f1 n1 k1 f2 n2 k2 rv1 cv1 rv2 cv2 : Value} (kind : Int) (hL1 : FdsAt w L1 f1) (hN1 : NtsAt w N1 n1) (hK1 : IntsAt w K1 k1) (hL2 : FdsAt w L2 f2) (hN2 : NtsAt w N2 n2) (hK2 : IntsAt w K2 k2) :
    Calls Tryz.prog 9 #[.int .i64 kind, .agg #[f1, n1, rv1, cv1, k1], .agg #[f2, n2, rv2, cv2, k2]] w (SchemaPost w (typeS kind L1 (sizesOf N1) K1 L2 (sizesOf N2) K2)) := by
  have HL1 := Lib.hid hL1
  have HL2 := Lib.hid hL2
  have HN1 := Lib.hid hN1
  have HN2 := Lib.hid hN2
  have HK1 := Lib.hid hK1
  have HK2 := Lib.hid hK2
  obtain ⟨fp1, fc1, rfl, -, -, -⟩ := hL1
  obtain ⟨fp2, fc2, rfl, -, -, -⟩ := hL2
  obtain ⟨np1, nc1, rfl, -, -, -⟩ := hN1
  obtain ⟨np2, nc2, rfl, -, -, -⟩ := hN2
  obtain ⟨kp1, kc1, rfl, -, -, -⟩ := hK1
  obtain ⟨kp2, kc2, rfl, -, -, -⟩ := hK2
  obtain ⟨W, hW⟩ : ∃ W, W = ((w.alloc (.cells #[.slice fp1 L1.length fc1, .slice np1 N1.length nc1, rv1, cv1, .slice kp1 K1.length kc1] 32)).alloc (.cells #[.slice fp2 L2.length fc2, .slice np2 N2.length nc2, rv2, cv2, .slice kp2 K2.length kc2] 32)).alloc (.cells #[.slice none 0 0, .slice none 0 0] 26) := ⟨_, rfl⟩
  have a1 : BoxN W w.heap.size 32 [.slice fp1 L1.length fc1, .slice np1 N1.length nc1, rv1, cv1, .slice kp1 K1.length kc1] := by
    rw [hW]
    exact ((BoxN.new w 32 [.slice fp1 L1.length fc1, .slice np1 N1.length nc1, rv1, cv1, .slice kp1 K1.length kc1]).alloc _).alloc _
  have a2 : BoxN W (w.heap.size + 1) 32 [.slice fp2 L2.length fc2, .slice np2 N2.length nc2, rv2, cv2, .slice kp2 K2.length kc2] := by
    rw [hW]
    have := (BoxN.new (w.alloc (.cells #[.slice fp1 L1.length fc1, .slice np1 N1.length nc1, rv1, cv1, .slice kp1 K1.length kc1] 32)) 32 [.slice fp2 L2.length fc2, .slice np2 N2.length nc2, rv2, cv2, .slice kp2 K2.length kc2]).alloc (.cells #[.slice none 0 0, .slice none 0 0] 26)
    rwa [World.size_alloc] at this
  have a3 : BoxN W (w.heap.size + 1 + 1) 26 [.slice none 0 0, .slice none 0 0] := by
    rw [hW]
    have := BoxN.new ((w.alloc (.cells #[.slice fp1 L1.length fc1, .slice np1 N1.length nc1, rv1, cv1, .slice kp1 K1.length kc1] 32)).alloc (.cells #[.slice fp2 L2.length fc2, .slice np2 N2.length nc2, rv2, cv2, .slice kp2 K2.length kc2] 32)) 26 [.slice none 0 0, .slice none 0 0]
    rwa [World.size_alloc, World.size_alloc] at this
  have hBW : Below w.heap.size w W := by rw [hW]; exact (((Below.refl _ w).alloc (Nat.le_refl _) _).alloc (by simp) _).alloc (by simp; omega) _
  have A1 := Lib.hid a1
  have A2 := Lib.hid a2
  have A3 := Lib.hid a3
  have HBW := Lib.hid hBW
  have HW := Lib.hid hW
  clear a1 a2 a3 hBW hW
  go_enter Tryz.func9, Tryz.ntmps9
  go_wp2_with fail
  rw [← HW.out]
  clear HW
  refine (rcheck_calls (HL1.out.below HBW.out) (HN1.out.below HBW.out)).mono ?_
  rintro e W2 ⟨d, path, at', rfl, ⟨q', c', rfl, -, -, -⟩, hb2⟩
  have HBU := Lib.hid hb2
  have HB2 := Lib.hid (HBW.out.trans (hb2.mono HBW.out.size))
  have BB3 := Lib.hid (A3.out.below hb2 A3.out.lt)
  have B2 := A2.out.below hb2 A2.out.lt
  have r0 := B2.row 0 _ rfl
  have r1 := B2.row 1 _ rfl
  have q0 := BB3.out.row 0 _ rfl
  have q1 := BB3.out.row 1 _ rfl
  have z0 := BB3.out.frozen 0
  have z1 := BB3.out.frozen 1
  have hl2 := B2.lt
  have hl3 := BB3.out.lt
  clear hb2 B2
  obtain ⟨fe1, hfe1⟩ : ∃ fe1, fe1 = schemaE L1 (sizesOf N1) := ⟨_, rfl⟩
  rw [← hfe1]
  have HF1 := Lib.hid hfe1
  have hfd := field64 fe1 at' q' d c' W2
  clear hfe1
  cases e1 : (fe1 != 0) with
  | true =>
    have HE := Lib.hid (show typeS kind L1 (sizesOf N1) K1 L2 (sizesOf N2) K2 = ([], 5) by unfold typeS; rw [if_pos (.inl (by rw [← HF1.out]; simpa using e1))])
    go_wp2_with fail
    rw [HE.out]
    exact schema_back (i := 6) (j := 7) rfl (put2_box rfl BB3.out _ _) (put2_below HB2.out (by omega) _ _) (fds_none _) rfl rfl
  | false =>
  have M1 : schemaE L1 (sizesOf N1) = 0 := by rw [← HF1.out]; simpa using e1
  have HM1 := Lib.hid M1
  clear M1
  go_wp2_with fail
  refine (rcheck_calls (HL2.out.below HB2.out) (HN2.out.below HB2.out)).mono ?_
  rintro e W3 ⟨d2, path2, at2, rfl, ⟨q2, c2, rfl, -, -, -⟩, hb3⟩
  have HBV := Lib.hid (HBU.out.trans (hb3.mono HBU.out.size))
  have HB3 := Lib.hid (HB2.out.trans (hb3.mono HB2.out.size))
  clear hb3 r0 r1 q0 q1 z0 z1 hl2 hl3 BB3 hfd e1
  have B1 := A1.out.below HBV.out A1.out.lt
  have B2 := A2.out.below HBV.out A2.out.lt
  have BB3 := Lib.hid (A3.out.below HBV.out A3.out.lt)
  have p0 := B1.row 0 _ rfl
  have p1 := B1.row 1 _ rfl
  have p2 := B1.row 2 _ rfl
  have p3 := B1.row 3 _ rfl
  have p4 := B1.row 4 _ rfl
  have r0 := B2.row 0 _ rfl
  have r1 := B2.row 1 _ rfl
  have r2 := B2.row 2 _ rfl
  have r3 := B2.row 3 _ rfl
  have r4 := B2.row 4 _ rfl
  have q0 := BB3.out.row 0 _ rfl
  have q1 := BB3.out.row 1 _ rfl
  have z0 := BB3.out.frozen 0
  have z1 := BB3.out.frozen 1
  have hl1 := B1.lt
  have hl2 := B2.lt
  have hl3 := BB3.out.lt
  clear B1 B2
  obtain ⟨fe2, hfe2⟩ : ∃ fe2, fe2 = schemaE L2 (sizesOf N2) := ⟨_, rfl⟩
  rw [← hfe2]
  have HF2 := Lib.hid hfe2
  have hfd := field64 fe2 at2 q2 d2 c2 W3
  clear hfe2
  cases e2 : (fe2 != 0) with
  | true =>
    have HE := Lib.hid (show typeS kind L1 (sizesOf N1) K1 L2 (sizesOf N2) K2 = ([], 5) by unfold typeS; rw [if_pos (.inr (by rw [← HF2.out]; simpa using e2))])
    go_wp2_with fail
    rw [HE.out]
    exact schema_back (i := 6) (j := 7) rfl (put2_box rfl BB3.out _ _) (put2_below HB3.out (by omega) _ _) (fds_none _) rfl rfl
  | false =>
  have M2 : schemaE L2 (sizesOf N2) = 0 := by rw [← HF2.out]; simpa using e2
  have M1 := HM1.out
  have O1 := Lib.hid (checkE_ok (schemaE_ok M1).1)
  have O2 := Lib.hid (checkE_ok (schemaE_ok M2).1)
  have S1 := Lib.hid (schemaE_ok M1).2
  have S2 := Lib.hid (schemaE_ok M2).2
  have HT := Lib.hid (show typeS kind L1 (sizesOf N1) K1 L2 (sizesOf N2) K2 = if askedE kind L1 K1 L2 K2 ≠ 0 then ([], askedE kind L1 K1 L2 K2) else if 4 ≤ kind then (L1, 0) else if schemaE (outL kind L1 K1 L2 K2) [] ≠ 0 then ([], schemaE (outL kind L1 K1 L2 K2) []) else (outL kind L1 K1 L2 K2, 0) by unfold typeS; rw [if_neg (by simp [M1, M2])])
  clear M1 M2 HM1 HF1 HF2
  go_wp2_with fail
  refine (rasked_calls kind (HL1.out.below HB3.out) (HK1.out.below HB3.out) (HL2.out.below HB3.out) (HK2.out.below HB3.out) O1.out.1 O2.out.1 O1.out.2 O2.out.2).mono ?_
  rintro e W4 ⟨rfl, hb4⟩
  have HB4 := Lib.hid (HBV.out.trans (hb4.mono HBV.out.size))
  have HB4w := Lib.hid (HB3.out.trans (hb4.mono HB3.out.size))
  clear hb4 HBV HB3 HBU HB2 p0 p1 p2 p3 p4 r0 r1 r2 r3 r4 q0 q1 z0 z1 hl1 hl2 hl3 BB3 hfd e2
  have BB3 := Lib.hid (A3.out.below HB4.out A3.out.lt)
  have BB1 := Lib.hid (A1.out.below HB4.out A1.out.lt)
  have p0 := BB1.out.row 0 _ rfl
  have hl1 := BB1.out.lt
  have q0 := BB3.out.row 0 _ rfl
  have q1 := BB3.out.row 1 _ rfl
  have z0 := BB3.out.frozen 0
  have z1 := BB3.out.frozen 1
  have hl3 := BB3.out.lt
  have AZ := Lib.hid (@askedE_zero kind L1 L2 K1 K2)
  have AS := Lib.hid (@askedE_some kind L1 L2 K1 K2)
  generalize askedE kind L1 K1 L2 K2 = er at *
  by_cases her : er ≠ 0
  · have HE := Lib.hid (show typeS kind L1 (sizesOf N1) K1 L2 (sizesOf N2) K2 = ([], er) by rw [HT.out, if_pos her])
    have hx1 : (er != 0) = true := by simpa using her
    have hx2 : (er == 0) = false := by simpa using her
    clear HT AZ AS her
    go_wp2_with fail
    rw [HE.out]
    exact schema_back (i := 6) (j := 7) rfl (put2_box rfl BB3.out _ _) (put2_below HB4w.out (by omega) _ _) (fds_none _) rfl rfl
  have her : er = 0 := by omega
  obtain ⟨⟨hk1, hk5⟩, hKL, hK1, hK2⟩ := AZ.out her
  have HSL := Lib.hid (AS.out her)
  have HKL := Lib.hid hKL
  have HKO1 := Lib.hid hK1
  have HKO2 := Lib.hid hK2
  replace HT := Lib.hid (show typeS kind L1 (sizesOf N1) K1 L2 (sizesOf N2) K2 = if 4 ≤ kind then (L1, 0) else if schemaE (outL kind L1 K1 L2 K2) [] ≠ 0 then ([], schemaE (outL kind L1 K1 L2 K2) []) else (outL kind L1 K1 L2 K2, 0) by rw [HT.out, if_neg (by simp [her])])
  clear AZ AS hKL hK1 hK2
  subst her
  obtain ⟨i1, y1, hi1, hy1, hyc1, hsz1, hby1⟩ := info28_parts
  by_cases hk4 : 4 ≤ kind
  · have HE := Lib.hid (show typeS kind L1 (sizesOf N1) K1 L2 (sizesOf N2) K2 = (L1, 0) by rw [HT.out, if_pos hk4])
    clear HT
    have hk4' : decide (kind ≥ 4) = true := decide_eq_true hk4
    obtain ⟨fq, fcc, eF, hlf, hmf, hCF⟩ := HL1.out
    cases eF
    obtain ⟨b0, o0, _, _, rfl, _⟩ := hCF.seven 0 HSL.out
    obtain ⟨css, c1, c2, c3, c4⟩ := fdsC_flat hCF
    have HC1 := Lib.hid c1
    have HC2 := Lib.hid c2
    have HC3 := Lib.hid c3
    have HC4 := Lib.hid c4
    have hsm : L1.length ≤ 32 := S1.out
    have hsp : 0 < L1.length := HSL.out
    have HFLN := Lib.hid (show (css.flatMap id).length = L1.length * 7 by
      rw [← HC1.out]
      have : ∀ l : List (List Value), (∀ cs ∈ l, cs.length = 7) → (l.flatMap id).length = l.length * 7 := fun l => by
        induction l with
        | nil => intro _; rfl
        | cons a l ih => intro h; simp only [List.flatMap_cons, List.length_append, List.length_cons, id]; rw [h a (by simp), ih (fun cs hcs => h cs (by simp [hcs]))]; omega
      exact this css (fun cs hcs => (HC2.out cs hcs).1))
    clear c1 c2 c3 c4 hCF hlf hmf
    go_simp
    iterate 50 (first | go_values | go_skip | go_guarded | go_step | go_upon | go_back)
    obtain ⟨V, hV⟩ : ∃ V, V = W4.alloc (.cells #[.slice none 0 0, .slice none 0 0] 26) := ⟨_, rfl⟩
    have bv : BoxN V W4.heap.size 26 [.slice none 0 0, .slice none 0 0] := by rw [hV]; exact BoxN.new W4 26 _
    have hbv : Below W4.heap.size W4 V := by rw [hV]; exact (Below.refl _ W4).alloc (Nat.le_refl _) _
    rw [← hV]
    clear hV
    obtain ⟨xo, hxo⟩ : ∃ xo, xo = W4.heap.size := ⟨_, rfl⟩
    rw [← hxo] at bv ⊢
    have HXO := Lib.hid hxo
    have BV := Lib.hid bv
    have HVw := Lib.hid (HB4w.out.trans (hbv.mono HB4w.out.size))
    have HVW := Lib.hid (HB4.out.trans (hbv.mono HB4.out.size))
    have h3l : w.heap.size + 1 + 1 < xo := by omega
    clear hxo bv hbv p0 q0 q1 z0 z1 hl1 hl3 hk4'
    have BB1 := Lib.hid (A1.out.below HVW.out A1.out.lt)
    have p0 := BB1.out.row 0 _ rfl
    have hl1 := BB1.out.lt
    have o0x := BV.out.row 0 _ rfl
    have o1x := BV.out.row 1 _ rfl
    have hlx := BV.out.lt
    have hxv : xo + 1 ≤ V.heap.size := hlx
    go_wp2_with (at_builtin; refine wpList_append_lies _ rfl _ _ 23 rfl (xo + 1) 59 i1 y1 7 80 und23 hi1 hy1 hsz1 hby1 hyc1 (by decide) (.slice none 0 0) 0 [] rfl (World.ownsRow_nil _ _ _ _) ⟨b0, o0, none⟩ L1.length _ (css.flatMap id) rfl HFLN.out (fun j u hu => by rw [show (⟨b0, o0, none⟩ : Addr).add j = ⟨b0, o0 + j, none⟩ from Open.add_plain _ _ _]; have h := HC4.out j u hu; rw [Nat.add_zero] at h; exact cell_below HVw.out h) (fun u hu => by obtain ⟨cs, h1, h2⟩ := List.mem_flatMap.1 hu; exact (HC2.out cs h1).2 u h2) hsp (by unfold maxLen; omega) (by omega) hxv V.heap.size rfl ?_; intro gg cc w2 hown2 hgrow2 hat2 hlt2; have bx2 := Lib.hid (show BoxN w2 xo 26 [.slice none 0 0, .slice none 0 0] from (hgrow2.block xo hlx (fun e => by simp [Value.ownBlock] at e)).trans BV.out); have o0y := bx2.out.row 0 _ rfl; have o1y := bx2.out.row 1 _ rfl; have f2 := bx2.out.frozen 0; have l2 := bx2.out.lt; have bb2 := Lib.hid (show BoxN w2 (w.heap.size + 1 + 1) 26 [.slice none 0 0, .slice none 0 0] from (hgrow2.block _ (Nat.lt_trans h3l hlx) (fun e => by simp [Value.ownBlock] at e)).trans (A3.out.below HVW.out A3.out.lt)); have q0y := bb2.out.row 0 _ rfl; have q1y := bb2.out.row 1 _ rfl; have z0y := bb2.out.frozen 0; have z1y := bb2.out.frozen 1; have l3 := bb2.out.lt; have HG2 := Lib.hid (And.intro hown2 hgrow2))
    rw [HE.out]
    obtain ⟨hown, hgrow⟩ := HG2.out
    have hgg : gg = V.heap.size := by rcases hat2 with e | e; · simp [Value.ownBlock] at e
                                      · exact e
    have hw2 : Below w.heap.size w w2 := HVw.out.grown hgrow HVw.out.size (fun j e => by simp [Value.ownBlock] at e)
    have hwF : Below w.heap.size w (((w2.setCell ⟨xo, 0, none⟩ (.slice (some ⟨gg, 0, none⟩) L1.length cc)).setCell ⟨w.heap.size + 1 + 1, 0, none⟩ (.slice (some ⟨gg, 0, none⟩) L1.length cc)).setCell ⟨w.heap.size + 1 + 1, 1, none⟩ (.slice none 0 0)) := put2_below (hw2.setCell (p := ⟨xo, 0, none⟩) (show w.heap.size ≤ xo by omega) _) (by omega) _ _
    have hroom : L1.length ≤ cc ∧ cc ≤ maxLen := by
      rcases hown.2 with ⟨e, hn⟩ | ⟨g, c, cur, e, _, _, h1, h2, _⟩
      · simp at e
      · cases e; exact ⟨by omega, h2⟩
    refine schema_back (i := 6) (j := 7) rfl (put2_box rfl (bb2.out.other (a := ⟨xo, 0, none⟩) (show w.heap.size + 1 + 1 ≠ xo by omega) _) _ _) hwF ⟨some ⟨gg, 0, none⟩, cc, rfl, hroom.1, hroom.2, fdsC_copied HC1.out (fun cs h => (HC2.out cs h).1) HC3.out hwF (fun j u hu => ?_)⟩ rfl rfl
    have h1 := hown.cells (g := gg) rfl j u (by simpa using hu)
    rw [show (⟨gg, 0, none⟩ : Addr).add j = ⟨gg, j, none⟩ by have := Open.add_plain gg 0 j; simpa using this] at h1
    have n1 : gg ≠ xo := by omega
    have n2 : gg ≠ w.heap.size + 1 + 1 := by omega
    exact (World.cell?_of_block ((Below.heap_setCell _ _ _ gg n2).trans ((Below.heap_setCell _ _ _ gg n2).trans (Below.heap_setCell _ _ _ gg n1)))).trans h1
  replace HT := Lib.hid (show typeS kind L1 (sizesOf N1) K1 L2 (sizesOf N2) K2 = if schemaE (outL kind L1 K1 L2 K2) [] ≠ 0 then ([], schemaE (outL kind L1 K1 L2 K2) []) else (outL kind L1 K1 L2 K2, 0) by rw [HT.out, if_neg hk4])
  have hk4' : decide (kind ≥ 4) = false := decide_eq_false hk4
  go_wp2_with fail
  obtain ⟨V, hV⟩ : ∃ V, V = W4.alloc (.cells #[.slice none 0 0, .slice none 0 0] 26) := ⟨_, rfl⟩
  have bv : BoxN V W4.heap.size 26 [.slice none 0 0, .slice none 0 0] := by rw [hV]; exact BoxN.new W4 26 _
  have hbv : Below W4.heap.size W4 V := by rw [hV]; exact (Below.refl _ W4).alloc (Nat.le_refl _) _
  rw [← hV]
  clear hV
  obtain ⟨xo, hxo⟩ : ∃ xo, xo = W4.heap.size := ⟨_, rfl⟩
  rw [← hxo] at bv ⊢
  have HXO := Lib.hid hxo
  have BV := Lib.hid bv
  have HV := Lib.hid hbv
  obtain ⟨_, _, eL, hlc1, hmc1, hC1⟩ := HL1.out
  cases eL
  unfold maxLen at hmc1
  have HC1 := Lib.hid hC1
  have h3l : w.heap.size + 1 + 1 < xo := by omega
  clear hxo bv hbv hC1 p0 q0 q1 z0 z1 hl1 hl3 hk4'
  go_loopw [10] (fun i wr => ∃ (k : Nat) (q : Option Addr) (c : Nat) (css : List (List Value)), k ≤ L1.length ∧ i = .int .i64 k ∧ Hid (BoxN wr xo 26 [.slice q k c, .slice none 0 0]) ∧ Hid (RowF wr (xo + 1) (.slice q k c) (lefts kind K1 L2 K2 0 (L1.take k)) css) ∧ Hid (Below W4.heap.size W4 wr)) (fun i _ => L1.length - (intOf i).toNat)
  case atStart => exact ⟨0, none, 0, [], by omega, rfl, BV, Lib.hid (RowF.nil _ _), HV⟩
  case round =>
    obtain ⟨k, q, c, css, hk, rfl, BO, HR, HB⟩ := hrel
    have HBw := Lib.hid (HB4w.out.trans (HB.out.mono HB4w.out.size))
    have HBo4 := Lib.hid (HB4.out.trans (HB.out.mono HB4.out.size))
    have A1r := Lib.hid (A1.out.below HBo4.out A1.out.lt)
    have p0 := A1r.out.row 0 _ rfl
    have hl1 := A1r.out.lt
    by_cases hlt : k < L1.length
    · obtain ⟨b', o', fq, cap', rfl, e3, c0, c1, c2, c3, c4, c5, c6⟩ := HC1.out.seven k hlt
      have E3 := Lib.hid (e3.below HBw.out)
      replace c0 := cell_below HBw.out c0
      replace c1 := cell_below HBw.out c1
      replace c2 := cell_below HBw.out c2
      replace c3 := cell_below HBw.out c3
      replace c4 := cell_below HBw.out c4
      replace c5 := cell_below HBw.out c5
      replace c6 := cell_below HBw.out c6
      have HOK := Lib.hid (okL_mem O1.out.1 _ (List.getElem_mem hlt))
      have HTK := Lib.hid (lefts_step (kind := kind) (K1 := K1) (L2 := L2) (K2 := K2) hlt)
      clear e3
      generalize hg : L1[k] = g at *
      clear hg
      go_wp2_with fail
      refine (rbare_calls' g HOK.out wr fq cap' E3.out).mono ?_
      rintro e W5 ⟨p1, cap1, rfl, hfd, hb5⟩
      have HX5 := Lib.hid hb5.size
      have A1s := A1r.out.below hb5 A1r.out.lt
      clear c0 c1 c2 c3 c4 c5 c6 p0 hl1
      have p4 := A1s.row 4 _ rfl
      have hl1 := A1s.lt
      have hfX := Lib.hid hfd
      have hbX := Lib.hid hb5
      clear hfd hb5 A1s
      go_wp2_with fail
      have hfd := hfX.out
      have hb5 := hbX.out
      obtain ⟨D, hD⟩ : ∃ D, D = W5.alloc (.cells #[Value.string (bareF g).nm, Value.bool (bareF g).nl, Value.int IntKind.i64 (bareF g).k, Value.int IntKind.i64 (bareF g).wd, Value.int IntKind.i64 (bareF g).id, Value.int IntKind.i64 (bareF g).ix, Value.slice p1 (bareF g).kids.length cap1] 59) := ⟨_, rfl⟩
      have bd : BoxN D W5.heap.size 59 [Value.string (bareF g).nm, Value.bool (bareF g).nl, Value.int IntKind.i64 (bareF g).k, Value.int IntKind.i64 (bareF g).wd, Value.int IntKind.i64 (bareF g).id, Value.int IntKind.i64 (bareF g).ix, Value.slice p1 (bareF g).kids.length cap1] := by rw [hD]; exact BoxN.new W5 59 _
      have hbD : Below W5.heap.size W5 D := by rw [hD]; exact (Below.refl _ W5).alloc (Nat.le_refl _) _
      rw [← hD]
      clear hD
      have hfD : FdS (fun b => wr.heap.size ≤ b ∧ b ≠ W5.heap.size) D (bareF g) [.string (bareF g).nm, .bool (bareF g).nl, .int .i64 (bareF g).k, .int .i64 (bareF g).wd, .int .i64 (bareF g).id, .int .i64 (bareF g).ix, .slice p1 (bareF g).kids.length cap1] := hfd.keep (fun b hs hlt => ⟨hbD.block b hlt, hs, by omega⟩)
      have hbDr : Below wr.heap.size wr D := hb5.trans (hbD.mono hb5.size)
      have HBD := Lib.hid bd
      have HFD := Lib.hid hfD
      have HDr := Lib.hid hbDr
      have HAs := Lib.hid (Nat.le_refl wr.heap.size)
      have HBo := Lib.hid (BO.out.below hbDr BO.out.lt)
      have HDw := Lib.hid (HBw.out.trans (hbDr.mono HBw.out.size))
      clear hb5 hbD hfd bd hfD hbDr hfX hbX p4 hl1
      refine (among_calls (HK1.out.below HDw.out) k).mono ?_
      rintro e W6 ⟨rfl, rfl⟩
      by_cases hk3 : kind = 3
      · have b3 : (kind == 3) = true := by simpa using hk3
        obtain ⟨xd, hxd⟩ : ∃ xd, xd = W5.heap.size := ⟨_, rfl⟩
        rw [← hxd] at HBD HFD ⊢
        have HXD := Lib.hid (show wr.heap.size ≤ xd by rw [hxd]; exact HX5.out)
        clear hxd HX5 HBo
        by_cases hidx : idxI K1 k < 0
        · have hA1 : decide (idxI K1 k < 0) = true := decide_eq_true hidx
          have hA2 : decide (idxI K1 k ≥ 0) = false := decide_eq_false (by omega)
          have HHL := Lib.hid (leftF_none (K1 := K1) (L2 := L2) (K2 := K2) (g := g) hk3 hidx)
          clear hk3 hidx
          have kk1 := HBD.out.row 1 _ rfl
          have z1 := HBD.out.frozen 1
          have hld := HBD.out.lt
          go_simp
          iterate 42 (first | go_values | go_skip | go_guarded | go_step | go_upon | go_back)

          have HW6 := Lib.hid (Below.refl W6.heap.size W6)
          obtain ⟨WT, hWT⟩ : ∃ WT, WT = W6.setCell ⟨xd, 1, none⟩ (.bool true) := ⟨_, rfl⟩
          have hDX : Below wr.heap.size wr W6 := HDr.out.trans (HW6.out.mono HDr.out.size)
          have hX1 : BoxN W6 xd 59 [Value.string (bareF g).nm, Value.bool (bareF g).nl, Value.int IntKind.i64 (bareF g).k, Value.int IntKind.i64 (bareF g).wd, Value.int IntKind.i64 (bareF g).id, Value.int IntKind.i64 (bareF g).ix, Value.slice p1 (bareF g).kids.length cap1] := HBD.out.below HW6.out HBD.out.lt
          have HBT := Lib.hid (show BoxN WT xd 59 [Value.string (bareF g).nm, Value.bool true, Value.int IntKind.i64 (bareF g).k, Value.int IntKind.i64 (bareF g).wd, Value.int IntKind.i64 (bareF g).id, Value.int IntKind.i64 (bareF g).ix, Value.slice p1 (bareF g).kids.length cap1] by rw [hWT]; exact hX1.set 1 _)
          have HFT := Lib.hid (show FdS (fun b => wr.heap.size ≤ b ∧ b ≠ xd) WT ((bareF g).named (bareF g).nm true) [Value.string (bareF g).nm, Value.bool true, Value.int IntKind.i64 (bareF g).k, Value.int IntKind.i64 (bareF g).wd, Value.int IntKind.i64 (bareF g).id, Value.int IntKind.i64 (bareF g).ix, Value.slice p1 (bareF g).kids.length cap1] by
            rw [hWT]
            exact (HFD.out.keep (T := fun b => wr.heap.size ≤ b ∧ b ≠ xd) (w' := W6.setCell ⟨xd, 1, none⟩ (.bool true)) (fun b hs hlt => ⟨(Below.heap_setCell _ _ _ b hs.2).trans (HW6.out.block b hlt), hs⟩)).relet _)
          have HDT := Lib.hid (show Below wr.heap.size wr WT by rw [hWT]; exact hDX.setCell (p := ⟨xd, 1, none⟩) (by have := HXD.out; have := HAs.out; show wr.heap.size ≤ xd; omega) _)
          have HBo := Lib.hid (show BoxN WT xo 26 [.slice q k c, .slice none 0 0] by rw [hWT]; exact (BO.out.below hDX BO.out.lt).other (a := ⟨xd, 1, none⟩) (by have := BO.out.lt; have := HXD.out; have := HAs.out; show xo ≠ xd; omega) _)
          rw [← hWT]
          clear hWT hDX hX1 HBD HFD HDr kk1 z1
          have HBD := HBT
          have HFD := HFT
          have HDr := HDT
          clear HBT HFT HDT
          have HL := Lib.hid (show leftF kind K1 L2 K2 k g = (bareF g).named (bareF g).nm true from HHL.out)
          obtain ⟨gb, hgb⟩ : ∃ gb, gb = (bareF g).named (bareF g).nm true := ⟨_, rfl⟩
          have HGB := Lib.hid (HL.out.trans hgb.symm)
          rw [← hgb] at HFD
          have HFB := Lib.hid (show [Value.string (bareF g).nm, Value.bool true, Value.int IntKind.i64 (bareF g).k, Value.int IntKind.i64 (bareF g).wd, Value.int IntKind.i64 (bareF g).id, Value.int IntKind.i64 (bareF g).ix, Value.slice p1 (bareF g).kids.length cap1] = [Value.string gb.nm, Value.bool gb.nl, Value.int IntKind.i64 gb.k, Value.int IntKind.i64 gb.wd, Value.int IntKind.i64 gb.id, Value.int IntKind.i64 gb.ix, Value.slice p1 gb.kids.length cap1] by rw [hgb]; rfl)
          rw [HFB.out] at HBD HFD
          clear HL hgb HFB
          have d0 := HBD.out.row 0 _ rfl
          have d1 := HBD.out.row 1 _ rfl
          have d2 := HBD.out.row 2 _ rfl
          have d3 := HBD.out.row 3 _ rfl
          have d4 := HBD.out.row 4 _ rfl
          have d5 := HBD.out.row 5 _ rfl
          have d6 := HBD.out.row 6 _ rfl
          have hld := HBD.out.lt
          have o0 := HBo.out.row 0 _ rfl
          have hlo := HBo.out.lt
          have hR1 := HR.out.below HDr.out
          have htk : (lefts kind K1 L2 K2 0 (L1.take k)).length = k := by rw [lefts_length, List.length_take]; omega
          have hown1 : WT.ownsRow (xo + 1) 59 7 (.slice q k c) k (css.flatMap id) := by have := hR1.own; rwa [htk] at this
          have hoff : ∀ j, (Value.slice q k c).ownBlock = some j → j < wr.heap.size := fun j e => (HR.out.own.lt j e).2
          have hxw : xo < wr.heap.size := BO.out.lt
          have hfd1 : FdS (fun b => xo + 1 ≤ b ∧ (Value.slice q k c).ownBlock ≠ some b) WT gb _ := HFD.out.mono (fun b hb => ⟨by have := HAs.out; have := hb.1; omega, fun e => by have := hoff b e; have := HAs.out; have := hb.1; omega⟩)
          have HR1 := Lib.hid hR1
          have HO1 := Lib.hid hown1
          have HF1 := Lib.hid hfd1
          have HTL := Lib.hid htk
          have hZ := BoxN.new WT 59 [Value.string gb.nm, Value.bool gb.nl, Value.int IntKind.i64 gb.k, Value.int IntKind.i64 gb.wd, Value.int IntKind.i64 gb.id, Value.int IntKind.i64 gb.ix, Value.slice p1 gb.kids.length cap1]
          have HZ := Lib.hid hZ
          have HB6 := Lib.hid (HB.out.trans (HDr.out.mono HB.out.size))
          have hs6 := HB6.out.size
          have hxe1 : xo ≤ W4.heap.size := by have := HXO.out; omega
          have hxe2 : W4.heap.size ≤ xo := by have := HXO.out; omega
          have hsmall : L1.length ≤ 32 := S1.out
          clear hR1 hown1 hoff hfd1 hZ htk
          go_wp2_with (at_builtin; refine wpList_append_lies _ rfl _ _ 23 rfl (xo + 1) 59 i1 y1 7 80 und23 hi1 hy1 hsz1 hby1 hyc1 (by decide) (.slice q k c) k (css.flatMap id) rfl (HO1.out.alloc _) ⟨WT.heap.size, 0, none⟩ 1 1 [Value.string gb.nm, Value.bool gb.nl, Value.int IntKind.i64 gb.k, Value.int IntKind.i64 gb.wd, Value.int IntKind.i64 gb.id, Value.int IntKind.i64 gb.ix, Value.slice p1 gb.kids.length cap1] rfl rfl (World.news_of_block HZ.out) (by simp [Value.oneCell']) (by decide) (by unfold maxLen; omega) (by omega) (by simp; omega) (WT.heap.size + 1) (by simp) ?_; intro gg cc w2 hown2 hgrow2 hat2 hlt2; have bx2 := Lib.hid (show BoxN w2 xo 26 [.slice q k c, .slice none 0 0] from (hgrow2.block xo (by simp; omega) (fun e => by have := (HO1.out.lt xo e.symm).1; omega)).trans (HBo.out.alloc _)); have o2 := bx2.out.row 0 _ rfl; have f2 := bx2.out.frozen 0; have l2 := bx2.out.lt)
          refine ⟨⟨k + 1, some ⟨gg, 0, none⟩, cc, css ++ [[Value.string gb.nm, Value.bool gb.nl, Value.int IntKind.i64 gb.k, Value.int IntKind.i64 gb.wd, Value.int IntKind.i64 gb.id, Value.int IntKind.i64 gb.ix, Value.slice p1 gb.kids.length cap1]], by omega, by go_num, Lib.hid (bx2.out.set 0 _), Lib.hid ?_, Lib.hid ((((HB6.out.alloc HB6.out.size _).grown hgrow2 (by have := HB6.out.size; simp; omega) (fun j e => by have := (HO1.out.lt j e).1; omega))).setCell (p := ⟨xo, 0, none⟩) (by simp; omega) _)⟩, by simp [intOf]; omega⟩
          rw [HTK.out, HGB.out]
          exact ((HR1.out.below ((Below.refl _ WT).alloc (Nat.le_refl _) _)).push (HF1.out.below ((Below.refl _ WT).alloc (Nat.le_refl _) _)) HTL.out hown2 hgrow2 (by rw [World.size_alloc]; exact hat2)).setBelow (a := ⟨xo, 0, none⟩) (by simp) _
        cases hnl : (bareF g).nl with
        | true =>
          have hA1 : decide (idxI K1 k < 0) = false := decide_eq_false hidx
          have hA2 : decide (idxI K1 k ≥ 0) = true := decide_eq_true (by omega)
          have HHL := Lib.hid (leftF_nl (K1 := K1) (L2 := L2) (K2 := K2) (g := g) hk3 hidx hnl)
          rw [hnl] at HBD
          clear hk3 hidx hnl
          have kk1 := HBD.out.row 1 _ rfl
          have z1 := HBD.out.frozen 1
          have hld := HBD.out.lt
          go_wp2_with fail
          refine Mix.region 18 (by kernel_rfl) rfl ?_
          refine Mix.phase (ft := 1) (ph := [0, 1, 2, 3, 4, 5, 6, 7, 8, 9, 10, 11, 12, 13, 14, 15, 16]) (.cons rfl (.cons rfl (.cons rfl (.cons rfl (.cons rfl (.cons rfl (.cons rfl (.cons rfl (.cons rfl (.cons rfl (.cons rfl (.cons rfl (.cons rfl (.cons rfl (.cons rfl (.cons rfl (.cons rfl (.nil)))))))))))))))))) (by kernel_rfl) ?_
          repeat (go_big_quiet_step (fail))
          refine wpQuiet_nil ?_
          rintro _ ⟨nq, rfl⟩
          refine Mix.alone (i := 17) (by kernel_rfl) rfl (by rfl) (fun K hK => ?_)
          go_step
          have HW6 := Lib.hid (below_drewN (Below.refl W6.heap.size W6) (1 + nq))
          obtain ⟨WT, hWT⟩ : ∃ WT, WT = (W6.drewN (1 + nq)).setCell ⟨xd, 1, none⟩ (.bool true) := ⟨_, rfl⟩
          have hDX : Below wr.heap.size wr (W6.drewN (1 + nq)) := HDr.out.trans (HW6.out.mono HDr.out.size)
          have hX1 : BoxN (W6.drewN (1 + nq)) xd 59 [Value.string (bareF g).nm, Value.bool true, Value.int IntKind.i64 (bareF g).k, Value.int IntKind.i64 (bareF g).wd, Value.int IntKind.i64 (bareF g).id, Value.int IntKind.i64 (bareF g).ix, Value.slice p1 (bareF g).kids.length cap1] := HBD.out.below HW6.out HBD.out.lt
          have HBT := Lib.hid (show BoxN WT xd 59 [Value.string (bareF g).nm, Value.bool true, Value.int IntKind.i64 (bareF g).k, Value.int IntKind.i64 (bareF g).wd, Value.int IntKind.i64 (bareF g).id, Value.int IntKind.i64 (bareF g).ix, Value.slice p1 (bareF g).kids.length cap1] by rw [hWT]; exact hX1.set 1 _)
          have HFT := Lib.hid (show FdS (fun b => wr.heap.size ≤ b ∧ b ≠ xd) WT ((bareF g).named (bareF g).nm true) [Value.string (bareF g).nm, Value.bool true, Value.int IntKind.i64 (bareF g).k, Value.int IntKind.i64 (bareF g).wd, Value.int IntKind.i64 (bareF g).id, Value.int IntKind.i64 (bareF g).ix, Value.slice p1 (bareF g).kids.length cap1] by
            rw [hWT]
            exact (HFD.out.keep (T := fun b => wr.heap.size ≤ b ∧ b ≠ xd) (w' := (W6.drewN (1 + nq)).setCell ⟨xd, 1, none⟩ (.bool true)) (fun b hs hlt => ⟨(Below.heap_setCell _ _ _ b hs.2).trans (HW6.out.block b hlt), hs⟩)).relet _)
          have HDT := Lib.hid (show Below wr.heap.size wr WT by rw [hWT]; exact hDX.setCell (p := ⟨xd, 1, none⟩) (by have := HXD.out; have := HAs.out; show wr.heap.size ≤ xd; omega) _)
          have HBo := Lib.hid (show BoxN WT xo 26 [.slice q k c, .slice none 0 0] by rw [hWT]; exact (BO.out.below hDX BO.out.lt).other (a := ⟨xd, 1, none⟩) (by have := BO.out.lt; have := HXD.out; have := HAs.out; show xo ≠ xd; omega) _)
          rw [← hWT]
          clear hWT hDX hX1 HBD HFD HDr kk1 z1
          refine hK _ _ ?_
          clear hK K
          refine Mix.done (by kernel_rfl) ?_
          have HBD := HBT
          have HFD := HFT
          have HDr := HDT
          clear HBT HFT HDT
          have HL := Lib.hid (show leftF kind K1 L2 K2 k g = (bareF g).named (bareF g).nm true from HHL.out)
          obtain ⟨gb, hgb⟩ : ∃ gb, gb = (bareF g).named (bareF g).nm true := ⟨_, rfl⟩
          have HGB := Lib.hid (HL.out.trans hgb.symm)
          rw [← hgb] at HFD
          have HFB := Lib.hid (show [Value.string (bareF g).nm, Value.bool true, Value.int IntKind.i64 (bareF g).k, Value.int IntKind.i64 (bareF g).wd, Value.int IntKind.i64 (bareF g).id, Value.int IntKind.i64 (bareF g).ix, Value.slice p1 (bareF g).kids.length cap1] = [Value.string gb.nm, Value.bool gb.nl, Value.int IntKind.i64 gb.k, Value.int IntKind.i64 gb.wd, Value.int IntKind.i64 gb.id, Value.int IntKind.i64 gb.ix, Value.slice p1 gb.kids.length cap1] by rw [hgb]; rfl)
          rw [HFB.out] at HBD HFD
          clear HL hgb HFB
          have d0 := HBD.out.row 0 _ rfl
          have d1 := HBD.out.row 1 _ rfl
          have d2 := HBD.out.row 2 _ rfl
          have d3 := HBD.out.row 3 _ rfl
          have d4 := HBD.out.row 4 _ rfl
          have d5 := HBD.out.row 5 _ rfl
          have d6 := HBD.out.row 6 _ rfl
          have hld := HBD.out.lt
          have o0 := HBo.out.row 0 _ rfl
          have hlo := HBo.out.lt
          have hR1 := HR.out.below HDr.out
          have htk : (lefts kind K1 L2 K2 0 (L1.take k)).length = k := by rw [lefts_length, List.length_take]; omega
          have hown1 : WT.ownsRow (xo + 1) 59 7 (.slice q k c) k (css.flatMap id) := by have := hR1.own; rwa [htk] at this
          have hoff : ∀ j, (Value.slice q k c).ownBlock = some j → j < wr.heap.size := fun j e => (HR.out.own.lt j e).2
          have hxw : xo < wr.heap.size := BO.out.lt
          have hfd1 : FdS (fun b => xo + 1 ≤ b ∧ (Value.slice q k c).ownBlock ≠ some b) WT gb _ := HFD.out.mono (fun b hb => ⟨by have := HAs.out; have := hb.1; omega, fun e => by have := hoff b e; have := HAs.out; have := hb.1; omega⟩)
          have HR1 := Lib.hid hR1
          have HO1 := Lib.hid hown1
          have HF1 := Lib.hid hfd1
          have HTL := Lib.hid htk
          have hZ := BoxN.new WT 59 [Value.string gb.nm, Value.bool gb.nl, Value.int IntKind.i64 gb.k, Value.int IntKind.i64 gb.wd, Value.int IntKind.i64 gb.id, Value.int IntKind.i64 gb.ix, Value.slice p1 gb.kids.length cap1]
          have HZ := Lib.hid hZ
          have HB6 := Lib.hid (HB.out.trans (HDr.out.mono HB.out.size))
          have hs6 := HB6.out.size
          have hxe1 : xo ≤ W4.heap.size := by have := HXO.out; omega
          have hxe2 : W4.heap.size ≤ xo := by have := HXO.out; omega
          have hsmall : L1.length ≤ 32 := S1.out
          clear hR1 hown1 hoff hfd1 hZ htk
          go_wp2_with (at_builtin; refine wpList_append_lies _ rfl _ _ 23 rfl (xo + 1) 59 i1 y1 7 80 und23 hi1 hy1 hsz1 hby1 hyc1 (by decide) (.slice q k c) k (css.flatMap id) rfl (HO1.out.alloc _) ⟨WT.heap.size, 0, none⟩ 1 1 [Value.string gb.nm, Value.bool gb.nl, Value.int IntKind.i64 gb.k, Value.int IntKind.i64 gb.wd, Value.int IntKind.i64 gb.id, Value.int IntKind.i64 gb.ix, Value.slice p1 gb.kids.length cap1] rfl rfl (World.news_of_block HZ.out) (by simp [Value.oneCell']) (by decide) (by unfold maxLen; omega) (by omega) (by simp; omega) (WT.heap.size + 1) (by simp) ?_; intro gg cc w2 hown2 hgrow2 hat2 hlt2; have bx2 := Lib.hid (show BoxN w2 xo 26 [.slice q k c, .slice none 0 0] from (hgrow2.block xo (by simp; omega) (fun e => by have := (HO1.out.lt xo e.symm).1; omega)).trans (HBo.out.alloc _)); have o2 := bx2.out.row 0 _ rfl; have f2 := bx2.out.frozen 0; have l2 := bx2.out.lt)
          refine ⟨⟨k + 1, some ⟨gg, 0, none⟩, cc, css ++ [[Value.string gb.nm, Value.bool gb.nl, Value.int IntKind.i64 gb.k, Value.int IntKind.i64 gb.wd, Value.int IntKind.i64 gb.id, Value.int IntKind.i64 gb.ix, Value.slice p1 gb.kids.length cap1]], by omega, by go_num, Lib.hid (bx2.out.set 0 _), Lib.hid ?_, Lib.hid ((((HB6.out.alloc HB6.out.size _).grown hgrow2 (by have := HB6.out.size; simp; omega) (fun j e => by have := (HO1.out.lt j e).1; omega))).setCell (p := ⟨xo, 0, none⟩) (by simp; omega) _)⟩, by simp [intOf]; omega⟩
          rw [HTK.out, HGB.out]
          exact ((HR1.out.below ((Below.refl _ WT).alloc (Nat.le_refl _) _)).push (HF1.out.below ((Below.refl _ WT).alloc (Nat.le_refl _) _)) HTL.out hown2 hgrow2 (by rw [World.size_alloc]; exact hat2)).setBelow (a := ⟨xo, 0, none⟩) (by simp) _
        | false =>
          have hA1 : decide (idxI K1 k < 0) = false := decide_eq_false hidx
          obtain ⟨j, hij, hj1⟩ := idxI_some hidx
          have hj2 : j < K2.length := by have := HKL.out; omega
          obtain ⟨⟨kc0, kc1⟩, _⟩ := HKO2.out j hj2
          obtain ⟨cc, hcc⟩ : ∃ cc : Nat, K2[j] = cc := ⟨K2[j].toNat, by omega⟩
          have hcl : cc < L2.length := by omega
          have HHL := Lib.hid (leftF_key (K1 := K1) (L2 := L2) (K2 := K2) (g := g) hk3 hij hnl hj2 hcc hcl)
          obtain ⟨_, _, eL2, hlc2, hmc2, hC2⟩ := HL2.out
          cases eL2
          obtain ⟨_, _, eK2, hlk2, hmk2, hD2⟩ := HK2.out
          cases eK2
          unfold maxLen at hmc2 hmk2
          obtain ⟨hxb, bk, ok, rfl, kz⟩ := hD2 j hj2
          rw [hcc] at kz
          obtain ⟨b2, o2, p2, c2, rfl, g2, s0, s1, s2, s3, s4, s5, s6⟩ := hC2.seven cc hcl
          have OKM := Lib.hid (okL_mem O2.out.1 _ (List.getElem_mem hcl))
          have hbw : Below w.heap.size w W6 := HDw.out
          have FM := Lib.hid (g2.below hbw)
          generalize L2[cc] = m at *
          have A2r := A2.out.below (HB4.out.trans ((HB.out.trans (HDr.out.mono HB.out.size)).mono HB4.out.size)) A2.out.lt
          rw [hnl] at HBD
          have f0 := HBD.out.row 1 _ rfl
          have f1 := A2r.row 0 _ rfl
          have f2 := A2r.row 4 _ rfl
          replace kz := cell_below hbw kz
          replace s0 := cell_below hbw s0
          replace s1 := cell_below hbw s1
          replace s2 := cell_below hbw s2
          replace s3 := cell_below hbw s3
          replace s4 := cell_below hbw s4
          replace s5 := cell_below hbw s5
          replace s6 := cell_below hbw s6
          have hl2b := A2r.lt
          have hA2 : decide (idxI K1 k ≥ 0) = true := decide_eq_true (by omega)
          rw [hij] at hA1 hA2 ⊢
          clear hk3 hidx g2 hC2 hD2 hbw hcc kc0 kc1 hij A2r hnl
          have hld := HBD.out.lt
          go_wp2_with fail
          refine Mix.region 18 (by kernel_rfl) rfl ?_
          refine Mix.phase (ft := 5) (ph := [0, 1, 2, 3, 4, 5, 6, 7, 8, 9, 10, 11, 12]) (.cons rfl (.cons rfl (.cons rfl (.cons rfl (.cons rfl (.cons rfl (.cons rfl (.cons rfl (.cons rfl (.cons rfl (.cons rfl (.cons rfl (.cons rfl (.nil)))))))))))))) (by kernel_rfl) ?_
          repeat (go_big_quiet_step (fail))
          refine wpQuiet_nil ?_
          rintro _ ⟨nq, rfl⟩
          refine Mix.alone (i := 13) (by kernel_rfl) rfl (by rfl) (fun K hK => ?_)
          go_step
          refine (rbare_calls' m OKM.out (W6.drewN (1 + nq)) p2 c2 (FM.out.below (below_drewN (Below.refl _ W6) (1 + nq)))).mono ?_
          rintro e W7 ⟨u2, v2, rfl, hg2, hb7⟩
          have HW7 := Lib.hid ((below_drewN (Below.refl W6.heap.size W6) (1 + nq)).trans hb7)
          clear hg2 hb7
          refine hK _ _ ?_
          clear hK K s0 s1 s2 s3 s4 s5 s6 f0 f1 f2 kz
          have hfe := fun w' => field59_1 (.string (bareF m).nm) (.bool (bareF m).nl) (.int .i64 (bareF m).k) (.int .i64 (bareF m).wd) (.int .i64 (bareF m).id) (.int .i64 (bareF m).ix) (.slice u2 (bareF m).kids.length v2) w'
          refine Mix.phase (ft := 1) (ph := [14, 15, 16]) (.cons rfl (.cons rfl (.cons rfl (.nil)))) (by kernel_rfl) ?_
          repeat (go_big_quiet_step (fail))
          refine wpQuiet_nil ?_
          rintro _ ⟨nr, rfl⟩
          have HW8 := Lib.hid (HW7.out.trans ((below_drewN (Below.refl W7.heap.size W7) nr).mono HW7.out.size))
          obtain ⟨ml, hml⟩ : ∃ ml, ml = (bareF m).nl := ⟨_, rfl⟩
          rw [← hml] at HHL ⊢
          clear hfe hml FM OKM
          have kk1 := (HBD.out.below HW7.out HBD.out.lt).row 1 _ rfl
          have z1 := (HBD.out.below HW7.out HBD.out.lt).frozen 1
          have hl7 := (HBD.out.below HW7.out HBD.out.lt).lt
          refine Mix.alone (i := 17) (by kernel_rfl) rfl (by rfl) (fun K hK => ?_)
          go_step
          obtain ⟨WT, hWT⟩ : ∃ WT, WT = (W7.drewN nr).setCell ⟨xd, 1, none⟩ (.bool ml) := ⟨_, rfl⟩
          have hDX : Below wr.heap.size wr (W7.drewN nr) := HDr.out.trans (HW8.out.mono HDr.out.size)
          have hX1 : BoxN (W7.drewN nr) xd 59 [Value.string (bareF g).nm, Value.bool false, Value.int IntKind.i64 (bareF g).k, Value.int IntKind.i64 (bareF g).wd, Value.int IntKind.i64 (bareF g).id, Value.int IntKind.i64 (bareF g).ix, Value.slice p1 (bareF g).kids.length cap1] := HBD.out.below HW8.out HBD.out.lt
          have HBT := Lib.hid (show BoxN WT xd 59 [Value.string (bareF g).nm, Value.bool ml, Value.int IntKind.i64 (bareF g).k, Value.int IntKind.i64 (bareF g).wd, Value.int IntKind.i64 (bareF g).id, Value.int IntKind.i64 (bareF g).ix, Value.slice p1 (bareF g).kids.length cap1] by rw [hWT]; exact hX1.set 1 _)
          have HFT := Lib.hid (show FdS (fun b => wr.heap.size ≤ b ∧ b ≠ xd) WT ((bareF g).named (bareF g).nm ml) [Value.string (bareF g).nm, Value.bool ml, Value.int IntKind.i64 (bareF g).k, Value.int IntKind.i64 (bareF g).wd, Value.int IntKind.i64 (bareF g).id, Value.int IntKind.i64 (bareF g).ix, Value.slice p1 (bareF g).kids.length cap1] by
            rw [hWT]
            exact (HFD.out.keep (T := fun b => wr.heap.size ≤ b ∧ b ≠ xd) (w' := (W7.drewN nr).setCell ⟨xd, 1, none⟩ (.bool ml)) (fun b hs hlt => ⟨(Below.heap_setCell _ _ _ b hs.2).trans (HW8.out.block b hlt), hs⟩)).relet _)
          have HDT := Lib.hid (show Below wr.heap.size wr WT by rw [hWT]; exact hDX.setCell (p := ⟨xd, 1, none⟩) (by have := HXD.out; have := HAs.out; show wr.heap.size ≤ xd; omega) _)
          have HBo := Lib.hid (show BoxN WT xo 26 [.slice q k c, .slice none 0 0] by rw [hWT]; exact (BO.out.below hDX BO.out.lt).other (a := ⟨xd, 1, none⟩) (by have := BO.out.lt; have := HXD.out; have := HAs.out; show xo ≠ xd; omega) _)
          rw [← hWT]
          clear hl7 hld hWT hDX hX1 HBD HFD HDr kk1 z1
          refine hK _ _ ?_
          clear hK K
          refine Mix.done (by kernel_rfl) ?_
          have HBD := HBT
          have HFD := HFT
          have HDr := HDT
          clear HBT HFT HDT
          have HL := Lib.hid (show leftF kind K1 L2 K2 k g = (bareF g).named (bareF g).nm ml from HHL.out)
          obtain ⟨gb, hgb⟩ : ∃ gb, gb = (bareF g).named (bareF g).nm ml := ⟨_, rfl⟩
          have HGB := Lib.hid (HL.out.trans hgb.symm)
          rw [← hgb] at HFD
          have HFB := Lib.hid (show [Value.string (bareF g).nm, Value.bool ml, Value.int IntKind.i64 (bareF g).k, Value.int IntKind.i64 (bareF g).wd, Value.int IntKind.i64 (bareF g).id, Value.int IntKind.i64 (bareF g).ix, Value.slice p1 (bareF g).kids.length cap1] = [Value.string gb.nm, Value.bool gb.nl, Value.int IntKind.i64 gb.k, Value.int IntKind.i64 gb.wd, Value.int IntKind.i64 gb.id, Value.int IntKind.i64 gb.ix, Value.slice p1 gb.kids.length cap1] by rw [hgb]; rfl)
          rw [HFB.out] at HBD HFD
          clear HL hgb HFB
          have d0 := HBD.out.row 0 _ rfl
          have d1 := HBD.out.row 1 _ rfl
          have d2 := HBD.out.row 2 _ rfl
          have d3 := HBD.out.row 3 _ rfl
          have d4 := HBD.out.row 4 _ rfl
          have d5 := HBD.out.row 5 _ rfl
          have d6 := HBD.out.row 6 _ rfl
          have hld := HBD.out.lt
          have o0 := HBo.out.row 0 _ rfl
          have hlo := HBo.out.lt
          have hR1 := HR.out.below HDr.out
          have htk : (lefts kind K1 L2 K2 0 (L1.take k)).length = k := by rw [lefts_length, List.length_take]; omega
          have hown1 : WT.ownsRow (xo + 1) 59 7 (.slice q k c) k (css.flatMap id) := by have := hR1.own; rwa [htk] at this
          have hoff : ∀ j, (Value.slice q k c).ownBlock = some j → j < wr.heap.size := fun j e => (HR.out.own.lt j e).2
          have hxw : xo < wr.heap.size := BO.out.lt
          have hfd1 : FdS (fun b => xo + 1 ≤ b ∧ (Value.slice q k c).ownBlock ≠ some b) WT gb _ := HFD.out.mono (fun b hb => ⟨by have := HAs.out; have := hb.1; omega, fun e => by have := hoff b e; have := HAs.out; have := hb.1; omega⟩)
          have HR1 := Lib.hid hR1
          have HO1 := Lib.hid hown1
          have HF1 := Lib.hid hfd1
          have HTL := Lib.hid htk
          have hZ := BoxN.new WT 59 [Value.string gb.nm, Value.bool gb.nl, Value.int IntKind.i64 gb.k, Value.int IntKind.i64 gb.wd, Value.int IntKind.i64 gb.id, Value.int IntKind.i64 gb.ix, Value.slice p1 gb.kids.length cap1]
          have HZ := Lib.hid hZ
          have HB6 := Lib.hid (HB.out.trans (HDr.out.mono HB.out.size))
          have hs6 := HB6.out.size
          have hxe1 : xo ≤ W4.heap.size := by have := HXO.out; omega
          have hxe2 : W4.heap.size ≤ xo := by have := HXO.out; omega
          have hsmall : L1.length ≤ 32 := S1.out
          clear hR1 hown1 hoff hfd1 hZ htk
          go_wp2_with (at_builtin; refine wpList_append_lies _ rfl _ _ 23 rfl (xo + 1) 59 i1 y1 7 80 und23 hi1 hy1 hsz1 hby1 hyc1 (by decide) (.slice q k c) k (css.flatMap id) rfl (HO1.out.alloc _) ⟨WT.heap.size, 0, none⟩ 1 1 [Value.string gb.nm, Value.bool gb.nl, Value.int IntKind.i64 gb.k, Value.int IntKind.i64 gb.wd, Value.int IntKind.i64 gb.id, Value.int IntKind.i64 gb.ix, Value.slice p1 gb.kids.length cap1] rfl rfl (World.news_of_block HZ.out) (by simp [Value.oneCell']) (by decide) (by unfold maxLen; omega) (by omega) (by simp; omega) (WT.heap.size + 1) (by simp) ?_; intro gg cc w2 hown2 hgrow2 hat2 hlt2; have bx2 := Lib.hid (show BoxN w2 xo 26 [.slice q k c, .slice none 0 0] from (hgrow2.block xo (by simp; omega) (fun e => by have := (HO1.out.lt xo e.symm).1; omega)).trans (HBo.out.alloc _)); have o2 := bx2.out.row 0 _ rfl; have f2 := bx2.out.frozen 0; have l2 := bx2.out.lt)
          refine ⟨⟨k + 1, some ⟨gg, 0, none⟩, cc, css ++ [[Value.string gb.nm, Value.bool gb.nl, Value.int IntKind.i64 gb.k, Value.int IntKind.i64 gb.wd, Value.int IntKind.i64 gb.id, Value.int IntKind.i64 gb.ix, Value.slice p1 gb.kids.length cap1]], by omega, by go_num, Lib.hid (bx2.out.set 0 _), Lib.hid ?_, Lib.hid ((((HB6.out.alloc HB6.out.size _).grown hgrow2 (by have := HB6.out.size; simp; omega) (fun j e => by have := (HO1.out.lt j e).1; omega))).setCell (p := ⟨xo, 0, none⟩) (by simp; omega) _)⟩, by simp [intOf]; omega⟩
          rw [HTK.out, HGB.out]
          exact ((HR1.out.below ((Below.refl _ WT).alloc (Nat.le_refl _) _)).push (HF1.out.below ((Below.refl _ WT).alloc (Nat.le_refl _) _)) HTL.out hown2 hgrow2 (by rw [World.size_alloc]; exact hat2)).setBelow (a := ⟨xo, 0, none⟩) (by simp) _
      have HL := Lib.hid (show leftF kind K1 L2 K2 k g = bareF g by unfold leftF; rw [if_neg hk3])
      have b3 : (kind == 3) = false := by simpa using hk3
      clear hk3
      obtain ⟨gb, hgb⟩ : ∃ gb, gb = bareF g := ⟨_, rfl⟩
      have HGB := Lib.hid (HL.out.trans hgb.symm)
      rw [← hgb] at HBD HFD ⊢
      clear HL hgb
      have d0 := HBD.out.row 0 _ rfl
      have d1 := HBD.out.row 1 _ rfl
      have d2 := HBD.out.row 2 _ rfl
      have d3 := HBD.out.row 3 _ rfl
      have d4 := HBD.out.row 4 _ rfl
      have d5 := HBD.out.row 5 _ rfl
      have d6 := HBD.out.row 6 _ rfl
      have hld := HBD.out.lt
      have o0 := HBo.out.row 0 _ rfl
      have hlo := HBo.out.lt
      have hR1 := HR.out.below HDr.out
      have htk : (lefts kind K1 L2 K2 0 (L1.take k)).length = k := by rw [lefts_length, List.length_take]; omega
      have hown1 : W6.ownsRow (xo + 1) 59 7 (.slice q k c) k (css.flatMap id) := by have := hR1.own; rwa [htk] at this
      have hoff : ∀ j, (Value.slice q k c).ownBlock = some j → j < wr.heap.size := fun j e => (HR.out.own.lt j e).2
      have hxw : xo < wr.heap.size := BO.out.lt
      have hfd1 : FdS (fun b => xo + 1 ≤ b ∧ (Value.slice q k c).ownBlock ≠ some b) W6 gb _ := HFD.out.mono (fun b hb => ⟨by have := HAs.out; have := hb.1; omega, fun e => by have := hoff b e; have := HAs.out; have := hb.1; omega⟩)
      have HR1 := Lib.hid hR1
      have HO1 := Lib.hid hown1
      have HF1 := Lib.hid hfd1
      have HTL := Lib.hid htk
      have hZ := BoxN.new W6 59 [Value.string gb.nm, Value.bool gb.nl, Value.int IntKind.i64 gb.k, Value.int IntKind.i64 gb.wd, Value.int IntKind.i64 gb.id, Value.int IntKind.i64 gb.ix, Value.slice p1 gb.kids.length cap1]
      have HZ := Lib.hid hZ
      have HB6 := Lib.hid (HB.out.trans (HDr.out.mono HB.out.size))
      have hs6 := HB6.out.size
      have hxe1 : xo ≤ W4.heap.size := by have := HXO.out; omega
      have hxe2 : W4.heap.size ≤ xo := by have := HXO.out; omega
      have hsmall : L1.length ≤ 32 := S1.out
      clear hR1 hown1 hoff hfd1 hZ htk
      go_wp2_with (at_builtin; refine wpList_append_lies _ rfl _ _ 23 rfl (xo + 1) 59 i1 y1 7 80 und23 hi1 hy1 hsz1 hby1 hyc1 (by decide) (.slice q k c) k (css.flatMap id) rfl (HO1.out.alloc _) ⟨W6.heap.size, 0, none⟩ 1 1 [Value.string gb.nm, Value.bool gb.nl, Value.int IntKind.i64 gb.k, Value.int IntKind.i64 gb.wd, Value.int IntKind.i64 gb.id, Value.int IntKind.i64 gb.ix, Value.slice p1 gb.kids.length cap1] rfl rfl (World.news_of_block HZ.out) (by simp [Value.oneCell']) (by decide) (by unfold maxLen; omega) (by omega) (by simp; omega) (W6.heap.size + 1) (by simp) ?_; intro gg cc w2 hown2 hgrow2 hat2 hlt2; have bx2 := Lib.hid (show BoxN w2 xo 26 [.slice q k c, .slice none 0 0] from (hgrow2.block xo (by simp; omega) (fun e => by have := (HO1.out.lt xo e.symm).1; omega)).trans (HBo.out.alloc _)); have o2 := bx2.out.row 0 _ rfl; have f2 := bx2.out.frozen 0; have l2 := bx2.out.lt)
      refine ⟨⟨k + 1, some ⟨gg, 0, none⟩, cc, css ++ [[Value.string gb.nm, Value.bool gb.nl, Value.int IntKind.i64 gb.k, Value.int IntKind.i64 gb.wd, Value.int IntKind.i64 gb.id, Value.int IntKind.i64 gb.ix, Value.slice p1 gb.kids.length cap1]], by omega, by go_num, Lib.hid (bx2.out.set 0 _), Lib.hid ?_, Lib.hid ((((HB6.out.alloc HB6.out.size _).grown hgrow2 (by have := HB6.out.size; simp; omega) (fun j e => by have := (HO1.out.lt j e).1; omega))).setCell (p := ⟨xo, 0, none⟩) (by simp; omega) _)⟩, by simp [intOf]; omega⟩
      rw [HTK.out, HGB.out]
      exact ((HR1.out.below ((Below.refl _ W6).alloc (Nat.le_refl _) _)).push (HF1.out.below ((Below.refl _ W6).alloc (Nat.le_refl _) _)) HTL.out hown2 hgrow2 (by rw [World.size_alloc]; exact hat2)).setBelow (a := ⟨xo, 0, none⟩) (by simp) _
    · obtain rfl : k = L1.length := by omega
      have A2r := Lib.hid (A2.out.below HBo4.out A2.out.lt)
      have r0 := A2r.out.row 0 _ rfl
      have hl2 := A2r.out.lt
      have hR := HR.out
      rw [List.take_length] at hR
      have HR := Lib.hid hR
      clear hR A2r
      obtain ⟨_, _, eL, hlc2, hmc2, hC2⟩ := HL2.out
      cases eL
      unfold maxLen at hmc2
      have HC2 := Lib.hid hC2
      clear hC2
      go_wp2_with fail
      go_loopw [13] (fun i wr => ∃ (k n : Nat) (q : Option Addr) (c : Nat) (css : List (List Value)), k ≤ L2.length ∧ n = (lefts kind K1 L2 K2 0 L1 ++ rights kind K2 0 (L2.take k)).length ∧ i = .int .i64 k ∧ Hid (BoxN wr xo 26 [.slice q n c, .slice none 0 0]) ∧ Hid (RowF wr (xo + 1) (.slice q n c) (lefts kind K1 L2 K2 0 L1 ++ rights kind K2 0 (L2.take k)) css) ∧ Hid (Below W4.heap.size W4 wr)) (fun i _ => L2.length - (intOf i).toNat)
      case atStart => exact ⟨0, L1.length, q, c, css, by omega, by simp [rights, lefts_length], rfl, BO, Lib.hid (by simpa [rights] using HR.out), HB⟩
      case round =>
        obtain ⟨k, n, q, c, css, hk, hn, rfl, BO, HR, HB⟩ := hrel
        have HBw := Lib.hid (HB4w.out.trans (HB.out.mono HB4w.out.size))
        have HBo4 := Lib.hid (HB4.out.trans (HB.out.mono HB4.out.size))
        have A2r := Lib.hid (A2.out.below HBo4.out A2.out.lt)
        clear r0 hl2
        have r0 := A2r.out.row 0 _ rfl
        have r4 := A2r.out.row 4 _ rfl
        have hl2 := A2r.out.lt
        have HN := Lib.hid hn
        have hnb : n ≤ 64 := by
          have h1 := rights_length kind K2 (L2.take k) 0
          rw [List.length_append, lefts_length] at hn
          have h2 := S1.out
          have h3 := S2.out
          have h4 : (L2.take k).length ≤ L2.length := by rw [List.length_take]; omega
          omega
        clear hn
        by_cases hlt : k < L2.length
        · obtain ⟨b', o', fq, cap', rfl, e3, c0, c1, c2, c3, c4, c5, c6⟩ := HC2.out.seven k hlt
          have E3 := Lib.hid (e3.below HBw.out)
          replace c0 := cell_below HBw.out c0
          replace c1 := cell_below HBw.out c1
          replace c2 := cell_below HBw.out c2
          replace c3 := cell_below HBw.out c3
          replace c4 := cell_below HBw.out c4
          replace c5 := cell_below HBw.out c5
          replace c6 := cell_below HBw.out c6
          have HOK := Lib.hid (okL_mem O2.out.1 _ (List.getElem_mem hlt))
          have HSK := Lib.hid (rights_skip (kind := kind) (K2 := K2) hlt)
          have HTK := Lib.hid (rights_step (kind := kind) (K2 := K2) hlt)
          clear e3
          generalize hg : L2[k] = g at *
          clear hg
          go_wp2_with fail
          refine (among_calls (HK2.out.below HBw.out) k).mono ?_
          rintro e A' ⟨rfl, rfl⟩
          cases hsk : decide (0 ≤ idxI K2 k) with
          | true =>
            have HSK := Lib.hid (HSK.out hsk)
            go_wp2_with fail
            exact ⟨⟨k + 1, n, q, c, css, by omega, by rw [HSK.out]; exact HN.out, by go_num, BO, Lib.hid (by rw [HSK.out]; exact HR.out), HB⟩, by simp [intOf]; omega⟩
          | false =>
            have HTK := Lib.hid (HTK.out hsk)
            have HBA := Lib.hid (Below.refl A'.heap.size A')
            go_wp2_with fail
            refine (rbare_calls' g HOK.out A' fq cap' E3.out).mono ?_
            rintro e W5 ⟨p1, cap1, rfl, hfd, hb5⟩
            clear c0 c1 c2 c3 c4 c5 c6
            have HFX := Lib.hid hfd
            have HX5 := Lib.hid hb5
            have HBb := Lib.hid BO.out
            clear hfd hb5
            cases hnl : (bareF g).nl with
            | true =>
              have HRL := Lib.hid (show rightF kind g = (bareF g).named (bareF g).nm true by unfold rightF; rw [hnl, Bool.true_or])
              clear hnl
              go_simp
              iterate 10 (first | go_values | go_skip | go_guarded | go_step | go_upon | go_back)
              obtain ⟨WA, hWA⟩ : ∃ WA, WA = W5.alloc (.cells #[Value.string (bareF g).nm, Value.bool true, Value.int IntKind.i64 (bareF g).k, Value.int IntKind.i64 (bareF g).wd, Value.int IntKind.i64 (bareF g).id, Value.int IntKind.i64 (bareF g).ix, Value.slice p1 (bareF g).kids.length cap1] 59) := ⟨_, rfl⟩
              obtain ⟨xd, hxd⟩ : ∃ xd, xd = W5.heap.size := ⟨_, rfl⟩
              have hb2 : Below A'.heap.size A' W5 := HBA.out.trans (HX5.out.mono HBA.out.size)
              have hbD : Below A'.heap.size A' WA := by rw [hWA]; exact hb2.alloc hb2.size _
              have hbE : Below W5.heap.size W5 WA := by rw [hWA]; exact (Below.refl _ _).alloc (Nat.le_refl _) _
              have hbx : BoxN WA xd 59 [Value.string (bareF g).nm, Value.bool true, Value.int IntKind.i64 (bareF g).k, Value.int IntKind.i64 (bareF g).wd, Value.int IntKind.i64 (bareF g).id, Value.int IntKind.i64 (bareF g).ix, Value.slice p1 (bareF g).kids.length cap1] := by rw [hWA, hxd]; exact BoxN.new W5 59 [Value.string (bareF g).nm, Value.bool true, Value.int IntKind.i64 (bareF g).k, Value.int IntKind.i64 (bareF g).wd, Value.int IntKind.i64 (bareF g).id, Value.int IntKind.i64 (bareF g).ix, Value.slice p1 (bareF g).kids.length cap1]
              have hwx : A'.heap.size ≤ xd := by rw [hxd]; exact hb2.size
              have hxs : ∀ b, b < W5.heap.size → b ≠ xd := fun b h => by omega
              rw [← hWA, ← hxd]
              have HBX := Lib.hid hbx
              have HDA := Lib.hid hbD
              have HEA := Lib.hid (And.intro hbE (And.intro hwx hxs))
              clear hWA hxd hb2 hbD hbE hbx hwx hxs
              have kk1 := HBX.out.row 1 _ rfl
              have z1 := HBX.out.frozen 1
              have hld := HBX.out.lt
              iterate 24 (first | go_values | go_skip | go_guarded | go_step | go_upon | go_back)

              obtain ⟨WT, hWT⟩ : ∃ WT, WT = WA.setCell ⟨xd, 1, none⟩ (.bool true) := ⟨_, rfl⟩
              rw [← hWT]
              have HDr := Lib.hid (show Below A'.heap.size A' WT by rw [hWT]; exact HDA.out.setCell (p := ⟨xd, 1, none⟩) HEA.out.2.1 _)
              have HBD := Lib.hid (show BoxN WT xd 59 [Value.string (bareF g).nm, Value.bool true, Value.int IntKind.i64 (bareF g).k, Value.int IntKind.i64 (bareF g).wd, Value.int IntKind.i64 (bareF g).id, Value.int IntKind.i64 (bareF g).ix, Value.slice p1 (bareF g).kids.length cap1] by rw [hWT]; exact HBX.out.set 1 _)
              have HFD := Lib.hid (show FdS (fun b => A'.heap.size ≤ b ∧ b ≠ xd) WT ((bareF g).named (bareF g).nm true) [Value.string (bareF g).nm, Value.bool true, Value.int IntKind.i64 (bareF g).k, Value.int IntKind.i64 (bareF g).wd, Value.int IntKind.i64 (bareF g).id, Value.int IntKind.i64 (bareF g).ix, Value.slice p1 (bareF g).kids.length cap1] by
                rw [hWT]
                exact (HFX.out.keep (T := fun b => A'.heap.size ≤ b ∧ b ≠ xd) (w' := WA.setCell ⟨xd, 1, none⟩ (.bool true)) (fun b hs hlt => ⟨(Below.heap_setCell _ _ _ b (HEA.out.2.2 b hlt)).trans (HEA.out.1.block b hlt), hs, HEA.out.2.2 b hlt⟩)).relet _)
              have HBo := Lib.hid (show BoxN WT xo 26 [.slice q n c, .slice none 0 0] by rw [hWT]; exact (HBb.out.below HDA.out HBb.out.lt).other (a := ⟨xd, 1, none⟩) (show xo ≠ xd by have := HBb.out.lt; have := HEA.out.2.1; omega) _)
              have HAs := Lib.hid HBA.out.size
              clear hWT HBX HDA HEA kk1 z1 hld HFX HX5
              have HL := Lib.hid (show rightF kind g = (bareF g).named (bareF g).nm true from HRL.out)
              obtain ⟨gb, hgb⟩ : ∃ gb, gb = (bareF g).named (bareF g).nm true := ⟨_, rfl⟩
              have HGB := Lib.hid (HL.out.trans hgb.symm)
              rw [← hgb] at HFD
              have HFB := Lib.hid (show [Value.string (bareF g).nm, Value.bool true, Value.int IntKind.i64 (bareF g).k, Value.int IntKind.i64 (bareF g).wd, Value.int IntKind.i64 (bareF g).id, Value.int IntKind.i64 (bareF g).ix, Value.slice p1 (bareF g).kids.length cap1] = [Value.string gb.nm, Value.bool gb.nl, Value.int IntKind.i64 gb.k, Value.int IntKind.i64 gb.wd, Value.int IntKind.i64 gb.id, Value.int IntKind.i64 gb.ix, Value.slice p1 gb.kids.length cap1] by rw [hgb]; rfl)
              rw [HFB.out] at HBD HFD
              clear HL hgb HFB
              have d0 := HBD.out.row 0 _ rfl
              have d1 := HBD.out.row 1 _ rfl
              have d2 := HBD.out.row 2 _ rfl
              have d3 := HBD.out.row 3 _ rfl
              have d4 := HBD.out.row 4 _ rfl
              have d5 := HBD.out.row 5 _ rfl
              have d6 := HBD.out.row 6 _ rfl
              have hld := HBD.out.lt
              have o0 := HBo.out.row 0 _ rfl
              have hlo := HBo.out.lt
              have hR1 := HR.out.below HDr.out
              have htk := HN.out.symm
              have hown1 : WT.ownsRow (xo + 1) 59 7 (.slice q n c) n (css.flatMap id) := by have := hR1.own; rwa [htk] at this
              have hoff : ∀ j, (Value.slice q n c).ownBlock = some j → j < A'.heap.size := fun j e => (HR.out.own.lt j e).2
              have hxw : xo < A'.heap.size := BO.out.lt
              have hfd1 : FdS (fun b => xo + 1 ≤ b ∧ (Value.slice q n c).ownBlock ≠ some b) WT gb _ := HFD.out.mono (fun b hb => ⟨by have := HAs.out; have := hb.1; omega, fun e => by have := hoff b e; have := HAs.out; have := hb.1; omega⟩)
              have HR1 := Lib.hid hR1
              have HO1 := Lib.hid hown1
              have HF1 := Lib.hid hfd1
              have HTL := Lib.hid htk
              have hZ := BoxN.new WT 59 [Value.string gb.nm, Value.bool gb.nl, Value.int IntKind.i64 gb.k, Value.int IntKind.i64 gb.wd, Value.int IntKind.i64 gb.id, Value.int IntKind.i64 gb.ix, Value.slice p1 gb.kids.length cap1]
              have HZ := Lib.hid hZ
              have HB6 := Lib.hid (HB.out.trans (HDr.out.mono HB.out.size))
              have hs6 := HB6.out.size
              have hxe1 : xo ≤ W4.heap.size := by have := HXO.out; omega
              have hxe2 : W4.heap.size ≤ xo := by have := HXO.out; omega
              clear hR1 hown1 hoff hfd1 hZ htk
              go_wp2_with (at_builtin; refine wpList_append_lies _ rfl _ _ 23 rfl (xo + 1) 59 i1 y1 7 80 und23 hi1 hy1 hsz1 hby1 hyc1 (by decide) (.slice q n c) n (css.flatMap id) rfl (HO1.out.alloc _) ⟨WT.heap.size, 0, none⟩ 1 1 [Value.string gb.nm, Value.bool gb.nl, Value.int IntKind.i64 gb.k, Value.int IntKind.i64 gb.wd, Value.int IntKind.i64 gb.id, Value.int IntKind.i64 gb.ix, Value.slice p1 gb.kids.length cap1] rfl rfl (World.news_of_block HZ.out) (by simp [Value.oneCell']) (by decide) (by unfold maxLen; omega) (by omega) (by simp; omega) (WT.heap.size + 1) (by simp) ?_; intro gg cc w2 hown2 hgrow2 hat2 hlt2; have bx2 := Lib.hid (show BoxN w2 xo 26 [.slice q n c, .slice none 0 0] from (hgrow2.block xo (by simp; omega) (fun e => by have := (HO1.out.lt xo e.symm).1; omega)).trans (HBo.out.alloc _)); have o2 := bx2.out.row 0 _ rfl; have f2 := bx2.out.frozen 0; have l2 := bx2.out.lt)
              refine ⟨⟨k + 1, n + 1, some ⟨gg, 0, none⟩, cc, css ++ [[Value.string gb.nm, Value.bool gb.nl, Value.int IntKind.i64 gb.k, Value.int IntKind.i64 gb.wd, Value.int IntKind.i64 gb.id, Value.int IntKind.i64 gb.ix, Value.slice p1 gb.kids.length cap1]], by omega, by rw [HTK.out, ← List.append_assoc, List.length_append, ← HN.out]; rfl, by go_num, Lib.hid (bx2.out.set 0 _), Lib.hid ?_, Lib.hid ((((HB6.out.alloc HB6.out.size _).grown hgrow2 (by have := HB6.out.size; simp; omega) (fun j e => by have := (HO1.out.lt j e).1; omega))).setCell (p := ⟨xo, 0, none⟩) (by simp; omega) _)⟩, by simp [intOf]; omega⟩
              rw [HTK.out, HGB.out, ← List.append_assoc]
              exact ((HR1.out.below ((Below.refl _ WT).alloc (Nat.le_refl _) _)).push (HF1.out.below ((Below.refl _ WT).alloc (Nat.le_refl _) _)) HTL.out hown2 hgrow2 (by rw [World.size_alloc]; exact hat2)).setBelow (a := ⟨xo, 0, none⟩) (by simp) _
            | false =>
              cases hk1 : (kind != 1) with
              | true =>
                have HRL := Lib.hid (show rightF kind g = (bareF g).named (bareF g).nm true by unfold rightF; rw [hnl, Bool.false_or, decide_eq_true (by simpa using hk1)])
                clear hnl
                go_simp
                iterate 10 (first | go_values | go_skip | go_guarded | go_step | go_upon | go_back)
                obtain ⟨WA, hWA⟩ : ∃ WA, WA = W5.alloc (.cells #[Value.string (bareF g).nm, Value.bool false, Value.int IntKind.i64 (bareF g).k, Value.int IntKind.i64 (bareF g).wd, Value.int IntKind.i64 (bareF g).id, Value.int IntKind.i64 (bareF g).ix, Value.slice p1 (bareF g).kids.length cap1] 59) := ⟨_, rfl⟩
                obtain ⟨xd, hxd⟩ : ∃ xd, xd = W5.heap.size := ⟨_, rfl⟩
                have hb2 : Below A'.heap.size A' W5 := HBA.out.trans (HX5.out.mono HBA.out.size)
                have hbD : Below A'.heap.size A' WA := by rw [hWA]; exact hb2.alloc hb2.size _
                have hbE : Below W5.heap.size W5 WA := by rw [hWA]; exact (Below.refl _ _).alloc (Nat.le_refl _) _
                have hbx : BoxN WA xd 59 [Value.string (bareF g).nm, Value.bool false, Value.int IntKind.i64 (bareF g).k, Value.int IntKind.i64 (bareF g).wd, Value.int IntKind.i64 (bareF g).id, Value.int IntKind.i64 (bareF g).ix, Value.slice p1 (bareF g).kids.length cap1] := by rw [hWA, hxd]; exact BoxN.new W5 59 [Value.string (bareF g).nm, Value.bool false, Value.int IntKind.i64 (bareF g).k, Value.int IntKind.i64 (bareF g).wd, Value.int IntKind.i64 (bareF g).id, Value.int IntKind.i64 (bareF g).ix, Value.slice p1 (bareF g).kids.length cap1]
                have hwx : A'.heap.size ≤ xd := by rw [hxd]; exact hb2.size
                have hxs : ∀ b, b < W5.heap.size → b ≠ xd := fun b h => by omega
                rw [← hWA, ← hxd]
                have HBX := Lib.hid hbx
                have HDA := Lib.hid hbD
                have HEA := Lib.hid (And.intro hbE (And.intro hwx hxs))
                clear hWA hxd hb2 hbD hbE hbx hwx hxs
                have kk1 := HBX.out.row 1 _ rfl
                have z1 := HBX.out.frozen 1
                have hld := HBX.out.lt
                iterate 29 (first | go_values | go_skip | go_guarded | go_step | go_upon | go_back)

                obtain ⟨WT, hWT⟩ : ∃ WT, WT = WA.setCell ⟨xd, 1, none⟩ (.bool true) := ⟨_, rfl⟩
                rw [← hWT]
                have HDr := Lib.hid (show Below A'.heap.size A' WT by rw [hWT]; exact HDA.out.setCell (p := ⟨xd, 1, none⟩) HEA.out.2.1 _)
                have HBD := Lib.hid (show BoxN WT xd 59 [Value.string (bareF g).nm, Value.bool true, Value.int IntKind.i64 (bareF g).k, Value.int IntKind.i64 (bareF g).wd, Value.int IntKind.i64 (bareF g).id, Value.int IntKind.i64 (bareF g).ix, Value.slice p1 (bareF g).kids.length cap1] by rw [hWT]; exact HBX.out.set 1 _)
                have HFD := Lib.hid (show FdS (fun b => A'.heap.size ≤ b ∧ b ≠ xd) WT ((bareF g).named (bareF g).nm true) [Value.string (bareF g).nm, Value.bool true, Value.int IntKind.i64 (bareF g).k, Value.int IntKind.i64 (bareF g).wd, Value.int IntKind.i64 (bareF g).id, Value.int IntKind.i64 (bareF g).ix, Value.slice p1 (bareF g).kids.length cap1] by
                  rw [hWT]
                  exact (HFX.out.keep (T := fun b => A'.heap.size ≤ b ∧ b ≠ xd) (w' := WA.setCell ⟨xd, 1, none⟩ (.bool true)) (fun b hs hlt => ⟨(Below.heap_setCell _ _ _ b (HEA.out.2.2 b hlt)).trans (HEA.out.1.block b hlt), hs, HEA.out.2.2 b hlt⟩)).relet _)
                have HBo := Lib.hid (show BoxN WT xo 26 [.slice q n c, .slice none 0 0] by rw [hWT]; exact (HBb.out.below HDA.out HBb.out.lt).other (a := ⟨xd, 1, none⟩) (show xo ≠ xd by have := HBb.out.lt; have := HEA.out.2.1; omega) _)
                have HAs := Lib.hid HBA.out.size
                clear hWT HBX HDA HEA kk1 z1 hld HFX HX5
                have HL := Lib.hid (show rightF kind g = (bareF g).named (bareF g).nm true from HRL.out)
                obtain ⟨gb, hgb⟩ : ∃ gb, gb = (bareF g).named (bareF g).nm true := ⟨_, rfl⟩
                have HGB := Lib.hid (HL.out.trans hgb.symm)
                rw [← hgb] at HFD
                have HFB := Lib.hid (show [Value.string (bareF g).nm, Value.bool true, Value.int IntKind.i64 (bareF g).k, Value.int IntKind.i64 (bareF g).wd, Value.int IntKind.i64 (bareF g).id, Value.int IntKind.i64 (bareF g).ix, Value.slice p1 (bareF g).kids.length cap1] = [Value.string gb.nm, Value.bool gb.nl, Value.int IntKind.i64 gb.k, Value.int IntKind.i64 gb.wd, Value.int IntKind.i64 gb.id, Value.int IntKind.i64 gb.ix, Value.slice p1 gb.kids.length cap1] by rw [hgb]; rfl)
                rw [HFB.out] at HBD HFD
                clear HL hgb HFB
                have d0 := HBD.out.row 0 _ rfl
                have d1 := HBD.out.row 1 _ rfl
                have d2 := HBD.out.row 2 _ rfl
                have d3 := HBD.out.row 3 _ rfl
                have d4 := HBD.out.row 4 _ rfl
                have d5 := HBD.out.row 5 _ rfl
                have d6 := HBD.out.row 6 _ rfl
                have hld := HBD.out.lt
                have o0 := HBo.out.row 0 _ rfl
                have hlo := HBo.out.lt
                have hR1 := HR.out.below HDr.out
                have htk := HN.out.symm
                have hown1 : WT.ownsRow (xo + 1) 59 7 (.slice q n c) n (css.flatMap id) := by have := hR1.own; rwa [htk] at this
                have hoff : ∀ j, (Value.slice q n c).ownBlock = some j → j < A'.heap.size := fun j e => (HR.out.own.lt j e).2
                have hxw : xo < A'.heap.size := BO.out.lt
                have hfd1 : FdS (fun b => xo + 1 ≤ b ∧ (Value.slice q n c).ownBlock ≠ some b) WT gb _ := HFD.out.mono (fun b hb => ⟨by have := HAs.out; have := hb.1; omega, fun e => by have := hoff b e; have := HAs.out; have := hb.1; omega⟩)
                have HR1 := Lib.hid hR1
                have HO1 := Lib.hid hown1
                have HF1 := Lib.hid hfd1
                have HTL := Lib.hid htk
                have hZ := BoxN.new WT 59 [Value.string gb.nm, Value.bool gb.nl, Value.int IntKind.i64 gb.k, Value.int IntKind.i64 gb.wd, Value.int IntKind.i64 gb.id, Value.int IntKind.i64 gb.ix, Value.slice p1 gb.kids.length cap1]
                have HZ := Lib.hid hZ
                have HB6 := Lib.hid (HB.out.trans (HDr.out.mono HB.out.size))
                have hs6 := HB6.out.size
                have hxe1 : xo ≤ W4.heap.size := by have := HXO.out; omega
                have hxe2 : W4.heap.size ≤ xo := by have := HXO.out; omega
                clear hR1 hown1 hoff hfd1 hZ htk
                go_wp2_with (at_builtin; refine wpList_append_lies _ rfl _ _ 23 rfl (xo + 1) 59 i1 y1 7 80 und23 hi1 hy1 hsz1 hby1 hyc1 (by decide) (.slice q n c) n (css.flatMap id) rfl (HO1.out.alloc _) ⟨WT.heap.size, 0, none⟩ 1 1 [Value.string gb.nm, Value.bool gb.nl, Value.int IntKind.i64 gb.k, Value.int IntKind.i64 gb.wd, Value.int IntKind.i64 gb.id, Value.int IntKind.i64 gb.ix, Value.slice p1 gb.kids.length cap1] rfl rfl (World.news_of_block HZ.out) (by simp [Value.oneCell']) (by decide) (by unfold maxLen; omega) (by omega) (by simp; omega) (WT.heap.size + 1) (by simp) ?_; intro gg cc w2 hown2 hgrow2 hat2 hlt2; have bx2 := Lib.hid (show BoxN w2 xo 26 [.slice q n c, .slice none 0 0] from (hgrow2.block xo (by simp; omega) (fun e => by have := (HO1.out.lt xo e.symm).1; omega)).trans (HBo.out.alloc _)); have o2 := bx2.out.row 0 _ rfl; have f2 := bx2.out.frozen 0; have l2 := bx2.out.lt)
                refine ⟨⟨k + 1, n + 1, some ⟨gg, 0, none⟩, cc, css ++ [[Value.string gb.nm, Value.bool gb.nl, Value.int IntKind.i64 gb.k, Value.int IntKind.i64 gb.wd, Value.int IntKind.i64 gb.id, Value.int IntKind.i64 gb.ix, Value.slice p1 gb.kids.length cap1]], by omega, by rw [HTK.out, ← List.append_assoc, List.length_append, ← HN.out]; rfl, by go_num, Lib.hid (bx2.out.set 0 _), Lib.hid ?_, Lib.hid ((((HB6.out.alloc HB6.out.size _).grown hgrow2 (by have := HB6.out.size; simp; omega) (fun j e => by have := (HO1.out.lt j e).1; omega))).setCell (p := ⟨xo, 0, none⟩) (by simp; omega) _)⟩, by simp [intOf]; omega⟩
                rw [HTK.out, HGB.out, ← List.append_assoc]
                exact ((HR1.out.below ((Below.refl _ WT).alloc (Nat.le_refl _) _)).push (HF1.out.below ((Below.refl _ WT).alloc (Nat.le_refl _) _)) HTL.out hown2 hgrow2 (by rw [World.size_alloc]; exact hat2)).setBelow (a := ⟨xo, 0, none⟩) (by simp) _
              | false =>
                have HRL := Lib.hid (show rightF kind g = (bareF g).named (bareF g).nm false by unfold rightF; rw [hnl, Bool.false_or, decide_eq_false (by simpa using hk1)])
                clear hnl
                go_simp
                iterate 10 (first | go_values | go_skip | go_guarded | go_step | go_upon | go_back)
                obtain ⟨WA, hWA⟩ : ∃ WA, WA = W5.alloc (.cells #[Value.string (bareF g).nm, Value.bool false, Value.int IntKind.i64 (bareF g).k, Value.int IntKind.i64 (bareF g).wd, Value.int IntKind.i64 (bareF g).id, Value.int IntKind.i64 (bareF g).ix, Value.slice p1 (bareF g).kids.length cap1] 59) := ⟨_, rfl⟩
                obtain ⟨xd, hxd⟩ : ∃ xd, xd = W5.heap.size := ⟨_, rfl⟩
                have hb2 : Below A'.heap.size A' W5 := HBA.out.trans (HX5.out.mono HBA.out.size)
                have hbD : Below A'.heap.size A' WA := by rw [hWA]; exact hb2.alloc hb2.size _
                have hbE : Below W5.heap.size W5 WA := by rw [hWA]; exact (Below.refl _ _).alloc (Nat.le_refl _) _
                have hbx : BoxN WA xd 59 [Value.string (bareF g).nm, Value.bool false, Value.int IntKind.i64 (bareF g).k, Value.int IntKind.i64 (bareF g).wd, Value.int IntKind.i64 (bareF g).id, Value.int IntKind.i64 (bareF g).ix, Value.slice p1 (bareF g).kids.length cap1] := by rw [hWA, hxd]; exact BoxN.new W5 59 [Value.string (bareF g).nm, Value.bool false, Value.int IntKind.i64 (bareF g).k, Value.int IntKind.i64 (bareF g).wd, Value.int IntKind.i64 (bareF g).id, Value.int IntKind.i64 (bareF g).ix, Value.slice p1 (bareF g).kids.length cap1]
                have hwx : A'.heap.size ≤ xd := by rw [hxd]; exact hb2.size
                have hxs : ∀ b, b < W5.heap.size → b ≠ xd := fun b h => by omega
                rw [← hWA, ← hxd]
                have HBX := Lib.hid hbx
                have HDA := Lib.hid hbD
                have HEA := Lib.hid (And.intro hbE (And.intro hwx hxs))
                clear hWA hxd hb2 hbD hbE hbx hwx hxs
                have kk1 := HBX.out.row 1 _ rfl
                have z1 := HBX.out.frozen 1
                have hld := HBX.out.lt
                iterate 29 (first | go_values | go_skip | go_guarded | go_step | go_upon | go_back)

                obtain ⟨WT, hWT⟩ : ∃ WT, WT = WA.setCell ⟨xd, 1, none⟩ (.bool false) := ⟨_, rfl⟩
                rw [← hWT]
                have HDr := Lib.hid (show Below A'.heap.size A' WT by rw [hWT]; exact HDA.out.setCell (p := ⟨xd, 1, none⟩) HEA.out.2.1 _)
                have HBD := Lib.hid (show BoxN WT xd 59 [Value.string (bareF g).nm, Value.bool false, Value.int IntKind.i64 (bareF g).k, Value.int IntKind.i64 (bareF g).wd, Value.int IntKind.i64 (bareF g).id, Value.int IntKind.i64 (bareF g).ix, Value.slice p1 (bareF g).kids.length cap1] by rw [hWT]; exact HBX.out.set 1 _)
                have HFD := Lib.hid (show FdS (fun b => A'.heap.size ≤ b ∧ b ≠ xd) WT ((bareF g).named (bareF g).nm false) [Value.string (bareF g).nm, Value.bool false, Value.int IntKind.i64 (bareF g).k, Value.int IntKind.i64 (bareF g).wd, Value.int IntKind.i64 (bareF g).id, Value.int IntKind.i64 (bareF g).ix, Value.slice p1 (bareF g).kids.length cap1] by
                  rw [hWT]
                  exact (HFX.out.keep (T := fun b => A'.heap.size ≤ b ∧ b ≠ xd) (w' := WA.setCell ⟨xd, 1, none⟩ (.bool false)) (fun b hs hlt => ⟨(Below.heap_setCell _ _ _ b (HEA.out.2.2 b hlt)).trans (HEA.out.1.block b hlt), hs, HEA.out.2.2 b hlt⟩)).relet _)
                have HBo := Lib.hid (show BoxN WT xo 26 [.slice q n c, .slice none 0 0] by rw [hWT]; exact (HBb.out.below HDA.out HBb.out.lt).other (a := ⟨xd, 1, none⟩) (show xo ≠ xd by have := HBb.out.lt; have := HEA.out.2.1; omega) _)
                have HAs := Lib.hid HBA.out.size
                clear hWT HBX HDA HEA kk1 z1 hld HFX HX5
                have HL := Lib.hid (show rightF kind g = (bareF g).named (bareF g).nm false from HRL.out)
                obtain ⟨gb, hgb⟩ : ∃ gb, gb = (bareF g).named (bareF g).nm false := ⟨_, rfl⟩
                have HGB := Lib.hid (HL.out.trans hgb.symm)
                rw [← hgb] at HFD
                have HFB := Lib.hid (show [Value.string (bareF g).nm, Value.bool false, Value.int IntKind.i64 (bareF g).k, Value.int IntKind.i64 (bareF g).wd, Value.int IntKind.i64 (bareF g).id, Value.int IntKind.i64 (bareF g).ix, Value.slice p1 (bareF g).kids.length cap1] = [Value.string gb.nm, Value.bool gb.nl, Value.int IntKind.i64 gb.k, Value.int IntKind.i64 gb.wd, Value.int IntKind.i64 gb.id, Value.int IntKind.i64 gb.ix, Value.slice p1 gb.kids.length cap1] by rw [hgb]; rfl)
                rw [HFB.out] at HBD HFD
                clear HL hgb HFB
                have d0 := HBD.out.row 0 _ rfl
                have d1 := HBD.out.row 1 _ rfl
                have d2 := HBD.out.row 2 _ rfl
                have d3 := HBD.out.row 3 _ rfl
                have d4 := HBD.out.row 4 _ rfl
                have d5 := HBD.out.row 5 _ rfl
                have d6 := HBD.out.row 6 _ rfl
                have hld := HBD.out.lt
                have o0 := HBo.out.row 0 _ rfl
                have hlo := HBo.out.lt
                have hR1 := HR.out.below HDr.out
                have htk := HN.out.symm
                have hown1 : WT.ownsRow (xo + 1) 59 7 (.slice q n c) n (css.flatMap id) := by have := hR1.own; rwa [htk] at this
                have hoff : ∀ j, (Value.slice q n c).ownBlock = some j → j < A'.heap.size := fun j e => (HR.out.own.lt j e).2
                have hxw : xo < A'.heap.size := BO.out.lt
                have hfd1 : FdS (fun b => xo + 1 ≤ b ∧ (Value.slice q n c).ownBlock ≠ some b) WT gb _ := HFD.out.mono (fun b hb => ⟨by have := HAs.out; have := hb.1; omega, fun e => by have := hoff b e; have := HAs.out; have := hb.1; omega⟩)
                have HR1 := Lib.hid hR1
                have HO1 := Lib.hid hown1
                have HF1 := Lib.hid hfd1
                have HTL := Lib.hid htk
                have hZ := BoxN.new WT 59 [Value.string gb.nm, Value.bool gb.nl, Value.int IntKind.i64 gb.k, Value.int IntKind.i64 gb.wd, Value.int IntKind.i64 gb.id, Value.int IntKind.i64 gb.ix, Value.slice p1 gb.kids.length cap1]
                have HZ := Lib.hid hZ
                have HB6 := Lib.hid (HB.out.trans (HDr.out.mono HB.out.size))
                have hs6 := HB6.out.size
                have hxe1 : xo ≤ W4.heap.size := by have := HXO.out; omega
                have hxe2 : W4.heap.size ≤ xo := by have := HXO.out; omega
                clear hR1 hown1 hoff hfd1 hZ htk
                go_wp2_with (at_builtin; refine wpList_append_lies _ rfl _ _ 23 rfl (xo + 1) 59 i1 y1 7 80 und23 hi1 hy1 hsz1 hby1 hyc1 (by decide) (.slice q n c) n (css.flatMap id) rfl (HO1.out.alloc _) ⟨WT.heap.size, 0, none⟩ 1 1 [Value.string gb.nm, Value.bool gb.nl, Value.int IntKind.i64 gb.k, Value.int IntKind.i64 gb.wd, Value.int IntKind.i64 gb.id, Value.int IntKind.i64 gb.ix, Value.slice p1 gb.kids.length cap1] rfl rfl (World.news_of_block HZ.out) (by simp [Value.oneCell']) (by decide) (by unfold maxLen; omega) (by omega) (by simp; omega) (WT.heap.size + 1) (by simp) ?_; intro gg cc w2 hown2 hgrow2 hat2 hlt2; have bx2 := Lib.hid (show BoxN w2 xo 26 [.slice q n c, .slice none 0 0] from (hgrow2.block xo (by simp; omega) (fun e => by have := (HO1.out.lt xo e.symm).1; omega)).trans (HBo.out.alloc _)); have o2 := bx2.out.row 0 _ rfl; have f2 := bx2.out.frozen 0; have l2 := bx2.out.lt)
                refine ⟨⟨k + 1, n + 1, some ⟨gg, 0, none⟩, cc, css ++ [[Value.string gb.nm, Value.bool gb.nl, Value.int IntKind.i64 gb.k, Value.int IntKind.i64 gb.wd, Value.int IntKind.i64 gb.id, Value.int IntKind.i64 gb.ix, Value.slice p1 gb.kids.length cap1]], by omega, by rw [HTK.out, ← List.append_assoc, List.length_append, ← HN.out]; rfl, by go_num, Lib.hid (bx2.out.set 0 _), Lib.hid ?_, Lib.hid ((((HB6.out.alloc HB6.out.size _).grown hgrow2 (by have := HB6.out.size; simp; omega) (fun j e => by have := (HO1.out.lt j e).1; omega))).setCell (p := ⟨xo, 0, none⟩) (by simp; omega) _)⟩, by simp [intOf]; omega⟩
                rw [HTK.out, HGB.out, ← List.append_assoc]
                exact ((HR1.out.below ((Below.refl _ WT).alloc (Nat.le_refl _) _)).push (HF1.out.below ((Below.refl _ WT).alloc (Nat.le_refl _) _)) HTL.out hown2 hgrow2 (by rw [World.size_alloc]; exact hat2)).setBelow (a := ⟨xo, 0, none⟩) (by simp) _
        · obtain rfl : k = L2.length := by omega
          have hR := HR.out
          rw [List.take_length] at hR
          have HR := Lib.hid (show RowF wr (xo + 1) (.slice q n c) (outL kind L1 K1 L2 K2) css from hR)
          have HNL := Lib.hid (show n = (outL kind L1 K1 L2 K2).length by have := HN.out; rwa [List.take_length] at this)
          clear hR HN
          have o0 := BO.out.row 0 _ rfl
          have o1 := BO.out.row 1 _ rfl
          have hlo := BO.out.lt
          have HFL := Lib.hid (show FdsAt wr (outL kind L1 K1 L2 K2) (.slice q n c) from ⟨q, c, congrArg (fun m => Value.slice q m c) HNL.out, HR.out.room.1, HR.out.room.2, FdsS.at HR.out.list⟩)
          go_wp2_with fail
          refine (rcheck_calls (NS := []) HFL.out ⟨none, 0, rfl, Nat.le_refl _, Nat.zero_le _, fun i hi => absurd hi (Nat.not_lt_zero _)⟩).mono ?_
          rintro e W5 ⟨d, path, at', rfl, ⟨q', c', rfl, -, -, -⟩, hb5⟩
          have HB5 := Lib.hid hb5
          have HB5w := Lib.hid (HBw.out.trans (hb5.mono HBw.out.size))
          have BO5 := Lib.hid (BO.out.below hb5 BO.out.lt)
          have BB5 := Lib.hid (A3.out.below (HB4.out.trans ((HB.out.trans (hb5.mono HB.out.size)).mono HB4.out.size)) A3.out.lt)
          clear hb5 o0 o1 hlo
          have o0 := BO5.out.row 0 _ rfl
          have o1 := BO5.out.row 1 _ rfl
          have hlo := BO5.out.lt
          have q0 := BB5.out.row 0 _ rfl
          have q1 := BB5.out.row 1 _ rfl
          have z0 := BB5.out.frozen 0
          have z1 := BB5.out.frozen 1
          have hl5 := BB5.out.lt
          have hne : w.heap.size + 1 + 1 ≠ W5.heap.size := by omega
          rw [show sizesOf [] = [] from rfl]
          obtain ⟨fe, hfe⟩ : ∃ fe, fe = schemaE (outL kind L1 K1 L2 K2) [] := ⟨_, rfl⟩
          rw [← hfe] at HT ⊢
          cases hx : (fe != 0) with
          | true =>
            have HE := Lib.hid (show typeS kind L1 (sizesOf N1) K1 L2 (sizesOf N2) K2 = ([], fe) by rw [HT.out, if_pos (by simpa using hx)])
            clear hfe HT
            go_wp2_with fail
            refine Late.region (fun w' => w'.cell? ⟨W5.heap.size, 0, none⟩ = some (.int .i64 fe)) (fun _ => false) (by kernel_rfl) ?_
            have HZ := BoxN.new W5 64 [.int .i64 fe, .slice q' d c', .int .i64 at']
            have HS0 := Lib.hid (show (W5.alloc (.cells #[.int .i64 fe, .slice q' d c', .int .i64 at'] 64)).drew.cell? ⟨W5.heap.size, 0, none⟩ = some (.int .i64 fe) from HZ.row 0 _ rfl)
            refine Late.take (i := 0) (v := ?_) rfl (by kernel_rfl) (by kernel_rfl) (by kernel_rfl) (by kernel_rfl) (fun _ _ _ h => h) (Or.inl ⟨by rfl, ?_⟩) HS0.out ?_
            rotate_left
            · intro w' hS
              have r0 := hS
              go_simp
              rfl
            refine Late.take (i := 1) (v := ?_) rfl (by kernel_rfl) (by kernel_rfl) (by kernel_rfl) (by kernel_rfl) (fun _ _ _ h => h) (Or.inl ⟨by rfl, ?_⟩) HS0.out ?_
            rotate_left
            · intro w' hS
              have r0 := hS
              go_simp
              rfl
            refine Late.take (i := 2) (v := ?_) rfl (by kernel_rfl) (by kernel_rfl) (by kernel_rfl) (by kernel_rfl) (fun _ _ _ h => h) (Or.inl ⟨by rfl, ?_⟩) HS0.out ?_
            rotate_left
            · intro w' hS
              have r0 := hS
              go_simp
              rfl
            refine Late.one (i := 3) (by kernel_rfl) rfl (fun K hK => ?_)
            go_simp
            obtain ⟨X, hX⟩ : ∃ X, X = (W5.setCell ⟨w.heap.size + 1 + 1, 0, none⟩ (.slice none 0 0)).setCell ⟨w.heap.size + 1 + 1, 1, none⟩ (.slice none 0 0) := ⟨_, rfl⟩
            have hXs : X.heap.size = W5.heap.size := by rw [hX]; simp
            have hXb := Lib.hid (show BoxN X (w.heap.size + 1 + 1) 26 [.slice none 0 0, .slice none 0 0] by rw [hX]; exact put2_box rfl BB5.out _ _)
            have hXw := Lib.hid (show Below w.heap.size w X by rw [hX]; exact put2_below HB5w.out (by omega) _ _)
            have HS1 := Lib.hid (show (X.alloc (.cells #[.int .i64 fe, .slice q' d c', .int .i64 at'] 64)).drew.cell? ⟨W5.heap.size, 0, none⟩ = some (.int .i64 fe) by rw [← hXs]; exact (BoxN.new X 64 [.int .i64 fe, .slice q' d c', .int .i64 at']).row 0 _ rfl)
            rw [← hX]
            clear hX
            refine hK _ _ (fun _ => HS1.out) ?_
            clear hK K
            refine Late.take (i := 4) (v := ?_) rfl (by kernel_rfl) (by kernel_rfl) (by kernel_rfl) (by kernel_rfl) (fun _ _ _ h => h) (Or.inl ⟨by rfl, ?_⟩) HS1.out ?_
            rotate_left
            · intro w' hS
              have r0 := hS
              go_simp
              rfl
            refine Late.done (by kernel_rfl) ?_ _
            go_wp2_with fail
            rw [HE.out]
            exact schema_back (i := 6) (j := 7) rfl (show BoxN (X.alloc (.cells #[.int .i64 fe, .slice q' d c', .int .i64 at'] 64)).drew (w.heap.size + 1 + 1) 26 [.slice none 0 0, .slice none 0 0] from hXb.out.alloc _) (below_drew (hXw.out.alloc hXw.out.size _)) (fds_none _) rfl rfl
          | false =>
            have HE := Lib.hid (show typeS kind L1 (sizesOf N1) K1 L2 (sizesOf N2) K2 = (outL kind L1 K1 L2 K2, 0) by rw [HT.out, if_neg (by simpa using hx)])
            clear hfe HT
            go_wp2_with fail
            rw [HE.out]
            refine schema_back (i := 6) (j := 7) rfl ((put2_box rfl BB5.out _ _).alloc _) ((put2_below HB5w.out (by omega) _ _).alloc (put2_below HB5w.out (by omega) _ _).size _) ⟨q, c, congrArg (fun m => Value.slice q m c) HNL.out, HR.out.room.1, HR.out.room.2, FdsS.at (FdsS.keep (T := fun _ => True) (fun b hs hlt => ⟨?_, trivial⟩) HR.out.list)⟩ rfl rfl
            have h5 := HB5.out.size
            have hne2 : b ≠ w.heap.size + 1 + 1 := by have := HXO.out; omega
            exact (((Below.refl _ _).alloc (Nat.le_refl _) _).block b (by simp; omega)).trans ((Below.heap_setCell _ _ _ b hne2).trans ((Below.heap_setCell _ _ _ b hne2).trans (HB5.out.block b hlt)))

end Go.Fld
