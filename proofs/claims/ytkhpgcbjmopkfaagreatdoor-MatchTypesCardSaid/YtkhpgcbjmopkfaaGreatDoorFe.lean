import Derived.Lib.SliceRun
import Derived.Maps.AppendAt
import Derived.Maps.OwnSet
import Derived.Test.YtkhpgcbjmopkfaaGreatDoorFd
set_option linter.unusedVariables false
set_option maxRecDepth 100000
/-!
  A WAY (a list of whole numbers of which only the length matters), copied; WHAT IS WRONG WITH A FIELD. No conditions.
-/
namespace Go.Fld
open Go Go.RowKit Go.Proofs Go.ChangeShapes Go.WideShapes Go.ChangeAt

theorem und30 : Tryz.prog.underlying 30 = some (.slice 3) := by kernel_rfl
theorem und3 : Tryz.prog.underlying 3 = some (.int .i64) := by kernel_rfl
theorem info3 : (Tryz.prog.info? 3).map (fun i => (i.zero, i.size, i.bytes)) = some (some (.int .i64 0), 1, 8) := by kernel_rfl

/-- A way of d steps. -/
def WayAt (w : World) (d : Nat) (v : Value) : Prop := (d = 0 ∧ v = .slice none 0 0) ∨ ∃ b o cap, ∃ xs : List Value, v = .slice (some ⟨b, o, none⟩) d cap ∧ d ≤ cap ∧ cap ≤ maxLen ∧ xs.length = d ∧ (∀ (j : Nat) (u : Value), xs[j]? = some u → w.cell? ⟨b, o + j, none⟩ = some u) ∧ ∀ u ∈ xs, u.oneCell' = true

theorem clone_calls {w : World} {d : Nat} {v : Value} (h : WayAt w d v) (hd : d ≤ 64) :
    Calls Tryz.prog 44 #[v] w fun e w' => ∃ v' xs, e = .returned v' ∧ w'.ownsRow w.heap.size 3 1 v' d xs ∧ (∀ u ∈ xs, u.oneCell' = true) ∧ Below w.heap.size w w' := by
  rcases h with ⟨rfl, rfl⟩ | ⟨b, o, cap, xs, rfl, hc, hm, hx, hcell, h1⟩
  · have hnil := Lib.run_eql_slice_nil (P := Tryz.prog) w 30 3 none 0 0 0 0 und30
    go_enter Tryz.func44, Tryz.ntmps44
    go_wp2_with fail
    go_ret
    exact ⟨_, [], rfl, World.ownsRow_nil _ _ _ _, by simp, Below.refl _ _⟩
  · obtain ⟨i0, hi, hz0, hz1, hz2⟩ := info_parts info3
    have H1 := Lib.hid h1
    have HC := Lib.hid hcell
    have HX := Lib.hid hx
    clear h1 hcell hx
    unfold maxLen at hm
    have hnil := Lib.run_eql_slice_nil (P := Tryz.prog) w 30 3 (some ⟨b, o, none⟩) d cap 0 0 und30
    go_enter Tryz.func44, Tryz.ntmps44
    go_wp2_with (at_builtin; refine wpList_append_own_at _ rfl _ _ 30 rfl w.heap.size 3 i0 (.int .i64 0) 1 8 und30 hi hz0 hz1 hz2 rfl (by decide) _ 0 [] rfl ?e2 ⟨b, o, none⟩ d cap xs rfl ?e4 ?e5 H1.out (by unfold maxLen; omega) (by omega) ?e9 ?_)
    case e2 => exact World.ownsRow_made w #[] 0 (Nat.le_refl _) (by unfold maxLen; omega) rfl
    case e4 => rw [HX.out]; omega
    case e5 =>
      intro j u hj
      rw [Addr.add_lit]
      exact cell_below ((Below.refl _ w).alloc (Nat.le_refl _) _) (HC.out j u hj)
    case e9 => simp
    intro v' w1 hown hgrow hnil hat
    have HO := Lib.hid hown
    have HG := Lib.hid hgrow
    clear hown hgrow hnil hat
    go_wp2_with fail
    go_ret
    refine ⟨_, xs, rfl, by simpa using HO.out, H1.out, ?_⟩
    exact ((Below.refl _ w).alloc (Nat.le_refl _) _).grown HG.out (by simp) (fun k e => by simp [Value.ownBlock] at e; omega)


theorem und77 : Tryz.prog.underlying 77 = some (.map 3 3) := by kernel_rfl
theorem zero3 (w : World) : (zeroValue 3).run Tryz.prog w = .ok (.int .i64 0) w := by
  obtain ⟨i0, hi, hz0, hz1, hz2⟩ := info_parts info3
  simp [zeroValue, typeInfo, hi, hz0]

theorem wf64 {x : Int} (h : i64B x) : (Lit.int .i64 x).wf = true := by
  show (decide (IntKind.i64.min ≤ x) && decide (x ≤ IntKind.i64.max)) = true
  rw [show IntKind.i64.min = -9223372036854775808 from by decide, show IntKind.i64.max = 9223372036854775807 from by decide]
  unfold i64B at h
  simpa using h

/-- Cells that lie one behind the other from a block's start on. -/
def RowAt (w : World) (b : Nat) (l : List Value) : Prop := ∀ (j : Nat) (u : Value), l[j]? = some u → w.cell? ⟨b, j, none⟩ = some u
theorem RowAt.below {w w' : World} {b : Nat} {l : List Value} (h : RowAt w b l) (hb : Below w.heap.size w w') : RowAt w' b l := fun j u hj => cell_below hb (h j u hj)
theorem RowAt.new (w : World) (l : List Value) (t : TypeId) : RowAt (w.alloc (.cells l.toArray t)) w.heap.size l := fun j u hj => by
  have h := heap_alloc_new w (.cells l.toArray t)
  unfold World.cell?
  rw [h]
  simpa using hj
theorem RowAt.alloc {w : World} {b : Nat} {l : List Value} (h : RowAt w b l) (o : Obj) : RowAt (w.alloc o) b l := h.below ((Below.refl _ w).alloc (Nat.le_refl _) o)

theorem fits_at {w : World} {f : Fd} {p : Option Addr} {cap : Nat} (h : FdAt w f [.string f.nm, .bool f.nl, .int .i64 f.k, .int .i64 f.wd, .int .i64 f.id, .int .i64 f.ix, .slice p f.kids.length cap]) (hS : SaysAt w) :
    Calls Tryz.prog 48 #[.agg #[.int .i64 f.k, .int .i64 f.wd, .int .i64 f.id, .int .i64 f.ix, .slice p f.kids.length cap]] w fun e w' => e = .returned (.bool (fitsB f)) ∧ Below w.heap.size w w' := by
  obtain ⟨p', cap', e, _, c⟩ := fits_calls h hS
  cases e
  exact c
theorem fits_kids {f : Fd} (h : fitsB f = true) (hk : f.k = 19 ∨ f.k = 20) : f.kids ≠ [] := by
  intro e
  unfold fitsB at h
  rw [e] at h
  rcases hk with hk | hk <;> simp [hk, leastB] at h

/-- A field on its way, as a value. -/
def placeV (q : Option Addr) (qc : Nat) (av : Value) (cs : List Value) (n : Node) : Value := .agg ([Value.slice q n.d qc, av] ++ cs ++ [Value.bool n.inD]).toArray

set_option maxHeartbeats 4000000 in
theorem wrong_calls {w : World} {n : Node} {q : Option Addr} {qc : Nat} {av : Value} {cs : List Value} (hd : n.d ≤ 65) (ha : FdsAt w n.ahead av) (hf : FdAt w n.f cs) (hS : SaysAt w)
    (ahead : Nat) (hah : ahead ≤ 1000000000) {H : Type} {mb m : Nat} {D : DataW H} (hown : w.ownsMap Tryz.prog 3 (plainElem (H := H) Tryz.prog 3) mb m D) (ids : List Int) (hids : Maps.has D (.int .i64 n.f.id) = ids.contains n.f.id) :
    Calls Tryz.prog 33 #[placeV q qc av cs n, .int .i64 ahead, .map (some mb)] w fun e w' => e = .returned (.int .i64 (wrongE n ahead ids)) ∧ Below w.heap.size w w' := by
  obtain ⟨d, ah, f, inD⟩ := n
  simp only at hd ha hf hids
  obtain ⟨p, cap, rfl, hk, hnm, ik, iw, ii, ix⟩ := hf.shape
  obtain ⟨p', cap', e', _, fc⟩ := fits_calls hf hS
  cases e'
  obtain ⟨res, hres⟩ : ∃ r, r = wrongE ⟨d, ah, f, inD⟩ ahead ids := ⟨_, rfl⟩
  rw [← hres]
  unfold wrongE at hres
  simp only at hres
  have HR := Lib.hid hres
  have HF := Lib.hid hf
  have HA := Lib.hid ha
  have HK := Lib.hid hk
  have HS := Lib.hid hS
  have HO := Lib.hid hown
  have HI := Lib.hid hids
  obtain ⟨ap, acap, rfl, hal, ham, _⟩ := ha
  have hkey := Maps.keyOf_int_mk (P := Tryz.prog) (k := 3) (q := .i64) und3 (a := f.id) (wf64 ii)
  have HKEY := Lib.hid hkey
  clear hf hk hS hown hids hres hkey fc
  unfold maxLen at ham hnm
  unfold placeV
  simp only [List.cons_append, List.nil_append]
  go_enter Tryz.func33, Tryz.ntmps33
  go_wp2_with (at_lookup; refine wpList_lookup_own_ok_int _ rfl _ _ 77 rfl 3 3 .i64 (Maps.int_keyed und3) und77 und3 (zero3 _) mb m D rfl ?e1 _ _ rfl HKEY.out ?_)
  case e1 => exact (HO.out.alloc _).alloc _
  intro c _ _
  rw [HI.out]
  generalize ids.contains f.id = again at *
  obtain ⟨W, hW⟩ : ∃ W, W = ((w.alloc (.cells #[Value.slice q d qc, Value.slice ap ah.length acap, Value.string f.nm, Value.bool f.nl, Value.int IntKind.i64 f.k, Value.int IntKind.i64 f.wd, Value.int IntKind.i64 f.id, Value.int IntKind.i64 f.ix, Value.slice p f.kids.length cap, Value.bool inD] 82)).alloc (.cells #[Value.int IntKind.i64 f.k, Value.int IntKind.i64 f.wd, Value.int IntKind.i64 f.id, Value.int IntKind.i64 f.ix, Value.slice p f.kids.length cap] 57)) := ⟨_, rfl⟩
  have a1 : RowAt W w.heap.size [Value.slice q d qc, Value.slice ap ah.length acap, Value.string f.nm, Value.bool f.nl, Value.int IntKind.i64 f.k, Value.int IntKind.i64 f.wd, Value.int IntKind.i64 f.id, Value.int IntKind.i64 f.ix, Value.slice p f.kids.length cap, Value.bool inD] := by rw [hW]; exact (RowAt.new w [Value.slice q d qc, Value.slice ap ah.length acap, Value.string f.nm, Value.bool f.nl, Value.int IntKind.i64 f.k, Value.int IntKind.i64 f.wd, Value.int IntKind.i64 f.id, Value.int IntKind.i64 f.ix, Value.slice p f.kids.length cap, Value.bool inD] 82).alloc _
  have a2 : RowAt W (w.heap.size + 1) [Value.int IntKind.i64 f.k, Value.int IntKind.i64 f.wd, Value.int IntKind.i64 f.id, Value.int IntKind.i64 f.ix, Value.slice p f.kids.length cap] := by
    have := RowAt.new (w.alloc (.cells #[Value.slice q d qc, Value.slice ap ah.length acap, Value.string f.nm, Value.bool f.nl, Value.int IntKind.i64 f.k, Value.int IntKind.i64 f.wd, Value.int IntKind.i64 f.id, Value.int IntKind.i64 f.ix, Value.slice p f.kids.length cap, Value.bool inD] 82)) [Value.int IntKind.i64 f.k, Value.int IntKind.i64 f.wd, Value.int IntKind.i64 f.id, Value.int IntKind.i64 f.ix, Value.slice p f.kids.length cap] 57
    rw [World.size_alloc] at this
    rw [hW]
    exact this
  have hB : Below w.heap.size w W := by rw [hW]; exact ((Below.refl _ w).alloc (Nat.le_refl _) _).alloc (by simp) _
  rw [← hW]
  have c0 := a1 0 _ rfl
  have c2 := a1 2 _ rfl
  have A1 := Lib.hid a1
  have A2 := Lib.hid a2
  have HB := Lib.hid hB
  clear a1 a2 hW hB
  generalize hS : w.heap.size = S at *
  have HSz := Lib.hid hS
  clear hS
  go_wp2_with fail
  · have e : res = 33 := by rw [HR.out, if_pos (by omega)]
    go_ret
    exact ⟨by rw [e]; rfl, by rw [HSz.out]; exact HB.out⟩
  · have e : res = 34 := by rw [HR.out, if_neg (by omega), if_pos (by omega)]
    go_ret
    exact ⟨by rw [e]; rfl, by rw [HSz.out]; exact HB.out⟩
  have HR := Lib.hid (show _ from by have := HR.out; rw [if_neg (by omega), if_neg (by omega)] at this; exact this)
  refine (named_calls f.nm (by unfold maxLen; omega) W).mono ?_; rintro e w1 ⟨rfl, rfl⟩
  generalize nameB f.nm = nb at *
  cases nb with
  | false =>
    have e : res = 30 := by rw [HR.out, if_pos rfl]
    go_wp2_with fail
    go_ret
    exact ⟨by rw [e]; rfl, by rw [HSz.out]; exact HB.out⟩
  | true =>
  have HR := Lib.hid (show _ from by have := HR.out; rw [if_neg (by decide)] at this; exact this)
  have c1 := A1.out 1 _ rfl
  go_wp2_with fail
  have hBS := HB.out
  rw [← HSz.out] at hBS
  refine (contains_calls (HA.out.below hBS) f.nm S 0 (by simpa using c2)).mono ?_; rintro e W1 ⟨rfl, hb1⟩
  clear hBS
  generalize (ah.any fun g => g.nm.toList == f.nm.toList) = tw at *
  have HB1 : Hid (Below S w W1) := Lib.hid (HB.out.trans (hb1.mono (by have := HSz.out; have := HB.out.size; omega)))
  cases tw with
  | true =>
    have e : res = 31 := by rw [HR.out, if_pos rfl]
    go_wp2_with fail
    go_ret
    exact ⟨by rw [e]; rfl, by rw [HSz.out]; exact HB1.out⟩
  | false =>
  have HR := Lib.hid (show _ from by have := HR.out; rw [if_neg (by decide)] at this; exact this)
  have B1 := Lib.hid (A1.out.below hb1)
  have B2 := Lib.hid (A2.out.below hb1)
  clear hb1 A1 A2 HB c0 c1 c2
  have t0 := B2.out 0 _ rfl
  have t1 := B2.out 1 _ rfl
  have t2 := B2.out 2 _ rfl
  have t3 := B2.out 3 _ rfl
  have t4 := B2.out 4 _ rfl
  go_wp2_with fail
  have hBS := HB1.out
  rw [← HSz.out] at hBS
  refine (fits_at (HF.out.below hBS) (HS.out.below hBS)).mono ?_; rintro e W2 ⟨rfl, hb1⟩
  clear hBS
  have HB2 : Hid (Below S w W2) := Lib.hid (HB1.out.trans (hb1.mono (by have := HSz.out; have := HB1.out.size; omega)))
  obtain ⟨ft, hft⟩ : ∃ b, b = fitsB f := ⟨_, rfl⟩
  rw [← hft] at HR ⊢
  have HFT := Lib.hid hft
  clear hft
  cases ft with
  | false =>
    have e : res = 32 := by rw [HR.out, if_pos rfl]
    go_wp2_with fail
    go_ret
    exact ⟨by rw [e]; rfl, by rw [HSz.out]; exact HB2.out⟩
  | true =>
  have HR := Lib.hid (show _ from by have := HR.out; rw [if_neg (by decide)] at this; exact this)
  have C1 := Lib.hid (B1.out.below hb1)
  have C2 := Lib.hid (B2.out.below hb1)
  clear hb1 B1 B2 HB1 t0 t1 t2 t3 t4
  have c2 := C1.out 2 _ rfl
  have c3 := C1.out 3 _ rfl
  have c4 := C1.out 4 _ rfl
  have c5 := C1.out 5 _ rfl
  have c6 := C1.out 6 _ rfl
  have c7 := C1.out 7 _ rfl
  have c8 := C1.out 8 _ rfl
  go_wp2_with fail
  have hBS := HB2.out
  rw [← HSz.out] at hBS
  refine (nulls_calls (HF.out.below hBS) (fun h => fits_kids (by simpa using HFT.out.symm) (.inr h))).mono ?_; rintro e W3 ⟨rfl, hb1⟩
  clear hBS
  have HB3 : Hid (Below S w W3) := Lib.hid (HB2.out.trans (hb1.mono (by have := HSz.out; have := HB2.out.size; omega)))
  generalize nullsB f = nu at *
  cases nu with
  | false =>
    have e : res = 35 := by rw [HR.out, if_pos rfl]
    go_wp2_with fail
    go_ret
    exact ⟨by rw [e]; rfl, by rw [HSz.out]; exact HB3.out⟩
  | true =>
  have HR := Lib.hid (show _ from by have := HR.out; rw [if_neg (by decide)] at this; exact this)
  have D1 := Lib.hid (C1.out.below hb1)
  have D2 := Lib.hid (C2.out.below hb1)
  clear hb1 C1 C2 HB2 c2 c3 c4 c5 c6 c7 c8
  have c9 := D1.out 9 _ rfl
  have t0 := D2.out 0 _ rfl
  have t4 := D2.out 4 _ rfl
  by_cases k19 : f.k = 19
  · have hkn := fits_kids (by simpa using HFT.out.symm) (.inl k19)
    cases hkd : f.kids with
    | nil => exact absurd hkd hkn
    | cons g r =>
    have hC := HK.out
    have E0 := Lib.hid (show res = if (inD || (g.nl || again)) = true then 36 else 0 by
      rw [HR.out, k19]
      cases inD <;> simp [firstNl, hkd])
    rw [hkd] at hC
    obtain ⟨kp, kcap, e1, kl, km, hC⟩ := hC
    cases e1
    obtain ⟨b, o, cs', e1, e2, e3⟩ := hC.get 0 (by simp)
    obtain ⟨p', cap', hcs', _⟩ := e3.shape
    have g1 := e2 1 (.bool g.nl) (by rw [hcs']; rfl)
    have e4 : o + (0 + 7 * 0) + 1 = o + 1 := by omega
    rw [e4] at g1
    subst e1
    have g1 := cell_below (by have := HB3.out; rw [← HSz.out] at this; exact this) g1
    have gblk := World.block_lt_of_cell? W3 _ g1
    simp only at gblk
    rw [k19] at t0
    rw [hkd] at t4
    clear hC e2 e3 hcs' e4 hkn HR D1 D2
    generalize hg : (g :: r).length = gn at *
    have hgn : 0 < gn := by rw [← hg]; simp
    clear hg
    generalize g.nl = gl at *
    cases inD <;> cases gl <;> cases again <;>
      (have e := E0.out
       simp at e
       clear E0
       go_wp2_with fail
       go_ret
       exact ⟨by rw [e]; rfl, by rw [HSz.out]; exact HB3.out⟩)
  · by_cases k20 : f.k = 20
    · have E0 := Lib.hid (show res = if inD = true then 36 else 0 by
        rw [HR.out, k20]
        simp)
      rw [k20] at t0
      clear HR D1 D2 k19 k20
      cases inD <;>
        (have e := E0.out
         simp at e
         clear E0
         go_wp2_with fail
         go_ret
         exact ⟨by rw [e]; rfl, by rw [HSz.out]; exact HB3.out⟩)
    · have e : res = 0 := by
        rw [HR.out]
        simp [k19, k20]
      have n19 : (f.k == 19) = false := by simpa using k19
      have n20 : (f.k == 20) = false := by simpa using k20
      clear HR D1 D2 k19 k20
      cases inD <;>
        (go_wp2_with fail
         go_ret
         exact ⟨by rw [e]; rfl, by rw [HSz.out]; exact HB3.out⟩)

end Go.Fld
