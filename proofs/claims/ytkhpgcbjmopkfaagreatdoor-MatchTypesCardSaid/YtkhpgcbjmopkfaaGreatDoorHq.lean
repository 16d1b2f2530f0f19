import Derived.Test.YtkhpgcbjmopkfaaGreatDoorHp
import Derived.Test.YtkhpgcbjmopkfaaGreatDoorHi
import Derived.Deep.AppendSrc
set_option linter.unusedVariables false
set_option maxRecDepth 100000
/-!
  MatchTypes: the walk. No conditions.
-/
namespace Go.Fld
open Go Go.RowKit Go.Proofs Go.ChangeShapes Go.WideShapes Go.ChangeAt Go.Shelf

/-- APPEND onto a slice without room behind its end: always a new block. -/
theorem run_append_tight {P : Program} (w : World) (t tx ty e : TypeId) (i : TypeInfo) (z : Value) (size bytes : Nat) (ht : P.underlying t = some (.slice e)) (hi : P.info? e = some i) (hz : i.zero = some z)
    (hsize : i.size = size) (hby : i.bytes = bytes) (hzs : z.cells.size = size)
    (p : Option Addr) (n : Nat) (xs : List Value) (hr : Src P size t (.slice p n n) n xs w) (x : Value) (m : Nat) (news : List Value) (hsrc : Src P size tx x m news w) (hm : 0 < m)
    (h63 : n + m ≤ maxLen) (hbytes : (n + m) * bytes ≤ 140737488355328) :
    ∃ cap' w', (Builtin.append_ #[t, tx] ty #[.slice p n n, x]).run P w = .ok (.slice (some ⟨w.heap.size, 0, none⟩) (n + m) cap') w' ∧ w'.ownsRow 0 e size (.slice (some ⟨w.heap.size, 0, none⟩) (n + m) cap') (n + m) (xs ++ news) ∧ Below w.heap.size w w' := by
  subst hsize
  subst hby
  have hsmall : n + m ≤ 9223372036854775807 := by simp only [maxLen] at h63; omega
  have hlen : (xs ++ news).length = (n + m) * i.size := by rw [List.length_append, hr.newsLen, hsrc.newsLen, Nat.add_mul]
  have hold := hr.cellsD
  have hrun := run_append_grow_src (P := P) w t tx ty e i z ht hi hz p n n xs hold x m news hsrc (by omega) (by omega) (growslice_fits (by omega) hbytes)
  have hge := grownCap_ge w (n + m) n e
  have hcm : grownCap w (n + m) n e ≤ maxLen := grownCap_le_maxLen w (n + m) n e h63
  refine ⟨_, _, hrun, ⟨hlen, .inr ⟨w.heap.size, _, _, rfl, Nat.zero_le _, heap_alloc_new w.drew _, hge, hcm, ?_, ?_⟩⟩, ⟨rfl, rfl, rfl, by simp, fun k hk => Below.heap_alloc w.drew _ k hk⟩⟩
  · simp only [Array.size_append, List.size_toArray, size_zeroCells, hzs, hlen, ← Nat.add_mul]
    congr 1
    omega
  · simp only [Array.toList_append]
    rw [← hlen]
    exact List.take_left

theorem wpList_append_tight {P : Program} {w : World} {ops : Array Oper} {rest : List Oper} {o : Oper} {a : Act} {Q : Exit → Act → World → Prop} (hgd : o.guard = none) (s x : Operand) (t tx : TypeId)
    (ho : o.op = .call { callee := .builtin .append, args := #[s, x], argTypes := #[t, tx] })
    (e : TypeId) (i : TypeInfo) (z : Value) (size bytes : Nat) (ht : P.underlying t = some (.slice e)) (hi : P.info? e = some i) (hz : i.zero = some z)
    (hsize : i.size = size) (hby : i.bytes = bytes) (hzs : z.cells.size = size)
    (p : Option Addr) (n : Nat) (xs : List Value) (hs : a.eval s = .slice p n n) (hr : Src P size t (.slice p n n) n xs w)
    (vx : Value) (m : Nat) (news : List Value) (hx : a.eval x = vx) (hsrc : Src P size tx vx m news w) (hm : 0 < m)
    (h63 : n + m ≤ maxLen) (hbytes : (n + m) * bytes ≤ 140737488355328)
    (h : ∀ cap' w', w'.ownsRow 0 e size (.slice (some ⟨w.heap.size, 0, none⟩) (n + m) cap') (n + m) (xs ++ news) → Below w.heap.size w w' → wpList P ops Q rest (a.put o.dst (.slice (some ⟨w.heap.size, 0, none⟩) (n + m) cap')) w') : wpList P ops Q (o :: rest) a w := by
  refine wpList_plain hgd fun K hK => ?_
  obtain ⟨cap', w', hr, h2, h3⟩ := run_append_tight (P := P) w t tx o.type e i z size bytes ht hi hz hsize hby hzs p n xs hr vx m news hsrc hm h63 hbytes
  unfold Oper.wp execOp
  simp only [ho, resolve, invoke, builtin, Sem.run_bind, Sem.run_pure, Result.andThen_ok, List.map_toArray, List.map_cons, List.map_nil, hs, hx, hr]
  exact hK _ _ (h cap' w' h2 h3)

/-- True comes back, and nothing that lay is written. -/
def YesPost (w : World) (e : Ending) (w' : World) : Prop := e = .returned (.bool true) ∧ Below w.heap.size w w'

theorem ints_src {w : World} {xs : List Int} {p : Option Addr} {c : Nat} (h : IntsAt w xs (.slice p xs.length c)) : Src Tryz.prog 1 30 (.slice p xs.length xs.length) xs.length (xs.map fun x => Value.int .i64 x) w := by
  obtain ⟨q, cap, e, h1, h2, h3⟩ := h
  cases e
  cases p with
  | none =>
    have : xs = [] := by
      cases xs with
      | nil => rfl
      | cons a r => obtain ⟨_, b, o, e, _⟩ := h3 0 (by simp); cases e
    subst this
    exact Src.ofNil w Tryz.underlying30 0
  | some a =>
    refine Src.ofSlice w Tryz.underlying30 a xs.length xs.length _ (by simp) (fun j u hu => ?_) (fun u hu => ?_)
    · have hj : j < xs.length := by have := (List.getElem?_eq_some_iff.1 hu).1; simpa using this
      obtain ⟨_, b, o, e, h4⟩ := h3 j hj
      cases e
      rw [Open.add_plain, h4]
      rw [List.getElem?_map, List.getElem?_eq_getElem hj] at hu
      exact hu
    · obtain ⟨x, _, rfl⟩ := List.mem_map.1 hu
      rfl

theorem ints_of_row {w : World} {g n cap : Nat} {xs : List Int} (h : w.ownsRow 0 3 1 (.slice (some ⟨g, 0, none⟩) n cap) n (xs.map fun x => Value.int .i64 x)) (hb : ∀ x ∈ xs, i64B x) (hn : n = xs.length) : IntsAt w xs (.slice (some ⟨g, 0, none⟩) n cap) := by
  subst hn
  have hroom : xs.length ≤ cap ∧ cap ≤ maxLen := by
    rcases h.2 with ⟨e, hn⟩ | ⟨g, c, cur, e, _, _, h1, h2, _⟩
    · simp at e
    · cases e; exact ⟨h1, h2⟩
  refine ⟨some ⟨g, 0, none⟩, cap, rfl, hroom.1, hroom.2, fun i hi => ⟨hb _ (List.getElem_mem hi), g, 0, rfl, ?_⟩⟩
  have := h.cells (g := g) rfl i (.int .i64 xs[i]) (by rw [List.getElem?_map, List.getElem?_eq_getElem hi]; rfl)
  rwa [Open.add_plain] at this
theorem info3_parts : ∃ i y, Tryz.prog.info? 3 = some i ∧ i.zero = some y ∧ y.cells.size = 1 ∧ i.size = 1 ∧ i.bytes = 8 := ⟨_, _, rfl, rfl, rfl, rfl, rfl⟩

set_option maxHeartbeats 4000000 in
theorem law_calls {w : World} {L1 L2 : List Fd} {N1 N2 : List (ByteArray × ByteArray)} {K1 K2 ks : List Int} {f1 n1 k1 f2 n2 k2 rv1 cv1 rv2 cv2 kv : Value} (hL1 : FdsAt w L1 f1) (hN1 : NtsAt w N1 n1) (hK1 : IntsAt w K1 k1) (hL2 : FdsAt w L2 f2) (hN2 : NtsAt w N2 n2) (hK2 : IntsAt w K2 k2) (hks : IntsAt w ks kv) (hsm : ks.length * 8 ≤ 0x7ffffffff000) (hS : SaysAt w)
    (ha : ∀ W, Below w.heap.size w W → Calls Tryz.prog 7 #[] W (YesPost W)) :
    Calls Tryz.prog 4 #[.agg #[f1, n1, rv1, cv1, k1], .agg #[f2, n2, rv2, cv2, k2], kv] w (YesPost w) := by
  have HL1 := Lib.hid hL1
  have HL2 := Lib.hid hL2
  have HN1 := Lib.hid hN1
  have HN2 := Lib.hid hN2
  have HK1 := Lib.hid hK1
  have HK2 := Lib.hid hK2
  have HKS := Lib.hid hks
  have HS := Lib.hid hS
  have HA := Lib.hid ha
  have HSM := Lib.hid hsm
  obtain ⟨fp1, fc1, rfl, -, -, -⟩ := hL1
  obtain ⟨fp2, fc2, rfl, -, -, -⟩ := hL2
  obtain ⟨np1, nc1, rfl, -, -, -⟩ := hN1
  obtain ⟨np2, nc2, rfl, -, -, -⟩ := hN2
  obtain ⟨kp1, kc1, rfl, -, -, -⟩ := hK1
  obtain ⟨kp2, kc2, rfl, -, -, -⟩ := hK2
  obtain ⟨kp, kc, rfl, hk1, hk2, -⟩ := hks
  clear hS ha hsm
  obtain ⟨W, hW⟩ : ∃ W, W = (w.alloc (.cells #[.slice fp1 L1.length fc1, .slice np1 N1.length nc1, rv1, cv1, .slice kp1 K1.length kc1] 32)).alloc (.cells #[.slice fp2 L2.length fc2, .slice np2 N2.length nc2, rv2, cv2, .slice kp2 K2.length kc2] 32) := ⟨_, rfl⟩
  have a1 : BoxN W w.heap.size 32 [.slice fp1 L1.length fc1, .slice np1 N1.length nc1, rv1, cv1, .slice kp1 K1.length kc1] := by
    rw [hW]
    exact (BoxN.new w 32 [.slice fp1 L1.length fc1, .slice np1 N1.length nc1, rv1, cv1, .slice kp1 K1.length kc1]).alloc _
  have a2 : BoxN W (w.heap.size + 1) 32 [.slice fp2 L2.length fc2, .slice np2 N2.length nc2, rv2, cv2, .slice kp2 K2.length kc2] := by
    rw [hW]
    have := BoxN.new (w.alloc (.cells #[.slice fp1 L1.length fc1, .slice np1 N1.length nc1, rv1, cv1, .slice kp1 K1.length kc1] 32)) 32 [.slice fp2 L2.length fc2, .slice np2 N2.length nc2, rv2, cv2, .slice kp2 K2.length kc2]
    rwa [World.size_alloc] at this
  have hBW : Below w.heap.size w W := by rw [hW]; exact ((Below.refl _ w).alloc (Nat.le_refl _) _).alloc (by simp) _
  have A1 := Lib.hid a1
  have A2 := Lib.hid a2
  have HBW := Lib.hid hBW
  have HW := Lib.hid hW
  clear a1 a2 hBW hW
  go_enter Tryz.func4, Tryz.ntmps4
  go_wp2_with fail
  rw [← HW.out]
  clear HW
  refine (HA.out W HBW.out).mono ?_
  rintro e W2 ⟨rfl, hb2⟩
  have HB2 := Lib.hid (HBW.out.trans (hb2.mono HBW.out.size))
  have HBU := Lib.hid hb2
  clear hb2
  unfold maxLen at hk2
  obtain ⟨i3, y3, hi3, hy3, hyc3, hsz3, hby3⟩ := info3_parts
  have hkn : ks.length + 7 ≤ 17592186044416 := by have := HSM.out; omega
  go_wp2_with (at_builtin; refine wpList_append_tight rfl _ _ 30 30 rfl 3 i3 y3 1 8 Tryz.underlying30 hi3 hy3 hsz3 hby3 hyc3 kp ks.length (ks.map fun x => Value.int .i64 x) rfl (ints_src (HKS.out.below (HB2.out.alloc HB2.out.size _))) (.slice (some ⟨W2.heap.size, 0, none⟩) 7 7) 7 [.int .i64 0, .int .i64 1, .int .i64 2, .int .i64 3, .int .i64 4, .int .i64 5, .int .i64 6] rfl (Src.ofSlice _ Tryz.underlying30 ⟨W2.heap.size, 0, none⟩ 7 7 _ rfl (World.news_of_block (BoxN.new W2 3 [.int .i64 0, .int .i64 1, .int .i64 2, .int .i64 3, .int .i64 4, .int .i64 5, .int .i64 6])) (fun u hu => by simp at hu; rcases hu with rfl | rfl | rfl | rfl | rfl | rfl | rfl <;> rfl)) (by decide) (by unfold maxLen; omega) (by omega) ?_; intro cap3 w3 hown3 hb3)
  obtain ⟨n, hn⟩ : ∃ n, n = ks.length + 7 := ⟨_, rfl⟩
  obtain ⟨g, hg⟩ : ∃ g, g = W2.heap.size + 1 := ⟨_, rfl⟩
  have hIK : IntsAt w3 (ks ++ [0, 1, 2, 3, 4, 5, 6]) (.slice (some ⟨g, 0, none⟩) n cap3) := by
    refine ints_of_row ?_ (fun x hx => ?_) (by simp [hn])
    · rw [List.map_append, hn, hg]
      simpa using hown3
    · rcases List.mem_append.1 hx with e | e
      · obtain ⟨j, hj, rfl⟩ := List.getElem_of_mem e
        obtain ⟨_, _, _, _, _, h5⟩ := HKS.out
        exact (h5 j hj).1
      · simp at e; rcases e with rfl | rfl | rfl | rfl | rfl | rfl | rfl <;> exact ⟨by decide, by decide⟩
  have hln : (ks ++ [0, 1, 2, 3, 4, 5, 6]).length = n := by simp [hn]
  generalize hxs : ks ++ [0, 1, 2, 3, 4, 5, 6] = xs at *
  clear hxs
  have hb3' : Below W2.heap.size W2 w3 := ((Below.refl _ W2).alloc (Nat.le_refl _) _).trans (hb3.mono (by simp))
  have HIK := Lib.hid hIK
  have HLN := Lib.hid hln
  have HB3 := Lib.hid (HB2.out.trans (hb3'.mono HB2.out.size))
  have HBV := Lib.hid (HBU.out.trans (hb3'.mono HBU.out.size))
  have hn2 : n ≤ 17592186044416 := by omega
  have hcast : ((ks.length : Int) + 7) = (n : Int) := by omega
  rw [← hg, ← hn, hcast]
  clear hcast hIK hln hown3 hb3 hb3' hg hn hkn
  go_loopw [24] (fun i wr => ∃ k : Nat, k ≤ n ∧ i = .int .i64 k ∧ Hid (Below w3.heap.size w3 wr)) (fun i _ => n - (intOf i).toNat)
  case atStart => exact ⟨0, by omega, rfl, Lib.hid (Below.refl _ _)⟩
  case round =>
    obtain ⟨k, hk, rfl, HB⟩ := hrel
    have HBw := Lib.hid (HB3.out.trans (HB.out.mono HB3.out.size))
    have HBo := Lib.hid (HBV.out.trans (HB.out.mono HBV.out.size))
    by_cases hlt : k < n
    · obtain ⟨_, _, e, _, _, h5⟩ := HIK.out
      cases e
      obtain ⟨_, b, o, e, x0⟩ := h5 k (by rw [HLN.out]; exact hlt)
      cases e
      obtain ⟨kind, hkd⟩ : ∃ kind, kind = xs[k]'(by rw [HLN.out]; exact hlt) := ⟨_, rfl⟩
      rw [← hkd] at x0
      clear h5 hkd
      replace x0 := cell_below HB.out x0
      rw [Nat.zero_add] at x0
      have B1 := A1.out.below HBo.out A1.out.lt
      have B2 := A2.out.below HBo.out A2.out.lt
      have p0 := B1.row 0 _ rfl
      have p1 := B1.row 1 _ rfl
      have p4 := B1.row 4 _ rfl
      have r0 := B2.row 0 _ rfl
      have r1 := B2.row 1 _ rfl
      have r4 := B2.row 4 _ rfl
      have hl1 := B1.lt
      have hl2 := B2.lt
      clear B1 B2
      go_wp2_with fail
      refine (type_calls kind (HL1.out.below HBw.out) (HN1.out.below HBw.out) (HK1.out.below HBw.out) (HL2.out.below HBw.out) (HN2.out.below HBw.out) (HK2.out.below HBw.out) (HS.out.below HBw.out)).mono ?_
      obtain ⟨rS, hrS⟩ : ∃ rS, rS = typeS kind L1 (sizesOf N1) K1 L2 (sizesOf N2) K2 := ⟨_, rfl⟩
      rw [← hrS]
      have HRS := Lib.hid hrS
      rintro e W5 ⟨v1, rfl, hf1, hb5⟩
      have HF1 := Lib.hid hf1
      have HB5 := Lib.hid hb5
      have HB5w := Lib.hid (HBw.out.trans (hb5.mono HBw.out.size))
      have HB5o := Lib.hid (HBo.out.trans (hb5.mono HBo.out.size))
      obtain ⟨q1, d1, rfl, -, -, -⟩ := hf1
      clear hb5 hrS x0 p0 p1 p4 r0 r1 r4 hl1 hl2
      have B1 := A1.out.below HB5o.out A1.out.lt
      have B2 := A2.out.below HB5o.out A2.out.lt
      have p0 := B1.row 0 _ rfl
      have p1 := B1.row 1 _ rfl
      have p2 := B1.row 2 _ rfl
      have p3 := B1.row 3 _ rfl
      have p4 := B1.row 4 _ rfl
      have r0 := B2.row 0 _ rfl
      have r1 := B2.row 1 _ rfl
      have r2 := B2.row 2 _ rfl
      have r3 := B2.row 3 _ rfl
      have r4 := B2.row 4 _ rfl
      have hl1 := B1.lt
      have hl2 := B2.lt
      clear B1 B2
      go_wp2_with fail
      obtain ⟨D, hD⟩ : ∃ D, D = W5.alloc (.cells #[.slice q1 rS.fst.length d1, .slice none 0 0] 26) := ⟨_, rfl⟩
      have bd : BoxN D W5.heap.size 26 [.slice q1 rS.fst.length d1, .slice none 0 0] := by rw [hD]; exact BoxN.new W5 26 _
      have hbD : Below W5.heap.size W5 D := by rw [hD]; exact (Below.refl _ W5).alloc (Nat.le_refl _) _
      rw [← hD]
      have HDw := Lib.hid (HB5w.out.trans (hbD.mono HB5w.out.size))
      have HDr := Lib.hid ((HB.out.trans (HB5.out.mono HB.out.size)).trans (hbD.mono (HB.out.trans (HB5.out.mono HB.out.size)).size))
      have HF1 := Lib.hid (HF1.out.below hbD)
      have HBD := Lib.hid bd
      clear hD bd hbD p0 p1 p2 p3 p4 r0 r1 r2 r3 r4 hl1 hl2
      refine (rtype_calls kind (HL1.out.below HDw.out) (HN1.out.below HDw.out) (HK1.out.below HDw.out) (HL2.out.below HDw.out) (HN2.out.below HDw.out) (HK2.out.below HDw.out)).mono ?_
      rw [← HRS.out]
      rintro e W6 ⟨v2, rfl, hf2, hb6⟩
      have HF2 := Lib.hid hf2
      have HB6 := Lib.hid hb6
      obtain ⟨q2, d2, rfl, -, -, -⟩ := hf2
      clear hb6
      obtain ⟨rL, rE⟩ := rS
      have BD6 := Lib.hid (HBD.out.below HB6.out HBD.out.lt)
      have y0 := BD6.out.row 0 _ rfl
      have y1 := BD6.out.row 1 _ rfl
      have hly := BD6.out.lt
      have hrr : (rE != rE) = false := by simp
      have hre : (rE == rE) = true := by simp
      go_wp2_with fail
      have hbZ : Below W6.heap.size W6 (W6.alloc (.cells #[.slice q2 rL.length d2, .slice none 0 0] 26)) := (Below.refl _ W6).alloc (Nat.le_refl _) _
      refine (same_calls ((HF1.out.below HB6.out).below hbZ) (HF2.out.below hbZ)).mono ?_
      rintro e W7 ⟨rfl, hb7⟩
      have HB7 := Lib.hid ((HDr.out.trans (HB6.out.mono HDr.out.size)).trans ((hbZ.trans (hb7.mono hbZ.size)).mono (HDr.out.trans (HB6.out.mono HDr.out.size)).size))
      clear hbZ hb7 y0 y1 hly hrr hre
      go_wp2_with fail
      exact ⟨⟨k + 1, by omega, by go_num, HB7⟩, by simp [intOf]; omega⟩
    · go_wp2_with fail
      go_ret
      exact ⟨rfl, HBw.out⟩

end Go.Fld
