import Derived.Test.YtkhpgcbjmopkfaaGreatDoorFm
set_option linter.unusedVariables false
set_option maxRecDepth 100000
/-!
  WHAT IS WRONG WITH A SCHEMA: the reference's Check. No conditions.
-/
namespace Go.Fld
open Go Go.RowKit Go.Proofs Go.ChangeShapes Go.WideShapes Go.ChangeAt Go.Shelf

theorem fault_result42 {W : World} {tmps : Array Value} {rb : Nat} {e a : Int} {v : Value} (ht : tmps.getD 2 undef = .pointer (some ⟨rb, 0, none⟩)) (hw : RowAt W rb [.int .i64 e, v, .int .i64 a]) :
    (results Tryz.f24 tmps).run Tryz.prog W = .ok (.agg #[.int .i64 e, v, .int .i64 a]) W := by
  have c0 := hw 0 _ rfl
  have c1 := hw 1 _ rfl
  have c2 := hw 2 _ rfl
  rw [Array.getD_eq_getD_getElem?] at ht
  simp [results, Tryz.f24, go_sem, ht, c0, c1, c2]

set_option maxHeartbeats 4000000 in
theorem rcheck_calls {w : World} {L : List Fd} {NS : List (ByteArray × ByteArray)} {fv nv : Value} (hL : FdsAt w L fv) (hN : NtsAt w NS nv) :
    Calls Tryz.prog 24 #[.agg #[fv, nv]] w (FaultPost w (schemaE L (sizesOf NS))) := by
  have HL := Lib.hid hL
  have HN := Lib.hid hN
  obtain ⟨p, c, rfl, hlc, hcm, _⟩ := hL
  obtain ⟨np, nc, rfl, hnc, hncm, hnt⟩ := hN
  have HNT := Lib.hid hnt
  clear hnt
  unfold maxLen at hcm hncm
  obtain ⟨res, hres⟩ : ∃ r, r = schemaE L (sizesOf NS) := ⟨_, rfl⟩
  rw [← hres]
  unfold schemaE at hres
  have hsl : (sizesOf NS).length = NS.length := by simp [sizesOf]
  rw [hsl] at hres
  have HR := Lib.hid hres
  clear hres hsl
  go_enter Tryz.func24, Tryz.ntmps24
  obtain ⟨W2, hW2⟩ : ∃ W2, W2 = (w.alloc (.cells #[Value.slice p L.length c, Value.slice np NS.length nc] 26)).alloc (.cells #[Value.int .i64 0, Value.slice none 0 0, Value.int .i64 0] 64) := ⟨_, rfl⟩
  have hB2 : Below w.heap.size w W2 := by rw [hW2]; exact ((Below.refl _ w).alloc (Nat.le_refl _) _).alloc (by simp) _
  have hs2 : W2.heap.size = w.heap.size + 2 := by rw [hW2]; simp
  have ra : RowAt W2 w.heap.size [Value.slice p L.length c, Value.slice np NS.length nc] := by rw [hW2]; exact (RowAt.new w [Value.slice p L.length c, Value.slice np NS.length nc] 26).alloc _
  have rr : ∀ e a : Int, RowAt ((w.alloc (.cells #[Value.slice p L.length c, Value.slice np NS.length nc] 26)).alloc (.cells #[Value.int .i64 e, Value.slice none 0 0, Value.int .i64 a] 64)) (w.heap.size + 1) [Value.int .i64 e, Value.slice none 0 0, Value.int .i64 a] := fun e a => by
    have := RowAt.new (w.alloc (.cells #[Value.slice p L.length c, Value.slice np NS.length nc] 26)) [Value.int .i64 e, Value.slice none 0 0, Value.int .i64 a] 64
    rwa [World.size_alloc] at this
  have re : ∀ e a : Int, Below w.heap.size w ((w.alloc (.cells #[Value.slice p L.length c, Value.slice np NS.length nc] 26)).alloc (.cells #[Value.int .i64 e, Value.slice none 0 0, Value.int .i64 a] 64)) := fun e a => ((Below.refl _ w).alloc (Nat.le_refl _) _).alloc (by simp) _
  have rr2 : RowAt W2 (w.heap.size + 1) [Value.int .i64 0, Value.slice none 0 0, Value.int .i64 0] := by rw [hW2]; exact rr 0 0
  have HRR := Lib.hid rr
  have HRE := Lib.hid re
  have HRA := Lib.hid ra
  have HR2 := Lib.hid rr2
  have HB2 := Lib.hid hB2
  have HW2 := Lib.hid hW2
  clear rr re ra rr2 hB2 hW2
  go_wp2_with fail
  · have e : res = 34 := by rw [HR.out, if_pos (by omega)]
    rw [e]
    exact bodyPost_ret (fault_result42 rfl (HRR.out 34 32)) rfl ⟨0, .slice none 0 0, 32, rfl, wayV_nil, HRE.out 34 32⟩
  · have e : res = 34 := by rw [HR.out, if_neg (by omega), if_pos (by omega)]
    rw [e]
    exact bodyPost_ret (fault_result42 rfl (HRR.out 34 16)) rfl ⟨0, .slice none 0 0, 16, rfl, wayV_nil, HRE.out 34 16⟩
  rw [← HW2.out]
  have HR := Lib.hid (show _ from by have := HR.out; rw [if_neg (by omega), if_neg (by omega)] at this; exact this)
  clear HRR HRE
  have hr0 := HR2.out 0 _ rfl
  have hbx : BoxN W2 (w.heap.size + 1) 64 [Value.int .i64 0, Value.slice none 0 0, Value.int .i64 0] := by
    rw [HW2.out]
    have := BoxN.new (w.alloc (.cells #[Value.slice p L.length c, Value.slice np NS.length nc] 26)) 64 [Value.int .i64 0, Value.slice none 0 0, Value.int .i64 0]
    rwa [World.size_alloc] at this
  have HBX := Lib.hid hbx
  clear hr0 hbx HW2
  go_loopw [21] (fun i wr => ∃ k : Nat, k ≤ NS.length ∧ i = .int .i64 k ∧ Hid (∀ (j : Nat) (hj : j < NS.length), j < k → NS[j].1.size ≤ 256 ∧ NS[j].2.size ≤ 256) ∧ Hid (Below W2.heap.size W2 wr)) (fun i _ => NS.length - (intOf i).toNat)
  case atStart => exact ⟨0, by omega, rfl, Lib.hid (fun j hj h => absurd h (Nat.not_lt_zero _)), Lib.hid (Below.refl _ _)⟩
  case round =>
    obtain ⟨k, hk, rfl, HF, HBK⟩ := hrel
    have hbw : Below w.heap.size w wr := HB2.out.trans (HBK.out.mono (by omega))
    have hsz := hbw.size
    have hsz2 := HBK.out.size
    have bx := HBX.out.below HBK.out (by omega)
    have ra := HRA.out.below HBK.out
    have HBX' := Lib.hid bx
    have HRA' := Lib.hid ra
    have HBW := Lib.hid hbw
    have hq1 : w.heap.size + 1 < wr.heap.size := by omega
    have hq0 : w.heap.size < wr.heap.size := by omega
    have HQ := Lib.hid hs2
    clear hs2 hsz2 hsz
    by_cases hlt : k < NS.length
    · obtain ⟨b, o, rfl, c1, c2, l1, l2⟩ := HNT.out k hlt
      replace c1 := cell_below hbw c1
      replace c2 := cell_below hbw c2
      generalize hs1 : NS[k].1 = s1 at c1 l1
      generalize hs2' : NS[k].2 = s2 at c2 l2
      have HS1 := Lib.hid hs1
      have HS2 := Lib.hid hs2'
      have b1 := World.block_lt_of_cell? wr _ c1
      simp only at b1
      unfold maxLen at l1 l2
      have q0 := bx.row 0 _ rfl
      have q1 := bx.row 1 _ rfl
      have q2 := bx.row 2 _ rfl
      have f0 := bx.frozen 0
      have f1 := bx.frozen 1
      have f2 := bx.frozen 2
      clear hs1 hs2' hbw bx ra
      go_wp2_with fail
      · -- a note is too long
        have hbig : 256 < s1.size ∨ 256 < s2.size := by omega
        have e : res = 37 := by
          rw [HR.out, if_pos ?_]
          rw [List.any_eq_true]
          refine ⟨(s1.size, s2.size), List.mem_map.2 ⟨NS[k], List.getElem_mem hlt, by rw [HS1.out, HS2.out]⟩, ?_⟩
          simpa using hbig
        rw [e]
        have bb := (((HBX'.out.set 0 (.int .i64 37)).set 1 (.slice none 0 0)).set 2 (.int .i64 k)).alloc (.cells #[Value.string s1, Value.string s2] 69)
        exact bodyPost_ret (fault_result42 rfl bb.row) rfl ⟨0, .slice none 0 0, k, rfl, wayV_nil, (((HBW.out.setCell (p := ⟨_, 0, none⟩) (by simp) _).setCell (p := ⟨_, 1, none⟩) (by simp) _).setCell (p := ⟨_, 2, none⟩) (by simp) _).alloc (by simp; omega) _⟩
      · refine ⟨⟨k + 1, by omega, by go_num, Lib.hid (fun j hj hjk => ?_), Lib.hid (HBK.out.alloc HBK.out.size _)⟩, by simp [intOf]; omega⟩
        by_cases e : j = k
        · subst e
          rw [HS1.out, HS2.out]
          omega
        · exact HF.out j hj (by omega)
      · -- a note is too long
        have hbig : 256 < s1.size ∨ 256 < s2.size := by omega
        have e : res = 37 := by
          rw [HR.out, if_pos ?_]
          rw [List.any_eq_true]
          refine ⟨(s1.size, s2.size), List.mem_map.2 ⟨NS[k], List.getElem_mem hlt, by rw [HS1.out, HS2.out]⟩, ?_⟩
          simpa using hbig
        rw [e]
        have bb := (((HBX'.out.set 0 (.int .i64 37)).set 1 (.slice none 0 0)).set 2 (.int .i64 k)).alloc (.cells #[Value.string s1, Value.string s2] 69)
        exact bodyPost_ret (fault_result42 rfl bb.row) rfl ⟨0, .slice none 0 0, k, rfl, wayV_nil, (((HBW.out.setCell (p := ⟨_, 0, none⟩) (by simp) _).setCell (p := ⟨_, 1, none⟩) (by simp) _).setCell (p := ⟨_, 2, none⟩) (by simp) _).alloc (by simp; omega) _⟩
    · have a0 := ra 0 _ rfl
      have hq4 : w.heap.size < wr.heap.size + 1 := by omega
      have hq5 : w.heap.size < wr.heap.size + 1 + 1 := by omega
      clear hbw bx ra
      go_wp2_with fail
      have hchk : res = checkE L := by
        rw [HR.out, if_neg ?_]
        rw [Bool.not_eq_true, List.any_eq_false]
        intro x hx
        obtain ⟨y, hy, rfl⟩ := List.mem_map.1 hx
        obtain ⟨j, hj, rfl⟩ := List.mem_iff_getElem.1 hy
        have := HF.out j hj (by omega)
        simp
        omega
      have HCK := Lib.hid hchk
      clear hchk
      refine (rgrow_in (w0 := w) (n0 := w.heap.size) rfl 64 0 rfl L false _ _ (.slice none 0 0) [] wr ⟨.inl ⟨rfl, rfl⟩, fun b o n c e => by cases e⟩ HBW.out HL.out (World.ownsRow_nil _ _ _ _) (by simp)).mono ?_
      rintro e W5 ⟨xs, outv, rfl, hxs, ho, hg⟩
      have hxl : xs.length ≤ 257 := by
        have := congrArg List.length hxs
        simp only [List.length_map, List.length_take] at this
        omega
      have hb5 : Below wr.heap.size wr W5 := hg.below (Nat.le_refl _) (fun k e => by cases e)
      obtain ⟨oq, oc, rfl⟩ : ∃ q c, outv = .slice q xs.length c := by
        rcases ho.2 with ⟨e, e2⟩ | ⟨g, c, cur, e, _⟩
        · exact ⟨none, 0, by rw [e, e2]⟩
        · exact ⟨_, c, e⟩
      have hsome : ∀ k, k < xs.length → ∃ g, oq = some ⟨g, 0, none⟩ := fun k hk => by
        rcases ho.2 with ⟨e, e2⟩ | ⟨g, c, cur, e, _⟩
        · omega
        · cases e; exact ⟨g, rfl⟩
      have hoc : xs.length ≤ oc ∧ oc ≤ maxLen := by
        rcases ho.2 with ⟨e, e2⟩ | ⟨g', c', cur, e, _, _, h1, h2, _⟩
        · simp only [Value.slice.injEq] at e
          obtain ⟨_, e3, e4⟩ := e
          exact ⟨by omega, by unfold maxLen; omega⟩
        · cases e; exact ⟨h1, h2⟩
      obtain ⟨hoc1, hoc2⟩ := hoc
      unfold maxLen at hoc2
      have B5 := Lib.hid (HBX'.out.below hb5 HBX'.out.lt)
      have HB5 := Lib.hid (HBW.out.trans (hb5.mono HBW.out.size))
      have HO5 := Lib.hid ho
      have HXS := Lib.hid hxs
      have HSM := Lib.hid hsome
      clear hxs ho hg hb5 hsome hq0 hq1 hq4 hq5 a0
      go_wp2_with fail
      go_loopw [44] (fun i wr2 => ∃ k : Nat, k ≤ xs.length ∧ i = .int .i64 k ∧ Hid (firstE 0 [] ((xs.take k).map Place.n) = 0) ∧ Hid (Below W5.heap.size W5 wr2)) (fun i _ => xs.length - (intOf i).toNat)
      case atStart => exact ⟨0, by omega, rfl, Lib.hid rfl, Lib.hid (Below.refl _ _)⟩
      case round =>
        obtain ⟨k, hk, rfl, HFE, HBB⟩ := hrel
        have hbb : Below w.heap.size w wr := HB5.out.trans (HBB.out.mono HB5.out.size)
        have HB6 := Lib.hid hbb
        have B6 := Lib.hid (B5.out.below HBB.out B5.out.lt)
        by_cases hlt : k < xs.length
        · obtain ⟨g, rfl⟩ := HSM.out k hlt
          have ho6 : OutAt wr w.heap.size xs (.slice (some ⟨g, 0, none⟩) xs.length oc) := HO5.out.kept (row := none) ⟨HBB.out.os, HBB.out.tape, HBB.out.output, HBB.out.size, fun k hk _ => HBB.out.block k hk⟩ (.inr (by simp [Value.ownBlock]))
          have HO6 := Lib.hid ho6
          have hwe : firstE 0 [] ((xs.take (k + 1)).map Place.n) = wrongE (xs[k]).n k (idsAll [] ((xs.take k).map Place.n)) := by
            rw [List.take_succ_eq_append_getElem hlt, List.map_append, firstE_go _ _ _ _ HFE.out]
            show firstE _ _ [(xs[k]).n] = _
            rw [firstE_one]
            simp [Nat.min_eq_left (Nat.le_of_lt hlt)]
          have hwr := rwrong_calls ho6 hxl hbb hlt
          generalize wrongE (xs[k]).n k (idsAll [] ((xs.take k).map Place.n)) = we at *
          have HWE := Lib.hid hwe
          have HWR := Lib.hid hwr
          have hrow := ho6.row hlt 0 (.slice (xs[k]).q (xs[k]).n.d (xs[k]).qc) rfl
          have HQ2 := Lib.hid (xs[k]).hq
          have HROW := Lib.hid hrow
          clear hwe hwr hbb ho6 hrow
          go_wp2_with fail
          refine HWR.out.mono ?_
          rintro e W6 ⟨rfl, hb6⟩
          have HB7 := Lib.hid (HB6.out.trans (hb6.mono HB6.out.size))
          have HBB7 := Lib.hid (HBB.out.trans (hb6.mono HBB.out.size))
          have B7 := Lib.hid (B6.out.below hb6 B6.out.lt)
          have hrow := cell_below hb6 HROW.out
          simp only [Nat.add_zero] at hrow
          have hlt7 := B7.out.lt
          clear hb6
          generalize (xs[k]).q = xq at *
          generalize (xs[k]).n.d = xd at *
          generalize (xs[k]).qc = xc at *
          by_cases hz : we = 0
          · have HZ := Lib.hid hz
            subst hz
            clear hrow
            go_wp2_with fail
            go_round
            case rel => exact ⟨k + 1, by omega, by go_num, HWE, HBB7⟩
            case measure => simp [intOf]; omega
          · have HZ := Lib.hid hz
            have hz1 : (we == 0) = false := by simpa using hz
            have hz2 : (we != 0) = true := by simpa using hz
            have r0 := B7.out.row 0 _ rfl
            have r1 := B7.out.row 1 _ rfl
            have r2 := B7.out.row 2 _ rfl
            have f0 := B7.out.frozen 0
            have f1 := B7.out.frozen 1
            have f2 := B7.out.frozen 2
            have hgl := World.block_lt_of_cell? W6 _ hrow
            simp only at hgl
            clear hz
            go_wp2_with fail
            have e : res = we := by
              rw [HCK.out]
              have hp : (xs.take (k + 1)).map Place.n <+: nodesD 64 1 L false := by
                have h1 : (xs.take (k + 1)).map Place.n <+: xs.map Place.n := by
                  rw [List.map_take]
                  exact List.take_prefix _ _
                refine h1.trans ?_
                have h2 := HXS.out
                simp only [List.map_nil, List.nil_append] at h2
                rw [h2]
                exact List.take_prefix _ _
              have h3 := firstE_prefix hp (by rw [HWE.out]; exact HZ.out)
              unfold checkE
              rw [h3, HWE.out]
            rw [e]
            have bb := ((B7.out.set 0 (.int .i64 we)).set 1 (.slice xq xd xc)).set 2 (.int .i64 0)
            exact bodyPost_ret (fault_result42 rfl bb.row) rfl ⟨_, _, 0, rfl, HQ2.out, ((HB7.out.setCell (p := ⟨_, 0, none⟩) (by simp) _).setCell (p := ⟨_, 1, none⟩) (by simp) _).setCell (p := ⟨_, 2, none⟩) (by simp) _⟩
        · have e : res = 0 := by
            rw [HCK.out]
            have h1 : xs.take k = xs := List.take_of_length_le (by omega)
            have h2 := HFE.out
            rw [h1] at h2
            have h3 := HXS.out
            simp only [List.map_nil, List.nil_append] at h3
            have h4 : nodesD 64 1 L false = xs.map Place.n := by
              rcases firstE_few _ _ _ h2 with h | h
              · rw [h] at h3 ⊢
                have := congrArg List.length h3
                rw [List.length_take] at this
                exact List.eq_nil_of_length_eq_zero (by simp at this; omega)
              · rw [h3]
                refine (take_le ?_).symm
                rw [← h3]
                simp at h ⊢
                omega
            unfold checkE
            rw [h4]
            exact h2
          have HE := Lib.hid e
          have r0 := B6.out.row 0 _ rfl
          have r1 := B6.out.row 1 _ rfl
          have r2 := B6.out.row 2 _ rfl
          have f0 := B6.out.frozen 0
          have f1 := B6.out.frozen 1
          have f2 := B6.out.frozen 2
          have hlt6 := B6.out.lt
          clear e hbb
          go_wp2_with fail
          rw [HE.out]
          have bb := ((B6.out.set 0 (.int .i64 0)).set 1 (.slice none 0 0)).set 2 (.int .i64 0)
          exact bodyPost_ret (fault_result42 rfl bb.row) rfl ⟨0, .slice none 0 0, 0, rfl, wayV_nil, ((HB6.out.setCell (p := ⟨_, 0, none⟩) (by simp) _).setCell (p := ⟨_, 1, none⟩) (by simp) _).setCell (p := ⟨_, 2, none⟩) (by simp) _⟩

end Go.Fld
