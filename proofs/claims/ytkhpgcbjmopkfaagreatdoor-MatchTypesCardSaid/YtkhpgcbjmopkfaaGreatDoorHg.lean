import Derived.Test.YtkhpgcbjmopkfaaGreatDoorFs
set_option linter.unusedVariables false
set_option maxRecDepth 100000
/-!
  FIELDS IN MEMORY OF THEIR OWN, a whole list. No conditions.
-/
namespace Go.Fld
open Go Go.RowKit Go.Proofs Go.ChangeShapes Go.WideShapes Go.ChangeAt Go.Shelf

/-- These fields come back, in blocks that were not there. -/
def ListPost (w : World) (l : List Fd) (e : Ending) (w' : World) : Prop := ∃ p cap, e = .returned (.slice p l.length cap) ∧ (l.length ≤ cap ∧ cap ≤ maxLen) ∧ FdsS (fun b => w.heap.size ≤ b) w' p 0 l ∧ Below w.heap.size w w'

set_option maxHeartbeats 2000000 in
theorem owned_step {w : World} {L : List Fd} {v : Value} (h : FdsAt w L v) (hsm : L.length ≤ 1000000000000)
    (ih : ∀ g ∈ L, ∀ (w : World) (v : Value), FdsAt w g.kids v → Calls Tryz.prog 19 #[v] w (ListPost w g.kids)) :
    Calls Tryz.prog 19 #[v] w (ListPost w L) := by
  obtain ⟨i1, z1, hi1, hz1, hzc1, hsz1, hby1⟩ := info28_parts
  obtain ⟨p, cap, rfl, hl, hm, hC⟩ := h
  unfold maxLen at hm
  have HC := Lib.hid hC
  have HI := Lib.hid ih
  clear ih hC
  go_enter Tryz.func19, Tryz.ntmps19
  go_wp2_with fail
  go_loopw [3, 8] (fun l i wr => ∃ (k : Nat) (q : Option Addr) (c : Nat) (css : List (List Value)), k ≤ L.length ∧ l = .slice q k c ∧ i = .int .i64 k ∧ Hid (RowF wr w.heap.size (.slice q k c) (L.take k) css) ∧ Hid (Below w.heap.size w wr)) (fun _ i _ => L.length - (intOf i).toNat)
  case atStart => exact ⟨0, none, 0, [], by omega, rfl, rfl, Lib.hid (RowF.nil _ _), Lib.hid (Below.refl _ _)⟩
  case round =>
    obtain ⟨k, q, c, css, hk, rfl, rfl, HR, HB⟩ := hrel
    have hsz := HB.out.size
    by_cases hlt : k < L.length
    · obtain ⟨b', o', fq, cap', rfl, e3, c0, c1, c2, c3, c4, c5, c6⟩ := HC.out.seven k hlt
      have E3 := Lib.hid (e3.below HB.out)
      replace c0 := cell_below HB.out c0
      replace c1 := cell_below HB.out c1
      replace c2 := cell_below HB.out c2
      replace c3 := cell_below HB.out c3
      replace c4 := cell_below HB.out c4
      replace c5 := cell_below HB.out c5
      replace c6 := cell_below HB.out c6
      have HIG := Lib.hid (HI.out L[k] (List.getElem_mem hlt))
      have HTK := Lib.hid (List.take_succ_eq_append_getElem hlt)
      clear e3
      generalize hg : L[k] = g at *
      have HG := Lib.hid hg
      clear hg
      go_wp2_with fail
      obtain ⟨A, hA⟩ : ∃ A, A = wr.alloc (.cells #[Value.string g.nm, Value.bool g.nl, Value.int IntKind.i64 g.k, Value.int IntKind.i64 g.wd, Value.int IntKind.i64 g.id, Value.int IntKind.i64 g.ix, Value.slice fq g.kids.length cap'] 59) := ⟨_, rfl⟩
      have BA : Below wr.heap.size wr A := by rw [hA]; exact (Below.refl _ wr).alloc (Nat.le_refl _) _
      have a1 : BoxN A wr.heap.size 59 [.string g.nm, .bool g.nl, .int .i64 g.k, .int .i64 g.wd, .int .i64 g.id, .int .i64 g.ix, .slice fq g.kids.length cap'] := by rw [hA]; exact BoxN.new wr 59 _
      rw [← hA]
      clear hA
      obtain ⟨_, _, esh, hkd, hnm, ik, iw, ii, ix'⟩ := E3.out.shape
      cases esh
      refine (HIG.out A _ (hkd.below BA)).mono ?_
      rintro e W1 ⟨p1, cap1, rfl, ⟨hr1, hr2⟩, hfd, hb1⟩
      have B1 := Lib.hid (a1.below hb1 a1.lt)
      have hasz : wr.heap.size < A.heap.size := a1.lt
      have BA1 := Lib.hid (BA.trans (hb1.mono BA.size))
      have HFD := Lib.hid hfd
      have HNM := Lib.hid hnm
      have HII := Lib.hid (And.intro ik (And.intro iw (And.intro ii ix')))
      have HRR := Lib.hid (And.intro hr1 hr2)
      clear hkd a1 BA hb1 hfd hnm ik iw ii ix' hr1 hr2 c0 c1 c2 c3 c4 c5 c6
      have r0 := B1.out.row 0 _ rfl
      have r1 := B1.out.row 1 _ rfl
      have r2 := B1.out.row 2 _ rfl
      have r3 := B1.out.row 3 _ rfl
      have r4 := B1.out.row 4 _ rfl
      have r5 := B1.out.row 5 _ rfl
      have r6 := B1.out.row 6 _ rfl
      have x6 := B1.out.frozen 6
      have hlb := B1.out.lt
      have hb2' : Below wr.heap.size wr (W1.setCell ⟨wr.heap.size, 6, none⟩ (.slice p1 g.kids.length cap1)) := BA1.out.setCell (p := ⟨wr.heap.size, 6, none⟩) (Nat.le_refl _) _
      have hgS : FdS (fun b => A.heap.size ≤ b) (W1.setCell ⟨wr.heap.size, 6, none⟩ (.slice p1 g.kids.length cap1)) g [.string g.nm, .bool g.nl, .int .i64 g.k, .int .i64 g.wd, .int .i64 g.id, .int .i64 g.ix, .slice p1 g.kids.length cap1] := by
        have h1 : FdS (fun b => A.heap.size ≤ b) W1 g [.string g.nm, .bool g.nl, .int .i64 g.k, .int .i64 g.wd, .int .i64 g.id, .int .i64 g.ix, .slice p1 g.kids.length cap1] := by
          obtain ⟨q1, q2, q3, q4⟩ := HII.out
          cases g with
          | mk nm nl fk wd id ix kids => exact FdS.mk' HNM.out q1 q2 q3 q4 HRR.out.1 HRR.out.2 HFD.out
        exact h1.keep (fun b hs hlt => ⟨Below.heap_setCell _ _ _ b (by show b ≠ wr.heap.size; omega), hs⟩)
      have hsE : (W1.setCell ⟨wr.heap.size, 6, none⟩ (.slice p1 g.kids.length cap1)).heap.size = W1.heap.size := by simp
      have hR1 := HR.out.below hb2'
      have htk : (L.take k).length = k := by rw [List.length_take]; omega
      have hown1 : (W1.setCell ⟨wr.heap.size, 6, none⟩ (.slice p1 g.kids.length cap1)).ownsRow w.heap.size 59 7 (.slice q k c) k (css.flatMap id) := by have := hR1.own; rwa [htk] at this
      have hoff : ∀ j, (Value.slice q k c).ownBlock = some j → j < wr.heap.size := fun j e => (HR.out.own.lt j e).2
      have hfd1 : FdS (fun b => w.heap.size ≤ b ∧ (Value.slice q k c).ownBlock ≠ some b) (W1.setCell ⟨wr.heap.size, 6, none⟩ (.slice p1 g.kids.length cap1)) g _ := hgS.mono (fun b hb => ⟨by omega, fun e => by have := hoff b e; omega⟩)
      have HR1 := Lib.hid hR1
      have HO1 := Lib.hid hown1
      have HF1 := Lib.hid hfd1
      have HB2 := Lib.hid (HB.out.trans (hb2'.mono hsz))
      have HTL := Lib.hid htk
      have hZ := BoxN.new (W1.setCell ⟨wr.heap.size, 6, none⟩ (.slice p1 g.kids.length cap1)) 59 [Value.string g.nm, Value.bool g.nl, Value.int IntKind.i64 g.k, Value.int IntKind.i64 g.wd, Value.int IntKind.i64 g.id, Value.int IntKind.i64 g.ix, Value.slice p1 g.kids.length cap1]
      rw [hsE] at hZ
      have HZ := Lib.hid hZ
      have hs1 := HB2.out.size
      rw [hsE] at hs1
      have HSE := Lib.hid hsE
      clear hb2' hR1 hown1 hfd1 hoff hZ htk hgS hsE
      go_wp2_with (at_builtin; refine wpList_append_lies _ rfl _ _ 23 rfl w.heap.size 59 i1 z1 7 80 und23 hi1 hz1 hsz1 hby1 hzc1 (by decide) (.slice q k c) k (css.flatMap id) rfl (HO1.out.alloc _) ⟨W1.heap.size, 0, none⟩ 1 1 [Value.string g.nm, Value.bool g.nl, Value.int IntKind.i64 g.k, Value.int IntKind.i64 g.wd, Value.int IntKind.i64 g.id, Value.int IntKind.i64 g.ix, Value.slice p1 g.kids.length cap1] rfl rfl (World.news_of_block HZ.out) (by simp [Value.oneCell']) (by decide) (by unfold maxLen; omega) (by omega) (by simp; omega) (W1.heap.size + 1) (by simp) ?_; intro gg cc w2 hown2 hgrow2 hat2 hlt2)
      refine ⟨⟨k + 1, some ⟨gg, 0, none⟩, cc, css ++ [[Value.string g.nm, Value.bool g.nl, Value.int IntKind.i64 g.k, Value.int IntKind.i64 g.wd, Value.int IntKind.i64 g.id, Value.int IntKind.i64 g.ix, Value.slice p1 g.kids.length cap1]], by omega, rfl, by go_num, Lib.hid ?_, Lib.hid ((HB2.out.alloc HB2.out.size _).grown hgrow2 (by have := HB2.out.size; simp; omega) (fun j e => (HO1.out.lt j e).1))⟩, by simp [intOf]; omega⟩
      rw [HTK.out]
      exact (HR1.out.below ((Below.refl _ _).alloc (Nat.le_refl _) _)).push (HF1.out.below ((Below.refl _ _).alloc (Nat.le_refl _) _)) HTL.out hown2 hgrow2 (by rw [World.size_alloc, HSE.out]; exact hat2)
    · have hkl : k = L.length := by omega
      have HKL := Lib.hid hkl
      go_wp2_with fail
      go_ret
      have hR := HR.out
      rw [HKL.out, List.take_length] at hR
      have hlist := hR.list
      have hroom := hR.room
      rw [HKL.out]
      exact ⟨q, c, rfl, hroom, hlist, HB.out⟩

theorem owned_calls (f : Fd) : okF f → ∀ (w : World) (v : Value), FdsAt w f.kids v → Calls Tryz.prog 19 #[v] w (ListPost w f.kids) :=
  fd_ind (P := fun f => okF f → ∀ (w : World) (v : Value), FdsAt w f.kids v → Calls Tryz.prog 19 #[v] w (ListPost w f.kids)) (fun f ih ho w v hv => by
    obtain ⟨_, hk, hl⟩ := okF_kids ho
    exact owned_step hv (by omega) (fun g hg w v h => ih g hg (okL_mem hl g hg) w v h)) f
/-- A list that may be. -/
theorem owneds_calls {w : World} {L : List Fd} {v : Value} (h : FdsAt w L v) (ho : okL L) (hl : L.length ≤ 32) : Calls Tryz.prog 19 #[v] w (ListPost w L) :=
  owned_step h (by omega) (fun g hg w v h => owned_calls g (okL_mem ho g hg) w v h)

end Go.Fld
