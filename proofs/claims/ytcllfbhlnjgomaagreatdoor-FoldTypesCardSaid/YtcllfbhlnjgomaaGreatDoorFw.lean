import Derived.Test.YtcllfbhlnjgomaaGreatDoorFv
set_option linter.unusedVariables false
set_option maxRecDepth 100000
/-!
  AN AGGREGATE IS MADE. No conditions.
-/
namespace Go.Fld
open Go Go.RowKit Go.Proofs Go.ChangeShapes Go.WideShapes Go.ChangeAt Go.Shelf

/-- Something that is an interface's value comes back. -/
def MadePost (w : World) (e : Ending) (w' : World) : Prop := (∃ ty b, e = .returned (.iface ty (.pointer (some ⟨b, 0, none⟩)))) ∧ Below w.heap.size w w'

set_option maxHeartbeats 1000000 in
theorem made_calls (op k : Int) (hk : i64B k) (h1 : 1 ≤ op) (h9 : op ≤ 9) (g : Fd) (p : Option Addr) (cap : Nat) (w : World) :
    Calls Tryz.prog 15 #[.int .i64 op, .agg #[.string g.nm, .bool g.nl, .int .i64 g.k, .int .i64 g.wd, .int .i64 g.id, .int .i64 g.ix, .slice p g.kids.length cap], .int .i64 k] w (MadePost w) := by
  unfold i64B at hk
  have hor : op = 1 ∨ op = 2 ∨ op = 3 ∨ op = 4 ∨ op = 5 ∨ op = 6 ∨ op = 7 ∨ op = 8 ∨ op = 9 := by omega
  clear h1 h9
  rcases hor with rfl | rfl | rfl | rfl | rfl | rfl | rfl | rfl | rfl <;>
  (go_enter Tryz.func15, Tryz.ntmps15
   go_wp2_with fail
   all_goals go_ret
   all_goals (refine ⟨⟨_, _, rfl⟩, ?_⟩
              first
                | exact ((Below.refl _ w).alloc (Nat.le_refl _) _).alloc (by simp) _
                | exact (((Below.refl _ w).alloc (Nat.le_refl _) _).alloc (by simp) _).alloc (by simp; omega) _
                | exact ((((Below.refl _ w).alloc (Nat.le_refl _) _).alloc (by simp) _).alloc (by simp; omega) _).alloc (by simp; omega) _))

/-- A new aggregate, or none: just where there is an error. -/
def NewPost (w : World) (er : Int) (e : Ending) (w' : World) : Prop := (∃ q : Option Addr, e = .returned (.tuple #[.pointer q, .int .i64 er]) ∧ (q = none ↔ er ≠ 0)) ∧ Below w.heap.size w w'

theorem typeF_op {op : Int} {f : Fd} (h : (typeF op f).2 = 0) : 1 ≤ op ∧ op ≤ 9 ∧ mayB f = true := by
  unfold typeF at h
  by_cases h0 : mayB f = false
  · rw [if_pos h0] at h; cases h
  rw [if_neg h0] at h
  refine ⟨?_, ?_, by simpa using h0⟩
  all_goals
    by_cases h1 : op = 1 ∨ op = 2
    · omega
    rw [if_neg h1] at h
    by_cases h3 : op = 3
    · omega
    rw [if_neg h3] at h
    by_cases h4 : 4 ≤ op ∧ op ≤ 7
    · omega
    rw [if_neg h4] at h
    by_cases h8 : op = 8 ∨ op = 9
    · omega
    · rw [if_neg h8] at h; cases h

theorem field28 (g : Fd) (p : Option Addr) (cap : Nat) (w : World) : (Instr.field 28 (.agg #[.string g.nm, .bool g.nl, .int .i64 g.k, .int .i64 g.wd, .int .i64 g.id, .int .i64 g.ix, .slice p g.kids.length cap]) 2).run Tryz.prog w = .ok (.agg #[.int .i64 g.k, .int .i64 g.wd, .int .i64 g.id, .int .i64 g.ix, .slice p g.kids.length cap]) w := by kernel_rfl
theorem field26 (g : Fd) (p : Option Addr) (cap : Nat) (w : World) : (Instr.field 26 (.agg #[.int .i64 g.k, .int .i64 g.wd, .int .i64 g.id, .int .i64 g.ix, .slice p g.kids.length cap]) 0).run Tryz.prog w = .ok (.int .i64 g.k) w := by kernel_rfl

set_option maxHeartbeats 1000000 in
theorem new_calls {w : World} {f : Fd} {p : Option Addr} {cap : Nat} (op : Int) (hop : i64B op) (hf : FdAt w f [.string f.nm, .bool f.nl, .int .i64 f.k, .int .i64 f.wd, .int .i64 f.id, .int .i64 f.ix, .slice p f.kids.length cap]) (hS : SaysAt w) :
    Calls Tryz.prog 7 #[.int .i64 op, .agg #[.string f.nm, .bool f.nl, .int .i64 f.k, .int .i64 f.wd, .int .i64 f.id, .int .i64 f.ix, .slice p f.kids.length cap]] w (NewPost w (typeF op f).2) := by
  have HF := Lib.hid hf
  have HS := Lib.hid hS
  have A0 := BoxN.new w 28 [.string f.nm, .bool f.nl, .int .i64 f.k, .int .i64 f.wd, .int .i64 f.id, .int .i64 f.ix, .slice p f.kids.length cap]
  have A1 := Lib.hid A0
  obtain ⟨r, hr⟩ : ∃ r, r = typeF op f := ⟨_, rfl⟩
  rw [← hr]
  obtain ⟨g, er⟩ := r
  have HRR := Lib.hid hr
  clear hf hS A0 hr
  show Calls Tryz.prog 7 _ w (NewPost w er)
  go_enter Tryz.func7, Tryz.ntmps7
  go_wp2_with fail
  obtain ⟨W, hW⟩ : ∃ W, W = w.alloc (.cells #[Value.string f.nm, Value.bool f.nl, Value.int .i64 f.k, Value.int .i64 f.wd, Value.int .i64 f.id, Value.int .i64 f.ix, Value.slice p f.kids.length cap] 28) := ⟨_, rfl⟩
  have hBW : Below w.heap.size w W := by rw [hW]; exact (Below.refl _ w).alloc (Nat.le_refl _) _
  have a1 : BoxN W w.heap.size 28 [.string f.nm, .bool f.nl, .int .i64 f.k, .int .i64 f.wd, .int .i64 f.id, .int .i64 f.ix, .slice p f.kids.length cap] := by rw [hW]; exact A1.out
  rw [← hW]
  clear hW A1
  refine (type_calls op hop (HF.out.below hBW) (HS.out.below hBW)).mono ?_
  rintro e W1 ⟨gp, gc, rfl, hg, hb1⟩
  have hr := HRR.out
  rw [← hr] at hg ⊢
  simp only at hg ⊢
  have hty : (typeF op f).2 = er := by rw [← hr]
  have hg1 : (typeF op f).1 = g := by rw [← hr]
  have HB1 := Lib.hid (hBW.trans (hb1.mono hBW.size))
  have B1 := Lib.hid (a1.below hb1 a1.lt)
  have HG := Lib.hid hg
  have HTY := Lib.hid hty
  have HG1 := Lib.hid hg1
  have hop' := hop
  unfold i64B at hop'
  clear hr hty hg1 hb1 hBW a1 hg
  by_cases hz : er = 0
  rotate_left
  · have hz1 : (er == 0) = false := by simpa using hz
    have hz2 : (er != 0) = true := by simpa using hz
    have HZ := Lib.hid hz
    clear hz
    go_wp2_with fail
    go_ret2
    exact ⟨⟨none, rfl, by simp [HZ.out]⟩, HB1.out.alloc HB1.out.size _⟩
  · subst hz
    obtain ⟨o1, o9, hmay⟩ := typeF_op HTY.out
    have hgm : mayB g = true := by rw [← HG1.out]; exact typeF_may HTY.out
    have hokf := okF_of_may hmay
    have hokg := okF_of_may hgm
    have HOKF := Lib.hid hokf
    have HOKG := Lib.hid hokg
    clear hmay hgm hokf hokg
    go_wp2_with fail
    have c2 := BoxN.new W1 28 [.string g.nm, .bool g.nl, .int .i64 g.k, .int .i64 g.wd, .int .i64 g.id, .int .i64 g.ix, .slice gp g.kids.length gc]
    obtain ⟨Y, hY⟩ : ∃ Y, Y = W1.alloc (.cells #[Value.string g.nm, Value.bool g.nl, Value.int .i64 g.k, Value.int .i64 g.wd, Value.int .i64 g.id, Value.int .i64 g.ix, Value.slice gp g.kids.length gc] 28) := ⟨_, rfl⟩
    have c2 : BoxN Y W1.heap.size 28 [.string g.nm, .bool g.nl, .int .i64 g.k, .int .i64 g.wd, .int .i64 g.id, .int .i64 g.ix, .slice gp g.kids.length gc] := by rw [hY]; exact c2
    have hBY : Below W1.heap.size W1 Y := by rw [hY]; exact (Below.refl _ W1).alloc (Nat.le_refl _) _
    have c1 := B1.out.below hBY B1.out.lt
    have hBYw : Below w.heap.size w Y := HB1.out.trans (hBY.mono HB1.out.size)
    rw [← hY]
    clear hY
    have C1 := Lib.hid c1
    have C2 := Lib.hid c2
    have HBY := Lib.hid (below_drew hBYw)
    have HFY := Lib.hid ((HF.out.below hBYw).below (w' := Y.drew) (below_drew (Below.refl _ Y)))
    have HGY := Lib.hid ((HG.out.below hBY).below (w' := Y.drew) (below_drew (Below.refl _ Y)))
    obtain ⟨gb, hgb⟩ : ∃ gb, gb = W1.heap.size := ⟨_, rfl⟩
    rw [← hgb] at C2
    have s0 : RowAt Y.drew w.heap.size [.string f.nm, .bool f.nl, .int .i64 f.k, .int .i64 f.wd, .int .i64 f.id, .int .i64 f.ix, .slice p f.kids.length cap] ∧ RowAt Y.drew gb [.string g.nm, .bool g.nl, .int .i64 g.k, .int .i64 g.wd, .int .i64 g.id, .int .i64 g.ix, .slice gp g.kids.length gc] := ⟨C1.out.row, C2.out.row⟩
    have HS0 := Lib.hid s0
    have hlf : w.heap.size < Y.drew.heap.size := c1.lt
    have hlg : gb < Y.drew.heap.size := by rw [hgb]; exact c2.lt
    rw [← hgb]
    clear c1 c2 hBY hBYw s0 hgb HG1 HTY
    refine Late.region (fun w' => RowAt w' w.heap.size [.string f.nm, .bool f.nl, .int .i64 f.k, .int .i64 f.wd, .int .i64 f.id, .int .i64 f.ix, .slice p f.kids.length cap] ∧ RowAt w' gb [.string g.nm, .bool g.nl, .int .i64 g.k, .int .i64 g.wd, .int .i64 g.id, .int .i64 g.ix, .slice gp g.kids.length gc]) (fun _ => false) (by kernel_rfl) ?_
    refine Late.take (i := 0) (v := ?_) rfl (by kernel_rfl) (by kernel_rfl) (by kernel_rfl) (by kernel_rfl) (fun _ _ _ h => h) (Or.inl ⟨by rfl, ?_⟩) HS0.out ?_
    rotate_left
    · intro w' hS
      obtain ⟨h1, h2⟩ := hS
      have s0 := h1 0 _ rfl
      have s1 := h1 1 _ rfl
      have s2 := h1 2 _ rfl
      have s3 := h1 3 _ rfl
      have s4 := h1 4 _ rfl
      have s5 := h1 5 _ rfl
      have s6 := h1 6 _ rfl
      have t0 := h2 0 _ rfl
      have t1 := h2 1 _ rfl
      have t2 := h2 2 _ rfl
      have t3 := h2 3 _ rfl
      have t4 := h2 4 _ rfl
      have t5 := h2 5 _ rfl
      have t6 := h2 6 _ rfl
      go_simp
      rfl
    refine Late.take (i := 1) (v := ?_) rfl (by kernel_rfl) (by kernel_rfl) (by kernel_rfl) (by kernel_rfl) (fun _ _ _ h => h) (Or.inl ⟨by rfl, ?_⟩) HS0.out ?_
    rotate_left
    · intro w' hS
      obtain ⟨h1, h2⟩ := hS
      have s0 := h1 0 _ rfl
      have s1 := h1 1 _ rfl
      have s2 := h1 2 _ rfl
      have s3 := h1 3 _ rfl
      have s4 := h1 4 _ rfl
      have s5 := h1 5 _ rfl
      have s6 := h1 6 _ rfl
      have t0 := h2 0 _ rfl
      have t1 := h2 1 _ rfl
      have t2 := h2 2 _ rfl
      have t3 := h2 3 _ rfl
      have t4 := h2 4 _ rfl
      have t5 := h2 5 _ rfl
      have t6 := h2 6 _ rfl
      go_simp
      rfl
    refine Late.take (i := 3) (v := ?_) rfl (by kernel_rfl) (by kernel_rfl) (by kernel_rfl) (by kernel_rfl) (fun _ _ _ h => h) (Or.inl ⟨by rfl, ?_⟩) HS0.out ?_
    rotate_left
    · intro w' hS
      obtain ⟨h1, h2⟩ := hS
      have s0 := h1 0 _ rfl
      have s1 := h1 1 _ rfl
      have s2 := h1 2 _ rfl
      have s3 := h1 3 _ rfl
      have s4 := h1 4 _ rfl
      have s5 := h1 5 _ rfl
      have s6 := h1 6 _ rfl
      have t0 := h2 0 _ rfl
      have t1 := h2 1 _ rfl
      have t2 := h2 2 _ rfl
      have t3 := h2 3 _ rfl
      have t4 := h2 4 _ rfl
      have t5 := h2 5 _ rfl
      have t6 := h2 6 _ rfl
      go_simp
      rfl
    refine Late.take (i := 4) (v := ?_) rfl (by kernel_rfl) (by kernel_rfl) (by kernel_rfl) (by kernel_rfl) (fun _ _ _ h => h) (Or.inl ⟨by rfl, ?_⟩) HS0.out ?_
    rotate_left
    · intro w' hS
      obtain ⟨h1, h2⟩ := hS
      have s0 := h1 0 _ rfl
      have s1 := h1 1 _ rfl
      have s2 := h1 2 _ rfl
      have s3 := h1 3 _ rfl
      have s4 := h1 4 _ rfl
      have s5 := h1 5 _ rfl
      have s6 := h1 6 _ rfl
      have t0 := h2 0 _ rfl
      have t1 := h2 1 _ rfl
      have t2 := h2 2 _ rfl
      have t3 := h2 3 _ rfl
      have t4 := h2 4 _ rfl
      have t5 := h2 5 _ rfl
      have t6 := h2 6 _ rfl
      go_simp
      rfl
    refine Late.take (i := 6) (v := ?_) rfl (by kernel_rfl) (by kernel_rfl) (by kernel_rfl) (by kernel_rfl) (fun _ _ _ h => h) (Or.inl ⟨by rfl, ?_⟩) HS0.out ?_
    rotate_left
    · intro w' hS
      obtain ⟨h1, h2⟩ := hS
      have s0 := h1 0 _ rfl
      have s1 := h1 1 _ rfl
      have s2 := h1 2 _ rfl
      have s3 := h1 3 _ rfl
      have s4 := h1 4 _ rfl
      have s5 := h1 5 _ rfl
      have s6 := h1 6 _ rfl
      have t0 := h2 0 _ rfl
      have t1 := h2 1 _ rfl
      have t2 := h2 2 _ rfl
      have t3 := h2 3 _ rfl
      have t4 := h2 4 _ rfl
      have t5 := h2 5 _ rfl
      have t6 := h2 6 _ rfl
      go_simp
      rfl
    refine Late.one (i := 2) (by kernel_rfl) rfl (fun K hK => ?_)
    go_simp
    refine (own_calls f HOKF.out Y.drew p cap HFY.out).mono ?_
    rintro e W2 ⟨p2, q2, rfl, -, hb2⟩
    have hs2 : RowAt W2 w.heap.size [.string f.nm, .bool f.nl, .int .i64 f.k, .int .i64 f.wd, .int .i64 f.id, .int .i64 f.ix, .slice p f.kids.length cap] ∧ RowAt W2 gb [.string g.nm, .bool g.nl, .int .i64 g.k, .int .i64 g.wd, .int .i64 g.id, .int .i64 g.ix, .slice gp g.kids.length gc] := ⟨HS0.out.1.below hb2, HS0.out.2.below hb2⟩
    refine hK _ _ (fun _ => hs2) ?_
    clear hK K
    have HB2 := Lib.hid (HBY.out.trans (hb2.mono HBY.out.size))
    have HF2 := Lib.hid (HFY.out.below hb2)
    have HG2 := Lib.hid (HGY.out.below hb2)
    have HS2 := Lib.hid hs2
    clear hb2 hs2
    refine Late.one (i := 5) (by kernel_rfl) rfl (fun K hK => ?_)
    go_simp
    refine (own_calls g HOKG.out W2 gp gc HG2.out).mono ?_
    rintro e W3 ⟨p3, q3, rfl, -, hb2⟩
    have hs2 : RowAt W3 w.heap.size [.string f.nm, .bool f.nl, .int .i64 f.k, .int .i64 f.wd, .int .i64 f.id, .int .i64 f.ix, .slice p f.kids.length cap] ∧ RowAt W3 gb [.string g.nm, .bool g.nl, .int .i64 g.k, .int .i64 g.wd, .int .i64 g.id, .int .i64 g.ix, .slice gp g.kids.length gc] := ⟨HS2.out.1.below hb2, HS2.out.2.below hb2⟩
    refine hK _ _ (fun _ => hs2) ?_
    clear hK K
    have HB3 := Lib.hid (HB2.out.trans (hb2.mono HB2.out.size))
    have HF3 := Lib.hid (HF2.out.below hb2)
    have HS3 := Lib.hid hs2
    clear hb2 hs2
    refine Late.one (i := 7) (by kernel_rfl) rfl (fun K hK => ?_)
    go_simp
    refine (bare_calls f HOKF.out W3 p cap HF3.out).mono ?_
    rintro e W4 ⟨p4, q4, rfl, hfd4, hb2⟩
    obtain ⟨bf, hbf⟩ : ∃ bf, bf = bareF f := ⟨_, rfl⟩
    rw [← hbf] at hfd4 ⊢
    obtain ⟨_, _, _, _, _, hbk, _⟩ := hfd4.at.shape
    have hs2 : RowAt W4 w.heap.size [.string f.nm, .bool f.nl, .int .i64 f.k, .int .i64 f.wd, .int .i64 f.id, .int .i64 f.ix, .slice p f.kids.length cap] ∧ RowAt W4 gb [.string g.nm, .bool g.nl, .int .i64 g.k, .int .i64 g.wd, .int .i64 g.id, .int .i64 g.ix, .slice gp g.kids.length gc] := ⟨HS3.out.1.below hb2, HS3.out.2.below hb2⟩
    refine hK _ _ (fun _ => hs2) ?_
    clear hK K
    have HB4 := Lib.hid (HB3.out.trans (hb2.mono HB3.out.size))
    have HS4 := Lib.hid hs2
    clear hb2 hs2 hbf hfd4
    refine Late.one (i := 8) (by kernel_rfl) rfl (fun K hK => ?_)
    have hfa := field28 bf p4 q4 W4
    go_simp
    refine hK _ _ (fun _ => HS4.out) ?_
    clear hK K hfa
    refine Late.one (i := 9) (by kernel_rfl) rfl (fun K hK => ?_)
    have hfa := field26 bf p4 q4 W4
    go_simp
    refine hK _ _ (fun _ => HS4.out) ?_
    clear hK K hfa
    refine Late.one (i := 10) (by kernel_rfl) rfl (fun K hK => ?_)
    go_simp
    refine (made_calls op bf.k hbk o1 o9 g p3 q3 W4).mono ?_
    rintro e W5 ⟨⟨ty, ib, rfl⟩, hb2⟩
    have hs2 : RowAt W5 w.heap.size [.string f.nm, .bool f.nl, .int .i64 f.k, .int .i64 f.wd, .int .i64 f.id, .int .i64 f.ix, .slice p f.kids.length cap] ∧ RowAt W5 gb [.string g.nm, .bool g.nl, .int .i64 g.k, .int .i64 g.wd, .int .i64 g.id, .int .i64 g.ix, .slice gp g.kids.length gc] := ⟨HS4.out.1.below hb2, HS4.out.2.below hb2⟩
    refine hK _ _ (fun _ => hs2) ?_
    clear hK K
    have HB5 := Lib.hid (HB4.out.trans (hb2.mono HB4.out.size))
    have HS5 := Lib.hid hs2
    clear hb2 hs2
    refine Late.one (i := 11) (by kernel_rfl) rfl (fun K hK => ?_)
    go_simp
    refine hK _ _ (fun _ => HS5.out) ?_
    clear hK K
    refine Late.one (i := 12) (by kernel_rfl) rfl (fun K hK => ?_)
    go_simp
    have hb6 : Below W5.heap.size W5 (W5.alloc (.cells #[Value.int .i64 op, Value.string f.nm, Value.bool f.nl, Value.int .i64 f.k, Value.int .i64 f.wd, Value.int .i64 f.id, Value.int .i64 f.ix, Value.slice p2 f.kids.length q2, Value.iface ty (Value.pointer (some ⟨ib, 0, none⟩))] 57)) := (Below.refl _ W5).alloc (Nat.le_refl _) _
    have hs6 := And.intro (HS5.out.1.below hb6) (HS5.out.2.below hb6)
    have HB6 := Lib.hid (HB5.out.trans (hb6.mono HB5.out.size))
    have HS6 := Lib.hid hs6
    clear hb6 hs6
    refine hK _ _ (fun _ => HS6.out) ?_
    clear hK K
    refine Late.one (i := 13) (by kernel_rfl) rfl (fun K hK => ?_)
    go_simp
    refine hK _ _ (fun _ => HS6.out) ?_
    clear hK K
    refine Late.one (i := 14) (by kernel_rfl) rfl (fun K hK => ?_)
    go_simp
    refine hK _ _ (fun _ => HS6.out) ?_
    clear hK K
    refine Late.done (by kernel_rfl) ?_ _
    go_wp2_with fail
    go_ret2
    exact ⟨⟨some ⟨W5.heap.size, 0, none⟩, rfl, by simp⟩, HB6.out⟩

end Go.Fld
