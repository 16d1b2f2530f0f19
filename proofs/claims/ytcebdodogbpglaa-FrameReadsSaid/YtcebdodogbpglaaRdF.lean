import Derived.Test.YtcebdodogbpglaaRdD
import Derived.Test.YtcebdodogbpglaaRdE
import Derived.Test.YtcebdodogbpglaaLateB
set_option linter.unusedVariables false
set_option maxRecDepth 100000
/-! THE SCAN IS WALKED. -/
namespace Go.Proofs.Ytcebdodogbpglaa.Rdr
open Go.ChangeShapes Go.WideShapes Go.ChangeAt Go.RowKit Mem Put

def pairs (N : List Msg) : List (List UInt8 × List UInt8) := N.map fun m => (m.ms, m.bd)
def Coloured (L : Nat → Nat) (w : World) (k0 : Nat) (N : List Msg) : Prop := ∀ i (h : i < N.length), MsgAt L w N[i] ∧ N[i].cm = k0 + 2 * i ∧ N[i].cb = k0 + 2 * i + 1
theorem Coloured.step {L L' : Nat → Nat} {w w' : World} {k0 : Nat} {N : List Msg} {C : Nat → Prop} (h : Coloured L w k0 N) (st : Step C L w L' w') (hC : ∀ d, C d → d < k0 ∨ k0 + 2 * N.length ≤ d) : Coloured L' w' k0 N := fun i hi => by
  obtain ⟨h1, h2, h3⟩ := h i hi
  exact ⟨h1.step st (fun hc => by have := hC _ hc; omega) (fun hc => by have := hC _ hc; omega), h2, h3⟩

/-- What holds at the head of the scan's loop. -/
structure Scanning (L : Nat → Nat) (c : Nat) (w : World) (rb lm lb told : Nat) (Q : List Msg) (B : List UInt8) (held : Int) (en shut : Bool) (k0 : Nat) (L1 : Nat → Nat) (w1 : World) (rest : List UInt8) (N : List Msg) (en1 : Bool) (v : Value) : Prop where
  step : Step (Rc c) L w L1 w1
  rdr : RdrAt L1 c w1 rb lm lb told (Q ++ N) B held 0 en1 shut
  suf : rest = B.drop (B.length - rest.length) ∧ rest.length ≤ B.length
  spec : scanF lm lb en B = pre (pairs N) (scanF lm lb en1 rest)
  msgs : Coloured L1 w1 k0 N
  few : 24 * N.length + rest.length ≤ B.length
  read : Rd L1 (c + 2) w1 1 v rest.length (rest.map byt)

def lenOf (v : Value) : Nat := match v with | .slice _ n _ => n | _ => 0

/-- What holds behind the scan's loop. -/
structure Scanned (L : Nat → Nat) (c : Nat) (w : World) (rb lm lb told : Nat) (Q : List Msg) (B : List UInt8) (held : Int) (en shut : Bool) (k0 : Nat) (L1 : Nat → Nat) (w1 : World) (rest : List UInt8) (N : List Msg) (W : Int) (en1 : Bool) (v : Value) : Prop where
  step : Step (Rc c) L w L1 w1
  rdr : RdrAt L1 c w1 rb lm lb told (Q ++ N) B held W en1 shut
  suf : rest = B.drop (B.length - rest.length) ∧ rest.length ≤ B.length
  spec : scanF lm lb en B = ⟨pairs N, if W = 0 then rest else [], W, en1⟩
  msgs : Coloured L1 w1 k0 N
  pos : W ≠ 0 → 0 < B.length
  read : Rd L1 (c + 2) w1 1 v rest.length (rest.map byt)

section
variable {L L1 : Nat → Nat} {c : Nat} {w w1 : World} {rb lm lb told : Nat} {Q : List Msg} {B : List UInt8} {held : Int} {en shut : Bool} {k0 : Nat} {rest : List UInt8} {N : List Msg} {en1 : Bool} {v : Value}
theorem Scanning.keep {L2 : Nat → Nat} {w2 : World} {C : Nat → Prop} (h : Scanning L c w rb lm lb told Q B held en shut k0 L1 w1 rest N en1 v) (st : Step C L1 w1 L2 w2) (hC : ∀ d, ¬ C d) : Scanning L c w rb lm lb told Q B held en shut k0 L2 w2 rest N en1 v :=
  ⟨h.step.trans (st.mono fun d hd => (hC d hd).elim), h.rdr.step st (fun d hd => (hC d hd).elim), h.suf, h.spec, h.msgs.step st (fun d hd => (hC d hd).elim), h.few, h.read.step st (hC _)⟩
theorem Scanning.cells (h : Scanning L c w rb lm lb told Q B held en shut k0 L1 w1 rest N en1 v) : w1.cell? ⟨rb, 0, none⟩ = some (.int .i64 lm) ∧ w1.cell? ⟨rb, 1, none⟩ = some (.int .i64 lb) ∧ w1.cell? ⟨rb, 6, none⟩ = some (.int .i64 0) ∧ w1.cell? ⟨rb, 7, none⟩ = some (.bool en1) ∧ ∀ j, w1.frozen? ⟨rb, j, none⟩ = false := by
  obtain ⟨vq, vb, h0, h1, h2, h3⟩ := h.rdr
  exact ⟨by rw [cell_of_heap h0]; rfl, by rw [cell_of_heap h0]; rfl, by rw [cell_of_heap h0]; rfl, by rw [cell_of_heap h0]; rfl, fun j => frozen_of_heap h0⟩
theorem Scanning.stop (hk0 : c + 3 ≤ k0) (h : Scanning L c w rb lm lb told Q B held en shut k0 L1 w1 rest N en1 v) (W : Int) (hW : W ≠ 0) (hr : rest ≠ []) (hs : scanF lm lb en1 rest = ⟨[], [], W, en1⟩) :
    Scanned L c w rb lm lb told Q B held en shut k0 L1 (w1.setCell ⟨rb, 6, none⟩ (.int .i64 W)) rest N W en1 v := by
  obtain ⟨vq, vb, h0, h1, h2, h3⟩ := h.rdr
  obtain ⟨s1, f0⟩ := Step.store (j := 6) (v := .int .i64 W) h0 h1
  refine ⟨h.step.trans (s1.mono (by rintro _ rfl; unfold Rc; omega)), ⟨vq, vb, f0, h1, h2.step s1 (by omega), h3.step s1 (by omega)⟩, h.suf, ?_, h.msgs.step s1 (by rintro _ rfl; omega), fun _ => ?_, h.read.step s1 (by omega)⟩
  · rw [h.spec, hs, if_neg hW]; simp [pre]
  · have := h.suf.2
    have : 0 < rest.length := List.length_pos_iff.2 hr
    omega
theorem Scanning.rests (h : Scanning L c w rb lm lb told Q B held en shut k0 L1 w1 rest N en1 v) (hs : scanF lm lb en1 rest = ⟨[], rest, 0, en1⟩) :
    Scanned L c w rb lm lb told Q B held en shut k0 L1 w1 rest N 0 en1 v :=
  ⟨h.step, h.rdr, h.suf, by rw [h.spec, hs, if_pos rfl]; simp [pre], h.msgs, fun x => absurd rfl x, h.read⟩
theorem drop_suf {n : Nat} (hs : rest = B.drop (B.length - rest.length) ∧ rest.length ≤ B.length) (hn : n ≤ rest.length) : rest.drop n = B.drop (B.length - (rest.drop n).length) ∧ (rest.drop n).length ≤ B.length := by
  refine ⟨?_, by simp; omega⟩
  obtain ⟨h1, h2⟩ := hs
  generalize hk : rest.length = k at *
  rw [h1, List.drop_drop]
  congr 1
  simp; omega
theorem Scanning.ends (hk0 : c + 3 ≤ k0) (h : Scanning L c w rb lm lb told Q B held en shut k0 L1 w1 rest N false v) {n : Nat} (hn : n ≤ rest.length) (hs : scanF lm lb false rest = scanF lm lb true (rest.drop n)) {v' : Value} (hv : Rd L1 (c + 2) w1 1 v' (rest.drop n).length ((rest.drop n).map byt)) :
    Scanning L c w rb lm lb told Q B held en shut k0 L1 (w1.setCell ⟨rb, 7, none⟩ (.bool true)) (rest.drop n) N true v' := by
  obtain ⟨vq, vb, h0, h1, h2, h3⟩ := h.rdr
  obtain ⟨s1, f0⟩ := Step.store (j := 7) (v := .bool true) h0 h1
  refine ⟨h.step.trans (s1.mono (by rintro _ rfl; unfold Rc; omega)), ⟨vq, vb, f0, h1, h2.step s1 (by omega), h3.step s1 (by omega)⟩, drop_suf h.suf hn, by rw [h.spec, hs], h.msgs.step s1 (by rintro _ rfl; omega), ?_, hv.step s1 (by omega)⟩
  have := h.few; simp; omega
end

/-- What the scan leaves. -/
def ScanPost (L : Nat → Nat) (c : Nat) (w : World) (rb lm lb told : Nat) (Q : List Msg) (B : List UInt8) (held : Int) (en shut : Bool) (k0 : Nat) (w' : World) : Prop :=
  ∃ L' N, Step (Rc c) L w L' w' ∧ RdrAt L' c w' rb lm lb told (Q ++ N) (scanF lm lb en B).t held (scanF lm lb en B).w (scanF lm lb en B).e shut ∧ pairs N = (scanF lm lb en B).q ∧ Coloured L' w' k0 N
section
variable {L L1 : Nat → Nat} {c : Nat} {w w1 : World} {rb lm lb told : Nat} {Q : List Msg} {B : List UInt8} {held : Int} {en shut : Bool} {k0 : Nat} {rest : List UInt8} {N : List Msg} {en1 : Bool} {v : Value} {W : Int}
theorem Scanned.cells (h : Scanned L c w rb lm lb told Q B held en shut k0 L1 w1 rest N W en1 v) : w1.cell? ⟨rb, 6, none⟩ = some (.int .i64 W) ∧ (∃ p cap, B.length ≤ cap ∧ cap ≤ 9223372036854775807 ∧ w1.cell? ⟨rb, 4, none⟩ = some (.slice p B.length cap)) := by
  obtain ⟨vq, vb, h0, h1, h2, h3⟩ := h.rdr
  obtain ⟨pb, cb, hvb, hb1, hb2, _⟩ := ownsRow_shape h3.1
  subst hvb
  exact ⟨by rw [cell_of_heap h0]; rfl, pb, cb, hb1, hb2, by rw [cell_of_heap h0]; rfl⟩
theorem Scanned.same (h : Scanned L c w rb lm lb told Q B held en shut k0 L1 w1 rest N 0 en1 v) (hl : ¬ rest.length < B.length) : ScanPost L c w rb lm lb told Q B held en shut k0 w1 := by
  have hs := h.spec
  rw [if_pos rfl] at hs
  have hB : rest = B := by
    have := h.suf
    rw [show B.length - rest.length = 0 from by omega, List.drop_zero] at this
    exact this.1
  refine ⟨L1, N, h.step, ?_, by rw [hs], h.msgs⟩
  rw [hs, hB]
  exact h.rdr
theorem Scanned.cloned (hk0 : c + 3 ≤ k0) (h : Scanned L c w rb lm lb told Q B held en shut k0 L1 w1 rest N W en1 v) {L2 : Nat → Nat} {w2 : World} (st : Step (fun _ => False) L1 w1 L2 w2) {v' : Value} {t : List UInt8} (ht : t = if W = 0 then rest else []) (ho : Own L2 (c + 2) w2 5 1 v' t.length (t.map byt)) :
    w2.frozen? ⟨rb, 4, none⟩ = false ∧ (∃ x, w2.cell? ⟨rb, 4, none⟩ = some x) ∧ ScanPost L c w rb lm lb told Q B held en shut k0 (w2.setCell ⟨rb, 4, none⟩ v') := by
  have hs := h.spec
  rw [← ht] at hs
  obtain ⟨vq, vb, h0, h1, h2, h3⟩ := h.rdr.step st (fun _ x => x.elim)
  obtain ⟨s1, f0⟩ := Step.store (j := 4) (v := v') h0 h1
  refine ⟨frozen_of_heap h0, ⟨_, by rw [cell_of_heap h0]; rfl⟩, L2, N, (h.step.trans (st.mono fun _ x => x.elim)).trans (s1.mono (by rintro _ rfl; unfold Rc; omega)), ⟨vq, v', ?_, h1, h2.step s1 (by omega), ?_⟩, by rw [hs], (h.msgs.step st (fun _ x => x.elim)).step s1 (by rintro _ rfl; omega)⟩
  · rw [hs]; exact f0
  · rw [hs]; exact ho.step s1 (by omega)
end

section
variable {L L1 : Nat → Nat} {c : Nat} {w w1 : World} {rb lm lb told : Nat} {Q : List Msg} {B : List UInt8} {held : Int} {en shut : Bool} {k0 : Nat} {rest : List UInt8} {N : List Msg} {v : Value}
/-- A message more in the queue. -/
theorem Scanning.more (hk0 : c + 3 ≤ k0) (h : Scanning L c w rb lm lb told Q B held en shut k0 L1 w1 rest N false v) {n : Nat} (hn : n ≤ rest.length) (h24 : 24 ≤ n) (m : Msg) (hm : MsgAt L1 w1 m) (hc : m.cm = k0 + 2 * N.length ∧ m.cb = k0 + 2 * N.length + 1)
    (hs : scanF lm lb false rest = pre [(m.ms, m.bd)] (scanF lm lb false (rest.drop n))) {v' : Value} (hv : Rd L1 (c + 2) w1 1 v' (rest.drop n).length ((rest.drop n).map byt))
    {vq : Value} (hq : w1.cell? ⟨rb, 2, none⟩ = some vq) {wA w2 : World} {v2 : Value} (hb : Below w1.heap.size w1 wA) (hown : w2.ownsRow 0 75 3 v2 (told + (Q ++ N).length + 1) ((zs told ++ ((Q ++ N).map Msg.cells).flatten) ++ m.cells)) (hg : wA.grownBy w2 vq.ownBlock) (hblk : v2.ownBlock = vq.ownBlock ∨ v2.ownBlock = some wA.heap.size) :
    w2.cell? ⟨rb, 2, none⟩ = some vq ∧ w2.frozen? ⟨rb, 2, none⟩ = false ∧ ∃ L3, Scanning L c w rb lm lb told Q B held en shut k0 L3 (w2.setCell ⟨rb, 2, none⟩ v2) (rest.drop n) (N ++ [m]) false v' := by
  obtain ⟨vq', vb, h0, h1, h2, h3⟩ := h.rdr
  have hvq : vq' = vq := by rw [cell_of_heap h0] at hq; exact Option.some.inj hq
  subst hvq
  obtain ⟨L3, S3, o3, s3⟩ := Own.grown (C := Rc c) (Step.refl _ L1 w1) (by unfold Rc; omega) h2 hb hown hg hblk
  have g0 := s3.heap h0 (by rw [h1]; omega)
  have g1 : L3 rb = c := (s3.col rb (lt_of_heap h0)).trans h1
  obtain ⟨s4, f0⟩ := Step.store (j := 2) (v := v2) g0 g1
  have S4 := S3.trans (s4.mono (D := Rc c) (by rintro _ rfl; unfold Rc; omega))
  have hR : ∀ d, Rc c d → d < k0 := fun d hd => by unfold Rc at hd; omega
  refine ⟨by rw [cell_of_heap g0]; rfl, frozen_of_heap g0, L3, h.step.trans S4, ⟨v2, vb, f0, g1, ?_, (h3.step s3 (by omega)).step s4 (by omega)⟩, drop_suf h.suf hn, ?_, ?_, ?_, (hv.step s3 (by omega)).step s4 (by omega)⟩
  · have o4 := o3.step s4 (by omega)
    simpa [Nat.add_assoc] using o4
  · rw [h.spec, hs, pre_pre]; simp [pairs]
  · intro i hi
    by_cases e : i < N.length
    · rw [List.getElem_append_left e]
      obtain ⟨a1, a2, a3⟩ := h.msgs i e
      exact ⟨a1.step S4 (fun hd => by have := hR _ hd; omega) (fun hd => by have := hR _ hd; omega), a2, a3⟩
    · have : i = N.length := by simp at hi; omega
      subst this
      simp only [List.getElem_append_right (Nat.le_refl _), Nat.sub_self, List.getElem_cons_zero]
      exact ⟨hm.step S4 (fun hd => by have := hR _ hd; omega) (fun hd => by have := hR _ hd; omega), hc.1, hc.2⟩
  · have := h.few; simp; omega
end

theorem look_ok {b : List UInt8} {lm lb : Nat} (hE : lookE b lm lb = 0) (hN : ¬ (lookN b lm lb = 0 ∨ b.length < lookN b lm lb)) : markB b = true ∧ 16 ≤ b.length ∧ lookN b lm lb = sizeV b ∧ n4 b 4 ≤ lm ∧ n4 b 8 ≤ lb := by
  have h16 : 16 ≤ b.length := by
    rcases Nat.lt_or_ge b.length 16 with h | h
    · exfalso; apply hN; left; rw [lookN, if_neg (by omega)]
    · exact h
  have hM : markB b = true := by
    cases h : markB b with
    | true => rfl
    | false => rw [lookE, if_pos h] at hE; cases hE
  refine ⟨hM, h16, by rw [lookN, if_pos ⟨hE, h16⟩], ?_⟩
  rw [lookE, if_neg (by rw [hM]; simp), if_neg (by omega)] at hE
  split at hE
  · cases hE
  · split at hE
    · cases hE
    · rename_i h; omega

/-- The end of what is read. -/
theorem Rd.dropz {L : Nat → Nat} {c : Nat} {w : World} {b off n cap : Nat} {bs : List UInt8} (h : Rd L c w 1 (.slice (some ⟨b, off, none⟩) n cap) n (bs.map byt)) {m : Nat} (hm : m ≤ n) :
    Rd L c w 1 (.slice (if cap = m then some ⟨b, off, none⟩ else some ⟨b, off + m, none⟩) (n - m) (cap - m)) (bs.drop m).length ((bs.drop m).map byt) := by
  obtain ⟨h1, q', cap', hv, hn, hmx, hc⟩ := h
  cases hv
  have hbl : bs.length = n := by simpa using h1
  have hl : (bs.drop m).length = n - m := by simp [hbl]
  rw [hl]
  refine ⟨by simp; omega, _, _, rfl, by omega, by omega, fun j u hj => ?_⟩
  have hjm : j < n - m := by
    have := (List.getElem?_eq_some_iff.1 hj).1
    simp at this; omega
  obtain ⟨b', off', e, hL, hcell⟩ := hc (m + j) u (by
    rw [← hj]
    simp only [List.getElem?_map, List.getElem?_drop])
  cases e
  rw [if_neg (by omega)]
  exact ⟨b, off + m, rfl, hL, by rw [Nat.add_assoc]; exact hcell⟩

theorem Rd.subz {L : Nat → Nat} {c : Nat} {w : World} {b off n cap : Nat} {bs : List UInt8} (h : Rd L c w 1 (.slice (some ⟨b, off, none⟩) n cap) n (bs.map byt)) {a m : Nat} (hm : a + m ≤ n) :
    Rd L c w 1 (.slice (if cap = a then some ⟨b, off, none⟩ else some ⟨b, off + a, none⟩) m (cap - a)) (seg bs a m).length ((seg bs a m).map byt) := by
  have hbl : bs.length = n := by simpa using h.1
  have hl : (seg bs a m).length = m := by simp [seg]; omega
  obtain ⟨_, _, hv, hn, hmx⟩ := h.shape
  cases hv
  rw [hl]
  by_cases e : cap = a
  · rw [if_pos e]
    have hm0 : m = 0 := by omega
    subst hm0
    have := Rd.sub h (a := 0) (m := 0) (by omega) (cap - a) (by omega) (by omega)
    simpa [seg] using this
  · rw [if_neg e]
    exact Rd.sub h hm (cap - a) (by omega) (by omega)

set_option maxHeartbeats 4000000 in
theorem scan_calls {L : Nat → Nat} {c : Nat} {w : World} {rb lm lb told : Nat} {Q : List Msg} {B : List UInt8} {held : Int} {en shut : Bool} (k0 : Nat) (hk0 : c + 3 ≤ k0) (h : RdrAt L c w rb lm lb told Q B held 0 en shut) (hlm : lm ≤ 65536) (hlb : lb ≤ 4194304)
    (hB : B.length ≤ 10000000000) (hQ : told + Q.length ≤ 100000000000) :
    Calls Try.prog 39 #[.pointer (some ⟨rb, 0, none⟩)] w fun e w' => e = .returned (.tuple #[]) ∧ ScanPost L c w rb lm lb told Q B held en shut k0 w' := by
  obtain ⟨vq, vb, h0, h1, h2, h3⟩ := h
  obtain ⟨pb, cb, hvb, hb1, hb2, _⟩ := ownsRow_shape h3.1
  subst hvb
  have c4 : w.cell? ⟨rb, 4, none⟩ = some (.slice pb B.length cb) := by rw [cell_of_heap h0]; rfl
  have hS0 : Scanning L c w rb lm lb told Q B held en shut k0 L w B [] en (.slice pb B.length cb) :=
    ⟨Step.refl _ _ _, by rw [List.append_nil]; exact ⟨vq, _, h0, h1, h2, h3⟩, ⟨by simp, Nat.le_refl _⟩, by rw [pairs, List.map_nil, pre_nil], fun i hi => absurd hi (by simp), by simp, h3.rd⟩
  clear h0 h1 h2 h3
  go_enter Try.func39, Try.ntmps39
  go_wp2_with fail
  go_step3
  go_wp2_with fail
  go_step3
  go_wp2_with fail
  go_loopw [2] (fun v wr => ∃ (rest : List UInt8) (N : List Msg) (en1 : Bool) (L1 : Nat → Nat), lenOf v = rest.length ∧ Scanning L c w rb lm lb told Q B held en shut k0 L1 wr rest N en1 v) (fun v _ => lenOf v)
  case atStart => exact ⟨B, [], en, L, rfl, hS0⟩
  case round =>
    clear hS0 c4
    obtain ⟨rest, N, en1, L1, hlen, hS⟩ := hrel
    obtain ⟨q, cap, hv, hcap, hcap2⟩ := hS.read.shape
    subst hv
    unfold maxLen at hcap2
    clear hlen
    by_cases hr0 : rest.length = 0
    · have hT := hS.rests (by rw [List.eq_nil_of_length_eq_zero hr0]; exact scan_nil _)
      have hr1 : ¬ (0 : Int) < rest.length := by omega
      clear hS hr0
      obtain ⟨c6, pb2, cb2, hc1, hc2, c4⟩ := hT.cells
      have hsl := hT.suf.2
      by_cases hl : rest.length < B.length
      · go_wp2_with fail
        refine (Ink.clone_calls _ (c + 2) (c + 2) _ _ rest hT.read (by omega)).mono ?_; rintro e w8 ⟨v8, rfl, s8, o8⟩
        obtain ⟨p8, k8, hv8, _⟩ := ownsRow_shape o8.1
        subst hv8
        obtain ⟨d4, ⟨x4, e4⟩, hP⟩ := hT.cloned hk0 s8 (by rw [if_pos rfl]) o8
        clear hT c4 s8 o8
        go_wp2_with fail
        try rw [Exit.noGoto_normal]
        refine bodyPost_end (v := .tuple #[]) ?_ rfl ⟨rfl, hP⟩
        simp [results, Try.results39, go_sem]
      · have hP := hT.same hl
        clear hT
        go_wp2_with fail
        try rw [Exit.noGoto_normal]
        refine bodyPost_end (v := .tuple #[]) ?_ rfl ⟨rfl, hP⟩
        simp [results, Try.results39, go_sem]
    · have hne : rest ≠ [] := fun h => hr0 (by rw [h]; rfl)
      obtain ⟨c0, c1, c6, c7, hfz⟩ := hS.cells
      have hpos : (0 : Int) < rest.length := by omega
      cases en1 with
      | true =>
        have hT := Scanning.stop hk0 hS 74 (by decide) hne (scan_tail hne)
        have d6 := hfz 6
        clear hfz hS c0 c1 hr0
        obtain ⟨c6n, pb2, cb2, hc1, hc2, c4⟩ := hT.cells
        have hpos2 := hT.pos (by decide)
        go_wp2_with fail
        refine (Ink.clone_calls L1 (c + 2) (c + 2) _ _ [] (Own.nil L1 (c + 2) _ 5 1).rd (by simp)).mono ?_; rintro e w8 ⟨v8, rfl, s8, o8⟩
        obtain ⟨p8, k8, hv8, _⟩ := ownsRow_shape o8.1
        subst hv8
        obtain ⟨d4, ⟨x4, e4⟩, hP⟩ := hT.cloned hk0 s8 (by rw [if_neg (by decide)]) o8
        clear hT c4 s8 o8
        go_wp2_with fail
        try rw [Exit.noGoto_normal]
        refine bodyPost_end (v := .tuple #[]) ?_ rfl ⟨rfl, hP⟩
        simp [results, Try.results39, go_sem]
      | false =>
        obtain ⟨e0, he0⟩ : ∃ x, x = lookE rest lm lb := ⟨_, rfl⟩
        obtain ⟨n0, hn0⟩ : ∃ x, x = lookN rest lm lb := ⟨_, rfl⟩
        have HE0 := Lib.hid he0
        have HN0 := Lib.hid hn0
        clear he0 hn0 c6
        go_wp2_with fail
        refine (look_calls hlm hlb c0 c1 hS.read).mono ?_; rintro e w2 ⟨rfl, b2⟩
        rw [← HE0.out, ← HN0.out]
        have hS2 := hS.keep (Step.of_below b2 (fun _ => False) 0) (fun _ x => x)
        obtain ⟨c0', c1', c6, c7', hfz'⟩ := hS2.cells
        clear hS hfz c0 c1 c7 b2 c0' c1'
        generalize ext L1 wr.heap.size 0 = L2 at *
        by_cases hE : e0 = 0
        · have hE1 : lookE rest lm lb = 0 := HE0.out.symm.trans hE
          have HE1 := Lib.hid hE1
          have z0 : (e0 != 0) = false := by simpa using hE
          clear hE hE1
          by_cases hN : n0 = 0 ∨ rest.length < n0
          · have hT := hS2.rests (scan_wait hne HE1.out (by rw [← HN0.out]; exact hN))
            clear hS2 hfz' c7' c6
            rcases Nat.eq_zero_or_pos n0 with hz | hz
            · have z1 : ((n0 : Int) == 0) = true := by simp; omega
              have z2 : (n0 : Int) = 0 := by omega
              clear hN hz
              have Hz := Lib.hid z2
              clear z2
              obtain ⟨c6, pb2, cb2, hc1, hc2, c4⟩ := hT.cells
              have hsl := hT.suf.2
              by_cases hl : rest.length < B.length
              · go_wp2_with fail
                refine (Ink.clone_calls _ (c + 2) (c + 2) _ _ rest hT.read (by omega)).mono ?_; rintro e w8 ⟨v8, rfl, s8, o8⟩
                obtain ⟨p8, k8, hv8, _⟩ := ownsRow_shape o8.1
                subst hv8
                obtain ⟨d4, ⟨x4, e4⟩, hP⟩ := hT.cloned hk0 s8 (by rw [if_pos rfl]) o8
                clear hT c4 s8 o8
                go_wp2_with fail
                try rw [Exit.noGoto_normal]
                refine bodyPost_end (v := .tuple #[]) ?_ rfl ⟨rfl, hP⟩
                simp [results, Try.results39, go_sem]
              · have hP := hT.same hl
                clear hT
                go_wp2_with fail
                try rw [Exit.noGoto_normal]
                refine bodyPost_end (v := .tuple #[]) ?_ rfl ⟨rfl, hP⟩
                simp [results, Try.results39, go_sem]
            · have z1 : ((n0 : Int) == 0) = false := by simp; omega
              have z2 : decide ((rest.length : Int) < n0) = true := by simp; omega
              have z3 : (rest.length : Int) < n0 := by omega
              clear hN
              obtain ⟨c6, pb2, cb2, hc1, hc2, c4⟩ := hT.cells
              have hsl := hT.suf.2
              by_cases hl : rest.length < B.length
              · go_wp2_with fail
                refine (Ink.clone_calls _ (c + 2) (c + 2) _ _ rest hT.read (by omega)).mono ?_; rintro e w8 ⟨v8, rfl, s8, o8⟩
                obtain ⟨p8, k8, hv8, _⟩ := ownsRow_shape o8.1
                subst hv8
                obtain ⟨d4, ⟨x4, e4⟩, hP⟩ := hT.cloned hk0 s8 (by rw [if_pos rfl]) o8
                clear hT c4 s8 o8
                go_wp2_with fail
                try rw [Exit.noGoto_normal]
                refine bodyPost_end (v := .tuple #[]) ?_ rfl ⟨rfl, hP⟩
                simp [results, Try.results39, go_sem]
              · have hP := hT.same hl
                clear hT
                go_wp2_with fail
                try rw [Exit.noGoto_normal]
                refine bodyPost_end (v := .tuple #[]) ?_ rfl ⟨rfl, hP⟩
                simp [results, Try.results39, go_sem]
          · obtain ⟨hmk, h16, hsz, hm4, hn8⟩ := look_ok HE1.out (by rw [← HN0.out]; exact hN)
            have HMK := Lib.hid hmk
            have HSZ := Lib.hid hsz
            obtain ⟨b, off, hq, _, _⟩ := hS2.read.at (show 0 < rest.length by omega)
            subst hq
            have hn24 : 24 ≤ n0 := by rw [HN0.out, hsz]; exact sizeV_pos _
            have hnl : n0 ≤ rest.length := by omega
            obtain ⟨S, hSS⟩ : ∃ S : ByteArray, S = ⟨(seg rest 0 4).toArray⟩ := ⟨_, rfl⟩
            have hcv : (convert 23 9 (.slice (some ⟨b, off, none⟩) 4 cap)).run Try.prog w2 = .ok (.string S) w2 := by
              have hl : (seg rest 0 4).length = 4 := by simp [seg]; omega
              have h4 := Rd.sub hS2.read (a := 0) (m := 4) (by omega) cap (by omega) (by unfold maxLen; omega)
              rw [Nat.add_zero] at h4
              have h5 : Rd L2 (c + 2) w2 1 (.slice (some ⟨b, off, none⟩) (seg rest 0 4).length cap) (seg rest 0 4).length ((seg rest 0 4).map byt) := by rw [hl]; exact h4
              have := run_toString (P := Try.prog) h5 (src := 23) (e := 5) (dst := 9) Try.underlying23 Try.underlying5 Try.underlying9
              rw [hl] at this
              rw [hSS]; exact this
            obtain ⟨EB, hEB⟩ : ∃ e : Bool, e = (S.toList == [67, 79, 76, 48]) := ⟨_, rfl⟩
            have hEBd : EB = decide (rest[3]? = some 48) := by rw [hEB, hSS]; exact eb_is h16 hmk
            have heb := hEB.symm
            have HEBd := Lib.hid hEBd
            have z1 : ((n0 : Int) == 0) = false := by simp; omega
            have z2 : decide ((rest.length : Int) < n0) = false := by simp; omega
            have k4 : (4 : Int) ≤ (cap : Int) := by omega
            have d7 := hfz' 7
            clear hmk hsz hSS hEB hEBd hfz'
            cases EB with
            | true =>
              have h3 : rest[3]? = some 48 := of_decide_eq_true HEBd.out.symm
              have hT := hS2.ends hk0 hnl (by rw [HN0.out]; exact scan_end hne HE1.out (by rw [← HN0.out]; exact hN) h3) (Rd.dropz hS2.read hnl)
              have hlen : (rest.drop n0).length = rest.length - n0 := by simp
              have HLEN := Lib.hid hlen
              clear hN h3 hS2 hlen
              go_wp2_with fail
              go_roundw
              case rel => exact ⟨_, N, true, L2, by simp [lenOf], hT⟩
              case measure => simp [lenOf]; omega
            | false =>
              have h3 : ¬ rest[3]? = some 48 := of_decide_eq_false HEBd.out.symm
              have H3 := Lib.hid h3
              have HNN := Lib.hid hN
              clear h3 hN
              go_wp2_with fail
              refine (fnumber_calls (Rd.sub hS2.read (a := 4) (m := 4) (by omega) (cap - 4) (by omega) (by unfold maxLen; omega))).mono ?_; rintro e w3 ⟨rfl, b3⟩
              have hS3 := hS2.keep (Step.of_below b3 (fun _ => False) 0) (fun _ x => x)
              clear hS2 b3 hcv heb c6 c7' d7
              generalize ext L2 w2.heap.size 0 = L3 at *
              obtain ⟨M, hM⟩ : ∃ x, x = n4 rest 4 := ⟨_, rfl⟩
              rw [show leV (seg rest 4 4) = M from hM.symm]
              have hMb : M ≤ 65536 := by omega
              have HMM := Lib.hid hM
              clear hM hm4
              go_wp2_with fail
              refine (padded_calls (M : Int) (by omega) (by omega) _).mono ?_; rintro e w6 ⟨rfl, rfl⟩
              rw [pad_int]
              obtain ⟨U, hU⟩ : ∃ U, U = padU M := ⟨_, rfl⟩
              have hUb : M ≤ U ∧ U < M + 8 := by rw [hU]; exact padU_ge _
              rw [← hU]
              have HU := Lib.hid hU
              clear hU
              obtain ⟨F, hF2⟩ : ∃ F, F = 24 + U := ⟨_, rfl⟩
              have HF := Lib.hid hF2
              have hFb : 24 + M ≤ F ∧ F ≤ 65568 := by omega
              clear hF2
              have k8 : (8 : Int) ≤ (cap : Int) := by omega
              have k12 : (12 : Int) ≤ (cap : Int) := by omega
              have y8 : ¬ cap = 8 := by omega
              go_wp2_with fail
              rw [show (24 : Int) + (U : Int) = (F : Int) from by have := HF.out; omega]
              refine (fnumber_calls (Rd.sub hS3.read (a := 8) (m := 4) (by omega) (cap - 8) (by omega) (by unfold maxLen; omega))).mono ?_; rintro e w4 ⟨rfl, b4⟩
              have hS4 := hS3.keep (Step.of_below b4 (fun _ => False) 0) (fun _ x => x)
              clear hS3 b4
              generalize ext L3 w3.heap.size 0 = L4 at *
              obtain ⟨K, hK⟩ : ∃ x, x = n4 rest 8 := ⟨_, rfl⟩
              rw [show leV (seg rest 8 4) = K from hK.symm]
              have hKb : K ≤ 4194304 := by omega
              have hsum : n0 = F + padU K := by rw [HN0.out, HSZ.out, sizeV, fromV, ← HMM.out, ← HU.out, ← HF.out, hK]
              have hKp := padU_ge K
              have hFK : F + K ≤ n0 := by omega
              have HKK := Lib.hid hK
              have HSUM := Lib.hid hsum
              clear hK hn8 hsum hKp
              go_wp2_with fail
              obtain ⟨vq2, vb2, q0, q1, q2, q3⟩ := hS4.rdr
              obtain ⟨pq, cq, hvq, _⟩ := ownsRow_shape q2.1
              subst hvq
              have e2 : w4.drew.cell? ⟨rb, 2, none⟩ = some (.slice pq (told + (Q ++ N).length) cq) := by
                show w4.cell? _ = _
                rw [cell_of_heap q0]; rfl
              obtain ⟨tq, htq⟩ : ∃ t, t = told + (Q ++ N).length := ⟨_, rfl⟩
              rw [← htq] at e2
              have htqb : tq ≤ 111000000000 := by have := hS4.few; rw [htq]; simp; omega
              have HTQ := Lib.hid htq
              clear q0 q1 q2 q3 htq
              obtain ⟨e1, he1⟩ : ∃ e, e = 24 + M := ⟨_, rfl⟩
              obtain ⟨e3, he3⟩ : ∃ e, e = F + K := ⟨_, rfl⟩
              have x0 : IntKind.i64.wrap (24 + (M : Int)) = (e1 : Int) := by rw [IntWalk.i64_in _ (by omega)]; omega
              have x9 : IntKind.i64.wrap ((F : Int) + (K : Int)) = (e3 : Int) := by rw [IntWalk.i64_in _ (by omega)]; omega
              have x1 : e1 ≤ cap := by omega
              have x2 : (24 : Int) ≤ (e1 : Int) := by omega
              have x3 : e3 ≤ cap := by omega
              have x4 : F ≤ e3 := by omega
              have x5 : e1 - 24 = M := by omega
              have x6 : e3 - F = K := by omega
              have x7 : 24 ≤ e1 := by omega
              have HE1e := Lib.hid he1
              have HE3e := Lib.hid he3
              clear he1 he3
              refine Late.region (fun w' => w'.cell? ⟨rb, 2, none⟩ = some (.slice pq tq cq)) (fun j => decide (23 < j)) (by kernel_rfl) ?_
              refine Late.take (i := 0) (v := ?_) rfl (by kernel_rfl) (by kernel_rfl) (by kernel_rfl) (by kernel_rfl) (fun _ _ _ h => h) (Or.inl ⟨by kernel_rfl, ?_⟩) e2 ?_
              rotate_left
              · intro w' hS
                go_simp
                rfl
              refine Late.take (i := 1) (v := ?_) rfl (by kernel_rfl) (by kernel_rfl) (by kernel_rfl) (by kernel_rfl) (fun _ _ _ h => h) (Or.inl ⟨by kernel_rfl, ?_⟩) e2 ?_
              rotate_left
              · intro w' hS
                go_simp
                rfl
              refine Late.take (i := 2) (v := ?_) rfl (by kernel_rfl) (by kernel_rfl) (by kernel_rfl) (by kernel_rfl) (fun _ _ _ h => h) (Or.inl ⟨by kernel_rfl, ?_⟩) e2 ?_
              rotate_left
              · intro w' hS
                go_simp
                rfl
              refine Late.take (i := 3) (v := ?_) rfl (by kernel_rfl) (by kernel_rfl) (by kernel_rfl) (by kernel_rfl) (fun _ _ _ h => h) (Or.inl ⟨by kernel_rfl, ?_⟩) e2 ?_
              rotate_left
              · intro w' hS
                go_simp
                rfl
              refine Late.take (i := 4) (v := ?_) rfl (by kernel_rfl) (by kernel_rfl) (by kernel_rfl) (by kernel_rfl) (fun _ _ _ h => h) (Or.inl ⟨by kernel_rfl, ?_⟩) e2 ?_
              rotate_left
              · intro w' hS
                go_simp
                rfl
              refine Late.take (i := 5) (v := ?_) rfl (by kernel_rfl) (by kernel_rfl) (by kernel_rfl) (by kernel_rfl) (fun _ _ _ h => h) (Or.inl ⟨by kernel_rfl, ?_⟩) e2 ?_
              rotate_left
              · intro w' hS
                go_simp
                rfl
              refine Late.take (i := 6) (v := ?_) rfl (by kernel_rfl) (by kernel_rfl) (by kernel_rfl) (by kernel_rfl) (fun _ _ _ h => h) (Or.inl ⟨by kernel_rfl, ?_⟩) e2 ?_
              rotate_left
              · intro w' hS
                go_simp
                rfl
              refine Late.take (i := 7) (v := ?_) rfl (by kernel_rfl) (by kernel_rfl) (by kernel_rfl) (by kernel_rfl) (fun _ _ _ h => h) (Or.inl ⟨by kernel_rfl, ?_⟩) e2 ?_
              rotate_left
              · intro w' hS
                go_simp
                rfl
              refine Late.take (i := 8) (v := ?_) rfl (by kernel_rfl) (by kernel_rfl) (by kernel_rfl) (by kernel_rfl) (fun _ _ _ h => h) (Or.inl ⟨by kernel_rfl, ?_⟩) e2 ?_
              rotate_left
              · intro w' hS
                go_simp
                rfl
              refine Late.take (i := 10) (v := ?_) rfl (by kernel_rfl) (by kernel_rfl) (by kernel_rfl) (by kernel_rfl) (fun _ _ _ h => h) (Or.inl ⟨by kernel_rfl, ?_⟩) e2 ?_
              rotate_left
              · intro w' hS
                go_simp
                rfl
              refine Late.take (i := 11) (v := ?_) rfl (by kernel_rfl) (by kernel_rfl) (by kernel_rfl) (by kernel_rfl) (fun _ _ _ h => h) (Or.inl ⟨by kernel_rfl, ?_⟩) e2 ?_
              rotate_left
              · intro w' hS
                go_simp
                rfl
              refine Late.take (i := 12) (v := ?_) rfl (by kernel_rfl) (by kernel_rfl) (by kernel_rfl) (by kernel_rfl) (fun _ _ _ h => h) (Or.inl ⟨by kernel_rfl, ?_⟩) e2 ?_
              rotate_left
              · intro w' hS
                go_simp
                rfl
              refine Late.take (i := 13) (v := ?_) rfl (by kernel_rfl) (by kernel_rfl) (by kernel_rfl) (by kernel_rfl) (fun _ _ _ h => h) (Or.inl ⟨by kernel_rfl, ?_⟩) e2 ?_
              rotate_left
              · intro w' hS
                go_simp
                rfl
              refine Late.take (i := 14) (v := ?_) rfl (by kernel_rfl) (by kernel_rfl) (by kernel_rfl) (by kernel_rfl) (fun _ _ _ h => h) (Or.inl ⟨by kernel_rfl, ?_⟩) e2 ?_
              rotate_left
              · intro w' hS
                go_simp
                rfl
              refine Late.take (i := 15) (v := ?_) rfl (by kernel_rfl) (by kernel_rfl) (by kernel_rfl) (by kernel_rfl) (fun _ _ _ h => h) (Or.inl ⟨by kernel_rfl, ?_⟩) e2 ?_
              rotate_left
              · intro w' hS
                go_simp
                rfl
              refine Late.take (i := 18) (v := ?_) rfl (by kernel_rfl) (by kernel_rfl) (by kernel_rfl) (by kernel_rfl) (fun _ _ _ h => h) (Or.inl ⟨by kernel_rfl, ?_⟩) e2 ?_
              rotate_left
              · intro w' hS
                go_simp
                rfl
              refine Late.one (i := 9) (by kernel_rfl) rfl (fun Kc hKc => ?_)
              go_simp
              have hlM : (seg rest 24 M).length = M := by simp [seg]; omega
              have hlK : (seg rest F K).length = K := by simp [seg]; omega
              have hS5 := hS4.keep (Step.of_below (below_drewN w4 1) (fun _ => False) 0) (fun _ x => x)
              refine (Ink.clone_calls _ (k0 + 2 * N.length) (c + 2) _ _ (seg rest 24 M) (Rd.subz hS5.read (by omega)) (by rw [hlM]; omega)).mono ?_; rintro e w9 ⟨v9, rfl, s9, o9⟩
              have hS6 := hS5.keep s9 (fun _ x => x)
              have e2 : w9.cell? ⟨rb, 2, none⟩ = some (.slice pq tq cq) := s9.cell e2 (fun x => x)
              refine hKc _ _ (fun _ => e2) ?_
              clear hKc Kc hS4 hS5 s9
              generalize ext (ext L4 w4.heap.size 0) (w4.drewN 1).heap.size (k0 + 2 * N.length) = L9 at *
              refine Late.one (i := 16) (by kernel_rfl) rfl (fun Kc hKc => ?_)
              go_simp
              refine (Ink.clone_calls _ (k0 + 2 * N.length + 1) (c + 2) _ _ (seg rest F K) (Rd.subz hS6.read (by omega)) (by rw [hlK]; omega)).mono ?_; rintro e w10 ⟨v10, rfl, s10, o10⟩
              have hS7 := hS6.keep s10 (fun _ x => x)
              have o9 := o9.step s10 (by simp)
              have e2 : w10.cell? ⟨rb, 2, none⟩ = some (.slice pq tq cq) := s10.cell e2 (fun x => x)
              refine hKc _ _ (fun _ => e2) ?_
              clear hKc Kc hS6 s10
              generalize ext L9 w9.heap.size (k0 + 2 * N.length + 1) = L10 at *
              obtain ⟨p9, k9, hv9, _⟩ := ownsRow_shape o9.1
              rw [hlM] at hv9
              subst hv9
              obtain ⟨p10, k10, hv10, _⟩ := ownsRow_shape o10.1
              rw [hlK] at hv10
              subst hv10
              refine Late.take (i := 17) (v := ?_) rfl (by kernel_rfl) (by kernel_rfl) (by kernel_rfl) (by kernel_rfl) (fun _ _ _ h => h) (Or.inl ⟨by kernel_rfl, ?_⟩) e2 ?_
              rotate_left
              · intro w' hS
                go_simp
                rfl
              refine Late.take (i := 19) (v := ?_) rfl (by kernel_rfl) (by kernel_rfl) (by kernel_rfl) (by kernel_rfl) (fun _ _ _ h => h) (Or.inl ⟨by kernel_rfl, ?_⟩) e2 ?_
              rotate_left
              · intro w' hS
                go_simp
                rfl
              have hrb : rb < w10.heap.size := World.block_lt_of_cell? w10 _ e2
              have fe : ∀ o, (w10.alloc o).cell? ⟨rb, 2, none⟩ = some (.slice pq tq cq) := fun o => (World.cell?_alloc_lt w10 o _ hrb).trans e2
              refine Late.one (i := 20) (by kernel_rfl) rfl (fun Kc hKc => ?_)
              go_simp
              refine hKc _ _ (fun _ => fe _) ?_
              clear hKc Kc
              obtain ⟨m, hm⟩ : ∃ m : Msg, m = ⟨seg rest 24 M, seg rest F K, .slice p9 M k9, .slice p10 K k10, k0 + 2 * N.length, k0 + 2 * N.length + 1⟩ := ⟨_, rfl⟩
              have hmc : m.cells = [.slice p9 M k9, .slice p10 K k10, .int .i64 n0] := by
                have hz : m.size = n0 := by rw [hm, Msg.size, hlM, hlK, HSUM.out, HF.out, HU.out]
                rw [Msg.cells, hz, hm]
              have hmat : MsgAt L10 w10 m := by rw [hm]; exact ⟨o9, o10⟩
              have hmco : m.cm = k0 + 2 * N.length ∧ m.cb = k0 + 2 * N.length + 1 := by rw [hm]; exact ⟨rfl, rfl⟩
              have hfr : fromV rest = F := by rw [fromV, ← HMM.out, ← HU.out, ← HF.out]
              have hms : scanF lm lb false rest = pre [(m.ms, m.bd)] (scanF lm lb false (rest.drop n0)) := by
                have h1 := scan_one hne HE1.out (by rw [← HN0.out]; exact HNN.out) H3.out
                rw [hfr, ← HN0.out, ← HMM.out, ← HKK.out] at h1
                rw [h1, hm]
              obtain ⟨vq3, vb3, r0, r1, r2, r3⟩ := hS7.rdr
              rw [← HTQ.out] at r2
              have hvq3 : vq3 = .slice pq tq cq := by
                rw [cell_of_heap r0] at e2
                exact Option.some.inj e2
              subst hvq3
              refine Late.one (i := 21) (by kernel_rfl) rfl (fun Kc hKc => ?_)
              refine step_append (by kernel_rfl) (.tmp 64) (.tmp 80) 71 71 rfl 75 Try.underlying71 infoWhole rfl (by decide) (.slice pq tq cq) tq _ (by kernel_rfl) (r2.1.alloc _) _ 1 m.cells (by kernel_rfl) (by rw [hmc]; exact Src.fresh (size := 3) w10 Try.underlying71 1 1 [.slice p9 M k9, .slice p10 K k10, .int .i64 n0] (by simp) (by simp [Value.oneCell'])) (by unfold maxLen; omega) (by omega) ?_
              intro v11 w11 hown11 hg11 hblk11
              obtain ⟨e2n, d2, L12, hS8⟩ := hS7.more hk0 hnl hn24 m hmat hmco hms (Rd.dropz hS7.read hnl) e2 (below_alloc w10 _) (by rw [← HTQ.out]; exact hown11) hg11 hblk11
              obtain ⟨p11, k11, hv11, _⟩ := ownsRow_shape hown11
              subst hv11
              refine hKc _ _ (fun _ => e2n) ?_
              clear hKc Kc r0 r1 r2 r3 hS7 hmat hms hown11 hg11 hblk11 o9 o10 fe e2 hmc
              refine Late.one (i := 22) (by kernel_rfl) rfl (fun Kc hKc => ?_)
              go_simp
              refine hKc _ _ (fun _ => e2n) ?_
              clear hKc Kc
              refine Late.one (i := 23) (by kernel_rfl) rfl (fun Kc hKc => ?_)
              go_simp
              refine hKc _ _ (fun _ => e2n) ?_
              clear hKc Kc
              refine Late.one (i := 24) (by kernel_rfl) rfl (fun Kc hKc => ?_)
              go_simp
              refine hKc _ _ (fun h => by cases h) ?_
              clear hKc Kc
              refine Late.done (by kernel_rfl) ?_ _
              have HLEN := Lib.hid (show (rest.drop n0).length = rest.length - n0 by simp)
              clear e2n d2
              go_wp2_with fail
              go_roundw
              case rel => exact ⟨_, N ++ [m], false, L12, by simp [lenOf], hS8⟩
              case measure => simp [lenOf]; omega
        · have z0 : (e0 != 0) = true := by simpa using hE
          have hT := Scanning.stop hk0 hS2 e0 hE hne (by rw [HE0.out]; exact scan_bad hne (by rw [← HE0.out]; exact hE))
          have d6 := hfz' 6
          clear hfz' hS2 c7'
          obtain ⟨c6n, pb2, cb2, hc1, hc2, c4⟩ := hT.cells
          have hpos2 := hT.pos hE
          go_wp2_with fail
          refine (Ink.clone_calls L2 (c + 2) (c + 2) _ _ [] (Own.nil L2 (c + 2) _ 5 1).rd (by simp)).mono ?_; rintro e w8 ⟨v8, rfl, s8, o8⟩
          obtain ⟨p8, k8, hv8, _⟩ := ownsRow_shape o8.1
          subst hv8
          obtain ⟨d4, ⟨x4, e4⟩, hP⟩ := hT.cloned hk0 s8 (by rw [if_neg hE]) o8
          clear hT c4 s8 o8
          go_wp2_with fail
          try rw [Exit.noGoto_normal]
          refine bodyPost_end (v := .tuple #[]) ?_ rfl ⟨rfl, hP⟩
          simp [results, Try.results39, go_sem]

end Go.Proofs.Ytcebdodogbpglaa.Rdr
