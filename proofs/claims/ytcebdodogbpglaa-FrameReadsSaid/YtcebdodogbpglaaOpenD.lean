import Derived.Test.YtcebdodogbpglaaOpenC
import Derived.Test.YtcebdodogbpglaaRdR
set_option linter.unusedVariables false
set_option maxRecDepth 100000
/-! MESSAGES AND NUMBERS AS ARGUMENTS. -/
namespace Go.Proofs.Ytcebdodogbpglaa.Open
open Go.ChangeShapes Go.WideShapes Go.ChangeAt Go.RowKit Go.Deep Mem Rdr

section
variable {H : Type} {enc : TypeId × Value → H} {w : World}
theorem msgs {q : Option Addr} {len cap : Nat} {d : DataW H} {ps : List MemPlace} (h : DataW.Trod enc Try.prog w 0 (fun _ => true) true 58 (.slice q len cap) d ps) :
    ∃ M : List Pair, M.length = len ∧ MsgsRd (fun _ => 0) w (fun d => d = 0) (.slice q len cap) M := by
  have hC : Try.prog.cellsOf 25 = 2 := by kernel_rfl
  obtain ⟨hl, hm, CS, D, n, hel, _⟩ := Open.slice Try.underlying58 (by rw [hC]; decide) h
  rw [hC] at hel
  obtain ⟨xs, hxl, hx⟩ := Open.list_of (n := len) (p := fun i (x : (Value × Value) × Pair) => CS i = [x.1.1, x.1.2] ∧ Rd (fun _ => 0) 0 w 1 x.1.1 x.2.1.length (x.2.1.map byt) ∧ Rd (fun _ => 0) 0 w 1 x.1.2 x.2.2.length (x.2.2.map byt)) (fun i hi => by
    obtain ⟨h1, ⟨Pl, h2⟩, _⟩ := hel i hi
    obtain ⟨v0, v1, hv⟩ : ∃ v0 v1, CS i = [v0, v1] := by
      match hc : CS i, h1 with
      | [a, b], _ => exact ⟨a, b, rfl⟩
    rw [hv] at h2
    obtain ⟨n0, y0, f0⟩ := Open.field Try.underlying25 h2 0 23 0 1 (by kernel_rfl) (by kernel_rfl)
    obtain ⟨n1, y1, f1⟩ := Open.field Try.underlying25 h2 1 23 1 1 (by kernel_rfl) (by kernel_rfl)
    obtain ⟨q0, l0, k0, e0, t0⟩ := Open.slice_cell Try.underlying23 (show DataW.trod enc Try.prog w 0 (fun _ => true) true n0 23 [v0] = some y0 from f0)
    obtain ⟨q1, l1, k1, e1, t1⟩ := Open.slice_cell Try.underlying23 (show DataW.trod enc Try.prog w 0 (fun _ => true) true n1 23 [v1] = some y1 from f1)
    obtain ⟨b0, hb0, r0⟩ := Open.bytes Try.underlying23 Try.underlying5 (by kernel_rfl) t0
    obtain ⟨b1, hb1, r1⟩ := Open.bytes Try.underlying23 Try.underlying5 (by kernel_rfl) t1
    subst hb0 hb1
    exact ⟨((v0, v1), (b0, b1)), hv, by rw [e0]; exact r0, by rw [e1]; exact r1⟩)
  refine ⟨xs.map (·.2), by simp [hxl], xs.map (·.1), 0, rfl, by simp, ⟨by simp [Function.comp_def]; rw [show (List.map (fun _ => 2) xs).sum = xs.length * 2 from by clear hx hxl; induction xs with
    | nil => rfl
    | cons x r ih => simp [ih]; omega], q, cap, by simp [hxl], by simpa [hxl] using hl, hm, fun j u hj => ?_⟩, fun i hi hi2 => ?_⟩
  · have hlen : ((xs.map (·.1)).map fun x : Value × Value => [x.1, x.2]).flatten.length = xs.length * 2 := by
      clear hx hxl hj
      induction xs with
      | nil => rfl
      | cons x r ih => simp only [List.map_cons, List.flatten_cons, List.length_append, ih, List.length_cons, List.length_nil]; omega
    have hjl : j < xs.length * 2 := by rw [← hlen]; exact (List.getElem?_eq_some_iff.1 hj).1
    have hi : j / 2 < len := by omega
    obtain ⟨_, _, b, off, hq, hc⟩ := hel (j / 2) hi
    refine ⟨b, off, hq, rfl, ?_⟩
    have h1 := hc (j % 2) (Nat.mod_lt _ (by decide))
    obtain ⟨g1, _⟩ := hx (j / 2) (by omega)
    obtain ⟨p1, p2⟩ := pairs_get (xs.map (·.1)) (j / 2) (by simp; omega)
    rw [show off + j / 2 * 2 + j % 2 = off + j from by omega, g1] at h1
    rw [h1]
    rcases Nat.mod_two_eq_zero_or_one j with e | e
    · rw [show j / 2 * 2 = j from by omega] at p1
      rw [hj] at p1
      rw [e, p1]; simp
    · rw [show j / 2 * 2 + 1 = j from by omega] at p2
      rw [hj] at p2
      rw [e, p2]; simp
  · obtain ⟨_, g2, g3⟩ := hx i (by simpa using hi)
    simp only [List.getElem_map]
    exact ⟨⟨0, rfl, g2⟩, ⟨0, rfl, g3⟩⟩

theorem ints {q : Option Addr} {len cap : Nat} {d : DataW H} {ps : List MemPlace} (h : DataW.Trod enc Try.prog w 0 (fun _ => true) true 32 (.slice q len cap) d ps) :
    ∃ cs : List Int, cs.length = len ∧ (∀ x ∈ cs, -9223372036854775808 ≤ x ∧ x ≤ 9223372036854775807) ∧ Rd (fun _ => 0) 0 w 1 (.slice q len cap) len (cs.map fun x => .int .i64 x) := by
  have hC : Try.prog.cellsOf 3 = 1 := by kernel_rfl
  obtain ⟨hl, hm, CS, D, n, hel, _⟩ := Open.slice Try.underlying32 (by rw [hC]; decide) h
  rw [hC] at hel
  obtain ⟨xs, hxl, hx⟩ := Open.list_of (n := len) (p := fun i (x : Int) => CS i = [.int .i64 x] ∧ -9223372036854775808 ≤ x ∧ x ≤ 9223372036854775807) (fun i hi => by
    obtain ⟨h1, ⟨Pl, h2⟩, _⟩ := hel i hi
    obtain ⟨v0, hv⟩ : ∃ v0, CS i = [v0] := by
      match hc : CS i, h1 with
      | [a], _ => exact ⟨a, rfl⟩
    rw [hv] at h2
    obtain ⟨x, e0, _, w0⟩ := DataW.trod_int Try.underlying3 h2
    simp at e0
    subst e0
    exact ⟨x, hv, (bounds_i64 w0).1, (bounds_i64 w0).2⟩)
  refine ⟨xs, hxl, fun x hxm => ?_, by simp [hxl], q, cap, rfl, hl, hm, fun j u hj => ?_⟩
  · obtain ⟨i, hi, rfl⟩ := List.mem_iff_getElem.1 hxm
    exact (hx i hi).2
  · have hjl : j < xs.length := by
      have := (List.getElem?_eq_some_iff.1 hj).1
      simpa using this
    obtain ⟨_, _, b, off, hq, hc⟩ := hel j (by omega)
    refine ⟨b, off, hq, rfl, ?_⟩
    have h1 := hc 0 (by omega)
    rw [(hx j hjl).1] at h1
    rw [List.getElem?_map, List.getElem?_eq_getElem hjl] at hj
    rw [← hj]
    simpa using h1
end
end Go.Proofs.Ytcebdodogbpglaa.Open
