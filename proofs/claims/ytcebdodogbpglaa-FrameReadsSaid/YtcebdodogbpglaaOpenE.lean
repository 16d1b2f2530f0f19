import Derived.Test.YtcebdodogbpglaaOpenD
import Derived.Test.YtcebdodogbpglaaRfI
set_option linter.unusedVariables false
set_option maxRecDepth 100000
/-! A SCRIPT AS AN ARGUMENT. -/
namespace Go.Proofs.Ytcebdodogbpglaa.Open
open Go.ChangeShapes Go.WideShapes Go.ChangeAt Go.RowKit Go.Deep Mem Rdr

section
variable {H : Type} {enc : TypeId × Value → H} {w : World}
theorem weightsAll_mem {P : Program} {e : TypeId} {b : Nat} : ∀ {l : List (DataW H)}, (DataW.weightsAll P e l).all (· ≤ b) = true → ∀ d ∈ l, (d.weights P e).all (· ≤ b) = true
  | [], _, d, h => by cases h
  | x :: r, hw, d, h => by
    rw [DataW.weightsAll, List.all_append, Bool.and_eq_true] at hw
    rcases List.mem_cons.1 h with rfl | h
    · exact hw.1
    · exact weightsAll_mem hw.2 d h

theorem script {q : Option Addr} {len cap : Nat} {d : DataW H} {ps : List MemPlace} (h : DataW.Trod enc Try.prog w 0 (fun _ => true) true 41 (.slice q len cap) d ps) (hw : (d.weights Try.prog 41).all (· ≤ reachBytes) = true) :
    ∃ S : List Step2, S.length = len ∧ ScriptRd w (.slice q len cap) S := by
  have hC : Try.prog.cellsOf 52 = 2 := by kernel_rfl
  obtain ⟨hl, hm, CS, D, n, hel, hd⟩ := Open.slice Try.underlying41 (by rw [hC]; decide) h
  rw [hC] at hel
  have hwD : ∀ i, i < len → ((D i).weights Try.prog 52).all (· ≤ reachBytes) = true := by
    rcases hd with ⟨_, h0⟩ | ⟨sp, rfl, _⟩
    · intro i hi; omega
    · intro i hi
      rw [DataW.weights, Try.underlying41] at hw
      simp only [List.all_cons, List.all_append, Bool.and_eq_true] at hw
      exact weightsAll_mem hw.2.1 _ (List.mem_map.2 ⟨i, List.mem_range.2 hi, rfl⟩)
  obtain ⟨xs, hxl, hx⟩ := Open.list_of (n := len) (p := fun i (x : Value × Step2) => CS i = [.int .i64 x.2.1, x.1] ∧ Rd (fun _ => 0) 0 w 1 x.1 x.2.2.length (x.2.2.map byt) ∧ x.2.2.length ≤ 140737488351232 ∧ -9223372036854775808 ≤ x.2.1 ∧ x.2.1 ≤ 9223372036854775807) (fun i hi => by
    obtain ⟨h1, ⟨Pl, h2⟩, _⟩ := hel i hi
    have hwi := hwD i hi
    obtain ⟨v0, v1, hv⟩ : ∃ v0 v1, CS i = [v0, v1] := by
      match hc : CS i, h1 with
      | [a, b], _ => exact ⟨a, b, rfl⟩
    rw [hv] at h2
    obtain ⟨ys, m, _, hyx, _, hyl, hff⟩ := DataW.trod_struct Try.underlying52 h2
    obtain ⟨y0, y1, hys⟩ : ∃ y0 y1, ys = [y0, y1] := by
      match hc : ys, hyl with
      | [a, b], _ => exact ⟨a, b, rfl⟩
    subst hys
    have f0 : DataW.trod enc Try.prog w 0 (fun _ => true) true m 3 (([v0, v1].drop 0).take (Try.prog.cellsOf 3)) = [y0, y1][0]? := hff 0 _ rfl
    have f1 : DataW.trod enc Try.prog w 0 (fun _ => true) true m 23 (([v0, v1].drop 1).take (Try.prog.cellsOf 23)) = [y0, y1][1]? := hff 1 _ rfl
    rw [show Try.prog.cellsOf 3 = 1 from by kernel_rfl] at f0
    rw [show Try.prog.cellsOf 23 = 1 from by kernel_rfl] at f1
    obtain ⟨x, e0, _, w0⟩ := DataW.trod_int Try.underlying3 (show DataW.trod enc Try.prog w 0 (fun _ => true) true m 3 [v0] = some y0 from f0)
    simp at e0
    subst e0
    obtain ⟨q1, l1, k1, e1, t1⟩ := Open.slice_cell Try.underlying23 (show DataW.trod enc Try.prog w 0 (fun _ => true) true m 23 [v1] = some y1 from f1)
    obtain ⟨b1, hb1, r1⟩ := Open.bytes Try.underlying23 Try.underlying5 (by kernel_rfl) t1
    have hD : D i = .agg [y0.1, y1.1] := (Prod.mk.inj hyx).1
    rw [hD, DataW.weights, Try.underlying52] at hwi
    simp only [DataW.weightsEach, List.map_cons, List.map_nil, List.append_nil, List.all_append, Bool.and_eq_true] at hwi
    have hsz := Open.bytes_sized Try.underlying23 (by kernel_rfl) (by kernel_rfl) t1 hwi.2
    subst hb1
    exact ⟨(v1, (x, b1)), hv, by rw [e1]; exact r1, hsz, (bounds_i64 w0).1, (bounds_i64 w0).2⟩)
  refine ⟨xs.map (·.2), by simp [hxl], xs.map (·.1), by simp, ⟨?_, q, cap, by simp [hxl], by simpa [hxl] using hl, hm, fun j u hj => ?_⟩, fun i hi hi2 => ?_⟩
  · have : ∀ (a : List Step2) (b : List Value), a.length = b.length → (((a.zip b).map fun x => [Value.int .i64 x.1.1, x.2]).flatten).length = a.length * 2 := by
      intro a
      induction a with
      | nil => intro b hb; simp
      | cons x r ih =>
        intro b hb
        cases b with
        | nil => simp at hb
        | cons y s => simp only [List.zip_cons_cons, List.map_cons, List.flatten_cons, List.length_append, ih s (by simpa using hb), List.length_cons, List.length_nil]; omega
    exact this _ _ (by simp)
  · have hjl : j < xs.length * 2 := by
      have h1 := (List.getElem?_eq_some_iff.1 hj).1
      have : ∀ (a : List Step2) (b : List Value), a.length = b.length → (((a.zip b).map fun x => [Value.int .i64 x.1.1, x.2]).flatten).length = a.length * 2 := by
        intro a
        induction a with
        | nil => intro b hb; simp
        | cons x r ih =>
          intro b hb
          cases b with
          | nil => simp at hb
          | cons y s => simp only [List.zip_cons_cons, List.map_cons, List.flatten_cons, List.length_append, ih s (by simpa using hb), List.length_cons, List.length_nil]; omega
      rw [this _ _ (by simp)] at h1
      simpa using h1
    have hi : j / 2 < len := by omega
    obtain ⟨_, _, b, off, hq, hc⟩ := hel (j / 2) hi
    refine ⟨b, off, hq, rfl, ?_⟩
    have h1 := hc (j % 2) (Nat.mod_lt _ (by decide))
    obtain ⟨g1, _⟩ := hx (j / 2) (by omega)
    obtain ⟨p1, p2⟩ := zips_get (xs.map (·.2)) (xs.map (·.1)) (by simp) (j / 2) (by simp; omega)
    rw [show off + j / 2 * 2 + j % 2 = off + j from by omega, g1] at h1
    rw [h1]
    rcases Nat.mod_two_eq_zero_or_one j with e | e
    · rw [show j / 2 * 2 = j from by omega] at p1
      rw [hj] at p1
      rw [e, p1]; simp
    · rw [show j / 2 * 2 + 1 = j from by omega] at p2
      rw [hj] at p2
      rw [e, p2]; simp
  · obtain ⟨_, g2, g3⟩ := hx i (by simpa using hi)
    simp only [List.getElem_map]
    exact ⟨g2, g3⟩
end
end Go.Proofs.Ytcebdodogbpglaa.Open
