import Derived.Test.YtkhpgcbjmopkfaaGreatDoorT00
import Derived.Test.YtkhpgcbjmopkfaaGreatDoorT09
import Derived.Test.YtkhpgcbjmopkfaaGreatDoorT10
import Derived.Test.YtkhpgcbjmopkfaaGreatDoorT12
import Derived.Test.YtkhpgcbjmopkfaaGreatDoorT13
import Derived.Lib.SmallJoins
set_option linter.unusedVariables false
set_option linter.unusedSimpArgs false
set_option linter.unnecessarySimpa false
set_option maxRecDepth 100000
namespace Go.Fld
open Go Go.ChangeShapes Go.WideShapes Go.ChangeAt Go.RowKit Go.Deep Go.Proofs
theorem FdsC.mk' {w : World} {p : Option Addr} : ∀ {l : List Fd} {off : Nat}, (∀ (i : Nat) (hi : i < l.length), ∃ b o cs, p = some ⟨b, o, none⟩ ∧ (∀ (j : Nat) (u : Value), cs[j]? = some u → w.cell? ⟨b, o + (off + 7 * i) + j, none⟩ = some u) ∧ FdAt w l[i] cs) → FdsC w p off l
 | [], off, h => trivial
 | f :: r, off, h => by
  simp only [FdsC]
  refine ⟨?_, FdsC.mk' (l := r) (off := off + 7) fun i hi => ?_⟩
  ·have := h 0 (by simp)
   simpa using this
  ·obtain ⟨b, o, cs, h1, h2, h3⟩ := h (i + 1) (by simpa using hi)
   refine ⟨b, o, cs, h1, fun j u hj => ?_, by simpa using h3⟩
   have := h2 j u hj
   rwa [show o + (off + 7 * (i + 1)) + j = o + (off + 7 + 7 * i) + j from by omega] at this
theorem bounds64 {x : Int} (h : (Lit.int .i64 x).wf = true) : i64B x := by
 simp [Lit.wf] at h
 have e : IntKind.i64.min = -9223372036854775808 := rfl
 rw [e] at h
 exact h
section
variable {H : Type} {enc : TypeId × Value → H} {w : World}
theorem fds_open : ∀ (n : Nat) (v : Value) (x : DataW H × List MemPlace), DataW.trod enc Tryz.prog w 0 (fun _ => true) true n 23 [v] = some x → ∃ l : List Fd, FdsAt w l v := by
 intro n
 induction n using Nat.strongRecOn with
 | _ n ih =>
 intro v x h
 have hC : Tryz.prog.cellsOf 59 = 7 := by kernel_rfl
 have hC9 : Tryz.prog.cellsOf 9 = 1 := by kernel_rfl
 have hC4 : Tryz.prog.cellsOf 4 = 1 := by kernel_rfl
 have hC3 : Tryz.prog.cellsOf 3 = 1 := by kernel_rfl
 have hC57 : Tryz.prog.cellsOf 57 = 5 := by kernel_rfl
 have hC23 : Tryz.prog.cellsOf 23 = 1 := by kernel_rfl
 rcases DataW.trod_slice Tryz.underlying23 h with ⟨hcs, _⟩ | ⟨a, len, cap, elems, rest, m, rfl, hcs, rfl, hb, hl, hm, hlen, hel, _, _⟩
 ·simp at hcs
  subst hcs
  exact ⟨[], none, 0, rfl, Nat.le_refl _, Nat.zero_le _, trivial⟩
 ·simp at hcs
  subst hcs
  rw [hC] at hel
  have hap : 0 < len → ∃ b o, a = ⟨b, o, none⟩ := by
   intro h0
   have h1 := hel 0 h0
   rw [List.getElem?_eq_getElem (by omega)] at h1
   obtain ⟨cs, h2, h3⟩ := Option.bind_eq_some_iff.1 h1
   obtain ⟨hcl, hcc⟩ := Open.cells?_some h2
   have h4 := hcc 0 (by omega)
   rw [show (a.add (0 * 7)).add 0 = a from by simp [Addr.add], List.getElem?_eq_getElem (by omega)] at h4
   exact Open.spot_of_cell h4
  have key : ∀ i, i < len → ∃ y : Fd × List Value, (∃ b o, a = ⟨b, o, none⟩ ∧ ∀ (j : Nat) (u : Value), y.2[j]? = some u → w.cell? ⟨b, o + 7 * i + j, none⟩ = some u) ∧ FdAt w y.1 y.2 := by
   intro i hi
   have h1 := hel i hi
   rw [List.getElem?_eq_getElem (by omega)] at h1
   obtain ⟨cs, h2, h3⟩ := Option.bind_eq_some_iff.1 h1
   obtain ⟨hcl, hcc⟩ := Open.cells?_some h2
   obtain ⟨xs, k, rfl, _, _, hxl, hf⟩ := DataW.trod_struct Tryz.underlying59 h3
   obtain ⟨c0, c1, c2, c3, c4, c5, c6, rfl⟩ : ∃ c0 c1 c2 c3 c4 c5 c6, cs = [c0, c1, c2, c3, c4, c5, c6] := by
    match cs, hcl with
    | [a, b, c, d, e, f, g], _ => exact ⟨a, b, c, d, e, f, g, rfl⟩
   obtain ⟨y0, y1, y2, rfl⟩ : ∃ y0 y1 y2, xs = [y0, y1, y2] := by
    match xs, hxl with
    | [a, b, c], _ => exact ⟨a, b, c, rfl⟩
   have f0 : DataW.trod enc Tryz.prog w 0 (fun _ => true) true k 9 (([c0, c1, c2, c3, c4, c5, c6].drop 0).take (Tryz.prog.cellsOf 9)) = some y0 := hf 0 _ rfl
   have f1 : DataW.trod enc Tryz.prog w 0 (fun _ => true) true k 4 (([c0, c1, c2, c3, c4, c5, c6].drop 1).take (Tryz.prog.cellsOf 4)) = some y1 := hf 1 _ rfl
   have f2 : DataW.trod enc Tryz.prog w 0 (fun _ => true) true k 57 (([c0, c1, c2, c3, c4, c5, c6].drop 2).take (Tryz.prog.cellsOf 57)) = some y2 := hf 2 _ rfl
   rw [hC9] at f0
   rw [hC4] at f1
   rw [hC57] at f2
   obtain ⟨s, e0, _, hs⟩ := DataW.trod_string (x := y0) Tryz.underlying9 f0
   obtain ⟨b, e1, _⟩ := DataW.trod_bool (x := y1) Tryz.underlying4 f1
   obtain ⟨zs, k', rfl, _, _, hzl, hg⟩ := DataW.trod_struct (x := y2) Tryz.underlying57 f2
   obtain ⟨z0, z1, z2, z3, z4, rfl⟩ : ∃ z0 z1 z2 z3 z4, zs = [z0, z1, z2, z3, z4] := by
    match zs, hzl with
    | [a, b, c, d, e], _ => exact ⟨a, b, c, d, e, rfl⟩
   have g0 : DataW.trod enc Tryz.prog w 0 (fun _ => true) true k' 3 (([c2, c3, c4, c5, c6].drop 0).take (Tryz.prog.cellsOf 3)) = some z0 := hg 0 _ rfl
   rw [hC3] at g0
   have g1 : DataW.trod enc Tryz.prog w 0 (fun _ => true) true k' 3 (([c2, c3, c4, c5, c6].drop 1).take (Tryz.prog.cellsOf 3)) = some z1 := hg 1 _ rfl
   rw [hC3] at g1
   have g2 : DataW.trod enc Tryz.prog w 0 (fun _ => true) true k' 3 (([c2, c3, c4, c5, c6].drop 2).take (Tryz.prog.cellsOf 3)) = some z2 := hg 2 _ rfl
   rw [hC3] at g2
   have g3 : DataW.trod enc Tryz.prog w 0 (fun _ => true) true k' 3 (([c2, c3, c4, c5, c6].drop 3).take (Tryz.prog.cellsOf 3)) = some z3 := hg 3 _ rfl
   rw [hC3] at g3
   have g4 : DataW.trod enc Tryz.prog w 0 (fun _ => true) true k' 23 (([c2, c3, c4, c5, c6].drop 4).take (Tryz.prog.cellsOf 23)) = some z4 := hg 4 _ rfl
   rw [hC23] at g4
   obtain ⟨n0, q0, _, w0⟩ := DataW.trod_int (x := z0) Tryz.underlying3 g0
   obtain ⟨n1, q1, _, w1⟩ := DataW.trod_int (x := z1) Tryz.underlying3 g1
   obtain ⟨n2, q2, _, w2⟩ := DataW.trod_int (x := z2) Tryz.underlying3 g2
   obtain ⟨n3, q3, _, w3⟩ := DataW.trod_int (x := z3) Tryz.underlying3 g3
   obtain ⟨L, p, cp, e6, hl6, hm6, hC6⟩ := ih k' (by omega) c6 z4 g4
   simp at e0 e1 q0 q1 q2 q3
   subst e0 e1 q0 q1 q2 q3 e6
   obtain ⟨b', o', rfl⟩ := hap (by omega)
   refine ⟨(.mk s b n0 n1 n2 n3 L, [.string s, .bool b, .int .i64 n0, .int .i64 n1, .int .i64 n2, .int .i64 n3, .slice p L.length cp]), ⟨b', o', rfl, fun j u hj => ?_⟩, ?_⟩
   ·have hj7 := (List.getElem?_eq_some_iff.1 hj).1
    have := hcc j (by simpa using hj7)
    rw [Open.add_plain, Open.add_plain] at this
    rw [show o' + 7 * i + j = o' + i * 7 + j from by omega, this]
    exact hj
   ·simp only [FdAt]
    exact ⟨hs, bounds64 w0, bounds64 w1, bounds64 w2, bounds64 w3, p, cp, rfl, hl6, hm6, hC6⟩
  obtain ⟨ys, hyl, hy⟩ := Open.list_of key
  refine ⟨ys.map (·.1), some a, cap, by simp [hyl], by simpa [hyl] using hl, hm, FdsC.mk' fun i hi => ?_⟩
  obtain ⟨⟨b, o, rfl, h2⟩, h3⟩ := hy i (by simpa using hi)
  refine ⟨b, o, (ys[i]'(by simpa using hi)).2, rfl, fun j u hj => ?_, by simpa using h3⟩
  rw [Nat.zero_add]
  exact h2 j u hj
theorem ints_open {v : Value} {d : DataW H} {ps : List MemPlace} {n : Nat} (h : DataW.trod enc Tryz.prog w 0 (fun _ => true) true n 30 [v] = some (d, ps)) : ∃ xs : List Int, IntsAt w xs v := by
 have hC3 : Tryz.prog.cellsOf 3 = 1 := by kernel_rfl
 rcases DataW.trod_slice Tryz.underlying30 h with ⟨hcs, _⟩ | ⟨a, len, cap, elems, rest, m, rfl, hcs, _, hb, hl, hm, hlen, hel, _, _⟩
 ·simp at hcs
  subst hcs
  exact ⟨[], none, 0, rfl, Nat.le_refl _, Nat.zero_le _, fun i hi => absurd hi (Nat.not_lt_zero _)⟩
 ·simp at hcs
  subst hcs
  rw [hC3] at hel
  have hap : 0 < len → ∃ b o, a = ⟨b, o, none⟩ := by
   intro h0
   have h1 := hel 0 h0
   rw [List.getElem?_eq_getElem (by omega)] at h1
   obtain ⟨cs, h2, h3⟩ := Option.bind_eq_some_iff.1 h1
   obtain ⟨hcl, hcc⟩ := Open.cells?_some h2
   have h4 := hcc 0 (by omega)
   rw [show (a.add (0 * 1)).add 0 = a from by simp [Addr.add], List.getElem?_eq_getElem (by omega)] at h4
   exact Open.spot_of_cell h4
  have key : ∀ i, i < len → ∃ y : Int, i64B y ∧ ∃ b o, a = ⟨b, o, none⟩ ∧ w.cell? ⟨b, o + i, none⟩ = some (.int .i64 y) := by
   intro i hi
   have h1 := hel i hi
   rw [List.getElem?_eq_getElem (by omega)] at h1
   obtain ⟨cs, h2, h3⟩ := Option.bind_eq_some_iff.1 h1
   obtain ⟨hcl, hcc⟩ := Open.cells?_some h2
   obtain ⟨n0, rfl, _, w0⟩ := DataW.trod_int Tryz.underlying3 h3
   have h4 := hcc 0 (by omega)
   obtain ⟨b', o', rfl⟩ := hap (by omega)
   rw [Open.add_plain, Open.add_plain] at h4
   exact ⟨n0, bounds64 w0, b', o', rfl, by simpa using h4⟩
  obtain ⟨ys, hyl, hy⟩ := Open.list_of key
  refine ⟨ys, some a, cap, by simp [hyl], by omega, hm, fun i hi => ?_⟩
  obtain ⟨h1, b, o, rfl, h2⟩ := hy i hi
  exact ⟨h1, b, o, rfl, h2⟩
theorem notes_open {v : Value} {x : DataW H × List MemPlace} {n : Nat} (h : DataW.trod enc Tryz.prog w 0 (fun _ => true) true n 24 [v] = some x) : ∃ NS : List (ByteArray × ByteArray), NtsAt w NS v := by
 have hC : Tryz.prog.cellsOf 69 = 2 := by kernel_rfl
 have hC9 : Tryz.prog.cellsOf 9 = 1 := by kernel_rfl
 rcases DataW.trod_slice Tryz.underlying24 h with ⟨hcs, _⟩ | ⟨a, len, cap, elems, rest, m, rfl, hcs, _, hb, hl, hm, hlen, hel, _, _⟩
 ·simp at hcs
  subst hcs
  exact ⟨[], none, 0, rfl, Nat.le_refl _, Nat.zero_le _, fun i hi => absurd hi (Nat.not_lt_zero _)⟩
 ·simp at hcs
  subst hcs
  rw [hC] at hel
  have hap : 0 < len → ∃ b o, a = ⟨b, o, none⟩ := by
   intro h0
   have h1 := hel 0 h0
   rw [List.getElem?_eq_getElem (by omega)] at h1
   obtain ⟨cs, h2, h3⟩ := Option.bind_eq_some_iff.1 h1
   obtain ⟨hcl, hcc⟩ := Open.cells?_some h2
   have h4 := hcc 0 (by omega)
   rw [show (a.add (0 * 2)).add 0 = a from by simp [Addr.add], List.getElem?_eq_getElem (by omega)] at h4
   exact Open.spot_of_cell h4
  have key : ∀ i, i < len → ∃ y : ByteArray × ByteArray, ∃ b o, a = ⟨b, o, none⟩ ∧ w.cell? ⟨b, o + i * 2, none⟩ = some (.string y.1) ∧ w.cell? ⟨b, o + i * 2 + 1, none⟩ = some (.string y.2) ∧ y.1.size ≤ maxLen ∧ y.2.size ≤ maxLen := by
   intro i hi
   have h1 := hel i hi
   rw [List.getElem?_eq_getElem (by omega)] at h1
   obtain ⟨cs, h2, h3⟩ := Option.bind_eq_some_iff.1 h1
   obtain ⟨hcl, hcc⟩ := Open.cells?_some h2
   obtain ⟨xs, k, rfl, _, _, hxl, hf⟩ := DataW.trod_struct Tryz.underlying69 h3
   obtain ⟨c0, c1, rfl⟩ : ∃ c0 c1, cs = [c0, c1] := by
    match cs, hcl with
    | [a, b], _ => exact ⟨a, b, rfl⟩
   obtain ⟨y0, y1, rfl⟩ : ∃ y0 y1, xs = [y0, y1] := by
    match xs, hxl with
    | [a, b], _ => exact ⟨a, b, rfl⟩
   have f0 : DataW.trod enc Tryz.prog w 0 (fun _ => true) true k 9 (([c0, c1].drop 0).take (Tryz.prog.cellsOf 9)) = some y0 := hf 0 _ rfl
   have f1 : DataW.trod enc Tryz.prog w 0 (fun _ => true) true k 9 (([c0, c1].drop 1).take (Tryz.prog.cellsOf 9)) = some y1 := hf 1 _ rfl
   rw [hC9] at f0 f1
   obtain ⟨s0, e0, _, hs0⟩ := DataW.trod_string (x := y0) Tryz.underlying9 f0
   obtain ⟨s1, e1, _, hs1⟩ := DataW.trod_string (x := y1) Tryz.underlying9 f1
   simp at e0 e1
   subst e0 e1
   obtain ⟨b', o', rfl⟩ := hap (by omega)
   have g0 := hcc 0 (by omega)
   have g1 := hcc 1 (by omega)
   rw [Open.add_plain, Open.add_plain] at g0 g1
   exact ⟨(s0, s1), b', o', rfl, by simpa using g0, by simpa using g1, hs0, hs1⟩
  obtain ⟨ys, hyl, hy⟩ := Open.list_of key
  refine ⟨ys, some a, cap, by simp [hyl], by omega, hm, fun i hi => ?_⟩
  obtain ⟨b, o, rfl, h2, h3, h4, h5⟩ := hy i hi
  exact ⟨b, o, rfl, h2, h3, h4, h5⟩
theorem side_open {base : Nat} {v : Value} {d : DataW H} {p : List MemPlace} (hv : Value.okWide Tryz.prog w .any base 32 v) (h : DataW.Trod enc Tryz.prog w 0 (fun _ => true) true 32 v d p) :
  ∃ (f nv rv cv k : Value) (L : List Fd) (NS : List (ByteArray × ByteArray)) (K : List Int), v = .agg #[f, nv, rv, cv, k] ∧ FdsAt w L f ∧ NtsAt w NS nv ∧ IntsAt w K k := by
 have hC : Tryz.prog.cellsOf 32 = 5 := by kernel_rfl
 have hC26 : Tryz.prog.cellsOf 26 = 2 := by kernel_rfl
 have hC30 : Tryz.prog.cellsOf 30 = 1 := by kernel_rfl
 have hC23 : Tryz.prog.cellsOf 23 = 1 := by kernel_rfl
 have hC24 : Tryz.prog.cellsOf 24 = 1 := by kernel_rfl
 obtain ⟨cs, rfl, hsz⟩ := okWide_struct Tryz.underlying32 hv
 rw [hC] at hsz
 obtain ⟨c0, c1, c2, c3, c4, rfl⟩ : ∃ c0 c1 c2 c3 c4, cs = #[c0, c1, c2, c3, c4] := by
  match cs, hsz with
  | ⟨[a, b, c, d, e]⟩, _ => exact ⟨a, b, c, d, e, rfl⟩
 obtain ⟨fuel, hf⟩ := h
 obtain ⟨xs, n, rfl, _, _, hxl, hff⟩ := DataW.trod_struct Tryz.underlying32 hf
 obtain ⟨y0, y1, y2, rfl⟩ : ∃ y0 y1 y2, xs = [y0, y1, y2] := by
  match xs, hxl with
  | [a, b, c], _ => exact ⟨a, b, c, rfl⟩
 have f0 : DataW.trod enc Tryz.prog w 0 (fun _ => true) true n 26 (([c0, c1, c2, c3, c4].drop 0).take (Tryz.prog.cellsOf 26)) = some y0 := hff 0 _ rfl
 have f2 : DataW.trod enc Tryz.prog w 0 (fun _ => true) true n 30 (([c0, c1, c2, c3, c4].drop 4).take (Tryz.prog.cellsOf 30)) = some y2 := hff 2 _ rfl
 rw [hC26] at f0
 rw [hC30] at f2
 obtain ⟨zs, m, rfl, _, _, hzl, hg⟩ := DataW.trod_struct (x := y0) Tryz.underlying26 f0
 obtain ⟨z0, z1, rfl⟩ : ∃ z0 z1, zs = [z0, z1] := by
  match zs, hzl with
  | [a, b], _ => exact ⟨a, b, rfl⟩
 have g0 : DataW.trod enc Tryz.prog w 0 (fun _ => true) true m 23 (([c0, c1].drop 0).take (Tryz.prog.cellsOf 23)) = some z0 := hg 0 _ rfl
 have g1 : DataW.trod enc Tryz.prog w 0 (fun _ => true) true m 24 (([c0, c1].drop 1).take (Tryz.prog.cellsOf 24)) = some z1 := hg 1 _ rfl
 rw [hC23] at g0
 rw [hC24] at g1
 obtain ⟨L, hL⟩ := fds_open m c0 z0 g0
 obtain ⟨NS, hN⟩ := notes_open (v := c1) g1
 obtain ⟨K, hK⟩ := ints_open (v := c4) (d := y2.1) (ps := y2.2) f2
 exact ⟨c0, c1, c2, c3, c4, L, NS, K, rfl, hL, hN, hK⟩
end
end Go.Fld
namespace Go.Fld
open Go Go.RowKit Go.Proofs Go.ChangeShapes Go.WideShapes Go.ChangeAt Go.Shelf
theorem fdsC_flat {w : World} {b o : Nat} : ∀ {L : List Fd} {off : Nat}, FdsC w (some ⟨b, o, none⟩) off L →
  ∃ css : List (List Value), css.length = L.length ∧ (∀ cs ∈ css, cs.length = 7 ∧ ∀ u ∈ cs, u.oneCell' = true) ∧ (∀ (i : Nat) (h : i < L.length) (h' : i < css.length), FdAt w L[i] css[i]) ∧ ∀ (j : Nat) (u : Value), (css.flatMap id)[j]? = some u → w.cell? ⟨b, o + off + j, none⟩ = some u
 | [], off, h => ⟨[], rfl, (fun _ h => by cases h), (fun i h => absurd h (Nat.not_lt_zero _)), (fun j u hj => by cases hj)⟩
 | f :: r, off, h => by
  simp only [FdsC] at h
  obtain ⟨⟨b', o', cs, e, h2, h3⟩, h4⟩ := h
  cases e
  obtain ⟨css, c1, c2, c3, c4⟩ := fdsC_flat h4
  obtain ⟨p, cap, hs, _⟩ := h3.shape
  refine ⟨cs :: css, by simp [c1], fun x hx => ?_, fun i hi hi' => ?_, fun j u hj => ?_⟩
  ·rcases List.mem_cons.1 hx with e | e
   ·rw [e, hs]; exact ⟨rfl, fun u hu => by simp at hu; rcases hu with rfl | rfl | rfl | rfl | rfl | rfl | rfl <;> rfl⟩
   ·exact c2 x e
  ·cases i with
   | zero => exact h3
   | succ i => exact c3 i (by simpa using hi) (by simpa using hi')
  ·have h7 : cs.length = 7 := by rw [hs]; rfl
   simp only [List.flatMap_cons, id] at hj
   by_cases hlt : j < 7
   ·rw [List.getElem?_append_left (by omega)] at hj
    exact h2 j u hj
   ·rw [List.getElem?_append_right (by omega), h7] at hj
    have := c4 (j - 7) u hj
    rwa [show o + (off + 7) + (j - 7) = o + off + j by omega] at this
end Go.Fld
