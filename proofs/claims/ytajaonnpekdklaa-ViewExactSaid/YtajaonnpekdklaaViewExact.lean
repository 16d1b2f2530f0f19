/-
  Sum and Times of the program are those of the reference, for every list and every two numbers; ViewExact returns true. No conditions.
-/
import Derived.Test.YtajaonnpekdklaaExactB
import Derived.Test.YtajaonnpekdklaaFrame
namespace Go.Proofs.Ytajaonnpekdklaa.viewExact
open Go.ChangeShapes Go.WideShapes Go.ChangeAt Go.RowKit
set_option linter.unusedVariables false
set_option maxRecDepth 100000

theorem spot_none {w : World} {x : Addr} {zs : List Int} (h : ∀ i, i < zs.length → w.cell? (x.add i) = some (.int .i64 (zs.getD i 0))) {k : Nat} (hk : k < zs.length) : ∃ b off, x = ⟨b, off, none⟩ := by
  have h0 := h 0 (by omega)
  obtain ⟨b, off, sp⟩ := x
  cases sp with
  | none => exact ⟨b, off, rfl⟩
  | some s =>
    exfalso
    unfold World.cell? Addr.add at h0
    simp at h0
    split at h0 <;> simp at h0

theorem walk {H : Type} {enc : TypeId × Value → H} (W : World) (args : Array Value) (ds : List (DataW H)) (told : LawFrame.Told enc Try.prog Try.f4 W args ds) :
    Calls Try.prog 4 args W fun e W' => e = .returned (.bool true) ∧ Below W.heap.size W W' := by
  obtain ⟨⟨p, hA, _⟩, ⟨base, hval⟩, hsz⟩ := told
  rw [Try.params4] at hA hval hsz
  obtain ⟨v0, v1, v2, d0, d1, d2, p0, p1, p2, rfl, rfl, rfl, h0, h1, h2⟩ := trodAll_three hA
  obtain ⟨a0, len0, cap0, rfl⟩ := okWide_slice Try.underlying23 (hval 0 23 v0 rfl rfl)
  obtain ⟨a1, rfl, rfl, rfl, w1⟩ := open_int Try.underlying3 (hval 1 3 v1 rfl rfl) h1
  obtain ⟨a2, rfl, rfl, rfl, w2⟩ := open_int Try.underlying3 (hval 2 3 v2 rfl rfl) h2
  have b1 := bounds_i64 w1
  have b2 := bounds_i64 w2
  have lt0 : ∀ x ∈ p0, x.block < W.heap.size := by obtain ⟨m, hm⟩ := h0; exact DataW.trod_lt m _ _ _ hm
  obtain ⟨fuel, hf⟩ := h0
  rcases open_ints Try.underlying23 Try.underlying3 (by kernel_rfl) hf with ⟨hcs, hx⟩ | ⟨x, l, c, zs, hcs, hx0, hl, hm, hz, hx, hcell, hwz⟩
  · simp [Value.cells] at hcs
    obtain ⟨rfl, rfl, rfl⟩ := hcs
    exact exact_walk [] none 0 a1 a2 W (by simp) (fun k hk => by simp at hk) (fun k hk => by simp at hk) b1.1 b1.2 b2.1 b2.2
  · simp [Value.cells] at hcs
    obtain ⟨rfl, rfl, rfl⟩ := hcs
    obtain ⟨rfl, rfl⟩ := Prod.mk.injEq .. ▸ hx
    have hzl : zs.length = cap0 := by simpa using hz
    have hreach := sized_slice (j := 0) hsz rfl rfl Try.underlying23
    have hb8 : Try.prog.bytesOf 3 = 8 := by kernel_rfl
    rw [hb8] at hreach
    have hlen : len0 * 8 ≤ 140737488351232 := by
      have h1 : reachBytes = 140737488351232 := by decide
      have h2 : len0 * 8 ≤ cap0 * 8 := Nat.mul_le_mul_right _ hl
      have h3 : (lits (H := H) IntKind.i64 (List.take len0 zs)).length + (lits (H := H) IntKind.i64 (List.drop len0 zs)).length = cap0 := by simp [lits]; omega
      rw [h3, h1] at hreach
      omega
    have hrd : Reads W (some x) (zs.take len0) := by
      intro k hk
      have hk' : k < zs.length := by simp at hk; omega
      have hk'' : k < len0 := by simp at hk; omega
      obtain ⟨b, off, hxs⟩ := spot_none hcell hk'
      subst hxs
      refine ⟨b, off, rfl, ?_⟩
      have := hcell k hk'
      have hadd : (⟨b, off, none⟩ : Addr).add k = ⟨b, off + k, none⟩ := by unfold Addr.add; split <;> simp_all
      rw [hadd] at this
      rw [this]
      simp [hk', hk'']
    have hl2 : (zs.take len0).length = len0 := by simp; omega
    have := exact_walk (zs.take len0) (some x) cap0 a1 a2 W (by rw [hl2]; exact hlen) hrd
      (fun k hk => by
        have hk' : k < zs.length := by simp at hk; omega
        have := bounds_i64 (hwz zs[k] (by simp))
        simpa using this) b1.1 b1.2 b2.1 b2.2
    rw [hl2] at this
    exact this

theorem isLaw : LawFrame.IsLaw Rows.viewExactSpec 3 := ⟨rfl, fun H ds h => by match ds, h with | [_, _, _], _ => rfl⟩

theorem lifted (os : Os) (started : os.Started) (H : Type) (enc : TypeId × Value → H) :
    ReturnsInHanded {} Try.checked os 4 .any (Rows.viewExactSpec.pre6 enc Try.prog Try.f4 Rows.viewExactRow.domain false) (Rows.viewExactSpec.post enc Try.prog Try.f4 false true false false) :=
  LawFrame.lifted (C := Try.checked) (tb := 4) (by kernel_rfl) started (by kernel_rfl) Try.func4 isLaw (by kernel_rfl) Try.underlying4 (by kernel_rfl)
    (by rw [Try.params4]; intro t ht; simp at ht; rcases ht with rfl | rfl | rfl <;> exact ⟨by kernel_rfl, of_decide_eq_true (by kernel_rfl)⟩)
    (ChangeSpec.witness6 (enc := enc) (C := Try.checked) false ⟨#[], #[.slice none 0 0, .int .i64 0, .int .i64 0], []⟩ 8 (by kernel_rfl) (by kernel_rfl) (by kernel_rfl) (by kernel_rfl)) walk

theorem over : Rows.viewExactRow.holds Try.pinned (OpenSpec.ofChange Rows.viewExactSpec) :=
  OpenClaim.holds_of_wide 4 Try.f4 rfl rfl rfl rfl rfl rfl rfl ⟨rfl, rfl, rfl, rfl, rfl⟩ rfl rfl rfl rfl rfl (by kernel_rfl) Try.func4 (by kernel_rfl)
    (of_decide_eq_true (by kernel_rfl)) (by unfold Func.isWrapper; first | (rw [if_pos (by decide +kernel)]; kernel_rfl) | (rw [if_neg (by decide +kernel)]; exact ⟨rfl, rfl⟩))
    (fun os started H enc _ => lifted os started H enc)

/-- ████ THE STATEMENT ████ -/
theorem proved : Rows.ViewExactSaid := over
#print axioms proved
end Go.Proofs.Ytajaonnpekdklaa.viewExact
