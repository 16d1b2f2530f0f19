/-
  Every script over views, parts and watches of any bytes is answered as the document answers, where the bytes and the script are together of bulk at most 1048576; ViewReads returns true. No other conditions.
-/
import Derived.Test.YtajaonnpekdklaaVrW
import Derived.Test.YtajaonnpekdklaaOpenB
import Derived.JoinedCond
import Derived.Deep.CondSized
namespace Go.Proofs.Ytajaonnpekdklaa.viewReads
open Go.ChangeShapes Go.WideShapes Go.ChangeAt Go.RowKit Mem Vr
set_option linter.unusedVariables false
set_option maxRecDepth 100000

section
variable {H : Type} {enc : TypeId × Value → H}

theorem bulk_one (d : DataW H) : 1 ≤ Rows.uptoBulk d := by
  cases d with
  | lit l => cases l <;> simp [Rows.uptoBulk]
  | _ => simp [Rows.uptoBulk]
theorem bulk_len (l : List (DataW H)) : l.length ≤ Rows.uptoBulkAll l := by
  induction l with
  | nil => simp [Rows.uptoBulkAll]
  | cons x r ih => have := bulk_one x; simp only [Rows.uptoBulkAll, List.length_cons]; omega

theorem opOf {w : World} {n : Nat} {cs : List Value} {x : DataW H × List MemPlace} (h : DataW.trod enc Try.prog w 0 (fun _ => true) true n 72 cs = some x) :
    ∃ o : OpR, cs = [.int .i64 o.kind, .int .i64 o.on, .int .i64 o.a, .int .i64 o.b] ∧ OpRok o := by
  have hl := Open.struct_len Try.underlying72 h
  rw [show Try.prog.cellsOf 72 = 4 from by kernel_rfl] at hl
  match cs, hl with
  | [c0, c1, c2, c3], _ =>
    obtain ⟨_, _, f0⟩ := Open.field Try.underlying72 h 0 3 0 1 rfl (by kernel_rfl)
    obtain ⟨_, _, f1⟩ := Open.field Try.underlying72 h 1 3 1 1 rfl (by kernel_rfl)
    obtain ⟨_, _, f2⟩ := Open.field Try.underlying72 h 2 3 2 1 rfl (by kernel_rfl)
    obtain ⟨_, _, f3⟩ := Open.field Try.underlying72 h 3 3 3 1 rfl (by kernel_rfl)
    obtain ⟨a, e0, _, w0⟩ := DataW.trod_int Try.underlying3 f0
    obtain ⟨b, e1, _, w1⟩ := DataW.trod_int Try.underlying3 f1
    obtain ⟨c, e2, _, w2⟩ := DataW.trod_int Try.underlying3 f2
    obtain ⟨d, e3, _, w3⟩ := DataW.trod_int Try.underlying3 f3
    simp at e0 e1 e2 e3
    subst e0 e1 e2 e3
    have b1 := bounds_i64 w1
    have b2 := bounds_i64 w2
    have b3 := bounds_i64 w3
    exact ⟨⟨a, b, c, d⟩, rfl, b1.1, b1.2, b2.1, b2.2, b3.1, b3.2⟩

theorem slice_short {w : World} {t e : TypeId} {p : Option Addr} {len cap : Nat} {d : DataW H} {ps : List MemPlace} (ht : Try.prog.underlying t = some (.slice e)) (he : 0 < Try.prog.cellsOf e)
    (h : DataW.Trod enc Try.prog w 0 (fun _ => true) true t (.slice p len cap) d ps) : len ≤ Rows.uptoBulk d := by
  obtain ⟨_, _, CS, D, n, _, hd⟩ := Open.slice ht he h
  rcases hd with ⟨_, rfl⟩ | ⟨sp, rfl, _⟩
  · exact Nat.zero_le _
  · have := bulk_len ((List.range len).map D)
    simp only [Rows.uptoBulk, List.length_map, List.length_range] at this ⊢
    omega

theorem walk (W : World) (args : Array Value) (ds : List (DataW H)) (hk : Rows.uptoBulkAll ds ≤ 1048576) (base : Nat)
    (hval : ∀ (j : Nat) t v, Try.f7.params[j]? = some t → args[j]? = some v → Value.okWide Try.prog W .any base t v) {p : List MemPlace}
    (hA : DataW.TrodAll enc Try.prog W 0 (fun _ => true) true Try.f7.params.toList args.toList ds p) :
    Calls Try.prog 7 args W fun e W' => e = .returned (.bool true) ∧ Below W.heap.size W W' := by
  rw [Try.params7] at hA hval
  obtain ⟨v0, v1, d0, d1, p0, p1, rfl, rfl, rfl, h0, h1⟩ := trodAll_two hA
  obtain ⟨q, len, cap, rfl⟩ := okWide_slice Try.underlying35 (hval 0 35 v0 rfl rfl)
  obtain ⟨bs, hbl, hr⟩ := Open.bytes Try.underlying35 Try.underlying5 (by kernel_rfl) h0
  obtain ⟨a1, lenS, capS, rfl⟩ := okWide_slice Try.underlying66 (hval 1 66 v1 rfl rfl)
  simp only [Rows.uptoBulkAll] at hk
  have s0 := slice_short Try.underlying35 (by rw [show Try.prog.cellsOf 5 = 1 from by kernel_rfl]; omega) h0
  have s1 := slice_short Try.underlying66 (by rw [show Try.prog.cellsOf 72 = 4 from by kernel_rfl]; omega) h1
  obtain ⟨hl, hm, CS, D, n, hel, _⟩ := Open.slice Try.underlying66 (by rw [show Try.prog.cellsOf 72 = 4 from by kernel_rfl]; omega) h1
  rw [show Try.prog.cellsOf 72 = 4 from by kernel_rfl] at hel
  obtain ⟨S, hSl, hSo⟩ := Open.list_of (n := lenS) (p := fun i o => CS i = [.int .i64 (OpR.kind o), .int .i64 o.on, .int .i64 o.a, .int .i64 o.b] ∧ OpRok o) (fun i hi => by
    obtain ⟨_, ⟨Pl, h2⟩, _⟩ := hel i hi
    exact opOf h2)
  subst hSl
  unfold maxLen at hm
  refine reads_walk hr (by omega) S hl (by omega) (by omega) ?_ (fun k hk => (hSo k hk).2)
  intro k hk
  obtain ⟨_, _, b, off, hp, hc⟩ := hel k hk
  rw [(hSo k hk).1] at hc
  exact ⟨b, off, hp, hc 0 (by omega), hc 1 (by omega), hc 2 (by omega), hc 3 (by omega)⟩
end

theorem isLaw : LawFrame.IsLaw Rows.viewReadsSpec 2 := ⟨rfl, fun H ds h => by match ds, h with | [_, _], _ => rfl⟩

theorem readable : ∀ t ∈ Try.f7.params.toList, Try.prog.readableRec t = true ∧ t < Try.prog.types.size := by
  rw [Try.params7]; intro t ht; simp at ht; rcases ht with rfl | rfl <;> exact ⟨by kernel_rfl, of_decide_eq_true (by kernel_rfl)⟩

theorem contract (H : Type) (enc : TypeId × Value → H) (F : Stop.Interp) (W : World) (base : Nat) (args : Array Value) (ds gs : List (DataW H)) (before : List MemPlace)
    (hval : ∀ (j : Nat) t v, Try.f7.params[j]? = some t → args[j]? = some v → Value.okWide Try.prog W .any base t v)
    (hW : DataW.Whole enc Try.prog Try.f7.params.toList Rows.viewReadsSpec.vars false W args.toList ds gs before) (hk : Rows.uptoSmall H (ds ++ gs) = true) :
    Calls Try.prog 7 args W fun e W' => ∃ v, e = .returned v ∧ Rows.viewReadsSpec.post enc Try.prog Try.f7 false true false false W args v W' := by
  have hW' := hW
  obtain ⟨p, q, hA, hV, rfl, hfz, hnd⟩ := hW
  have hgs : gs = [] ∧ q = [] := by
    rw [isLaw.1] at hV
    cases gs with
    | nil => exact ⟨rfl, hV⟩
    | cons _ _ => exact hV.elim
  obtain ⟨rfl, rfl⟩ := hgs
  rw [List.append_nil] at hk
  have hlen := LawFrame.trodAll_length hA
  have hfd : Rows.viewReadsSpec.fn H (ds ++ []) = { results := [.lit (.bool true)], args := ds } := by rw [List.append_nil]; exact isLaw.2 H ds (by rw [hlen, Try.params7]; rfl)
  refine (walk W args ds (of_decide_eq_true hk) base hval hA).mono fun e W' ⟨he, bel⟩ => ?_
  subst he
  refine ⟨_, rfl, ds, [], p ++ [], [], p, [], hW', ?_, ?_, ?_, bel.frame _, fun h => by cases h⟩
  · rw [hfd]
    exact trodAll_mk1 (shut_bool Try.underlying4 _)
  · rw [hfd]
    exact LawFrame.trodAll_below (by kernel_rfl) bel readable hA
  · rw [hfd, isLaw.1]; exact rfl

theorem lifted (os : Os) (started : os.Started) (H : Type) (enc : TypeId × Value → H) (F : Stop.Interp) :
    ReturnsInHanded {} Try.checked os 7 .any ((Rows.OpenSpec.upto Rows.viewReadsSpec).pre6 enc Try.prog Try.f7 Rows.viewReadsUptoRow.domain false) (((Rows.OpenSpec.upto Rows.viewReadsSpec).at F).post enc Try.prog Try.f7 false true false false) := by
  refine returnsInHanded_of_cond (C := Try.checked) (s := Rows.OpenSpec.upto Rows.viewReadsSpec) (k := Rows.uptoSmall) rfl (by kernel_rfl) started (by kernel_rfl) Try.func7
    (OpenSpec.witness (enc := enc) (C := Try.checked) (s := Rows.OpenSpec.upto Rows.viewReadsSpec) (k := Rows.uptoSmall) rfl false ⟨#[], #[.slice none 0 0, .slice none 0 0], []⟩ 8 (by kernel_rfl) (by kernel_rfl) (by kernel_rfl)
      (x := ([.nil, .nil], [], [])) (by kernel_rfl) rfl (by kernel_rfl)) ?_
  intro W base args ds gs before hval hW _ hk _
  exact contract H enc F W base args ds gs before hval hW hk

/-- ████ THE STATEMENT ████ -/
theorem proved : Rows.ViewReadsUptoSaid :=
  OpenClaim.holds_of_cond 7 Try.f7 rfl rfl rfl rfl rfl rfl rfl ⟨rfl, rfl, rfl, rfl, rfl⟩ rfl rfl rfl rfl rfl (by kernel_rfl) Try.func7 (by kernel_rfl)
    (of_decide_eq_true (by kernel_rfl)) (by unfold Func.isWrapper; first | (rw [if_pos (by decide +kernel)]; kernel_rfl) | (rw [if_neg (by decide +kernel)]; exact ⟨rfl, rfl⟩))
    (fun os started H enc _ F => lifted os started H enc F)
#print axioms proved
end Go.Proofs.Ytajaonnpekdklaa.viewReads
