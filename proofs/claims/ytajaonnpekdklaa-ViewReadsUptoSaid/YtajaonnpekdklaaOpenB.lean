import Derived.Test.YtajaonnpekdklaaOpen
import Derived.Test.YtajaonnpekdklaaMem
set_option linter.unusedVariables false
set_option maxRecDepth 100000
/-! BYTES AS AN ARGUMENT. -/
namespace Go.Proofs.Ytajaonnpekdklaa.Open
open Go.ChangeShapes Go.WideShapes Go.ChangeAt Go.RowKit Go.Deep Mem

section
variable {H : Type} {enc : TypeId × Value → H} {P : Program} {w : World}
theorem bytes {t : TypeId} {q : Option Addr} {len cap : Nat} {d : DataW H} {ps : List MemPlace} (ht : P.underlying t = some (.slice 5)) (h5 : P.underlying 5 = some (.int .u8)) (he : P.cellsOf 5 = 1)
    (h : DataW.Trod enc P w 0 (fun _ => true) true t (.slice q len cap) d ps) :
    ∃ bs : List UInt8, bs.length = len ∧ Rd (fun _ => 0) 0 w 1 (.slice q len cap) len (bs.map byt) := by
  obtain ⟨hl, hm, CS, D, n, hel, _⟩ := Open.slice ht (by omega) h
  rw [he] at hel
  obtain ⟨bs, hbl, hb⟩ := Open.list_of (n := len) (p := fun i b => CS i = [byt b]) (fun i hi => by
    obtain ⟨h1, ⟨Pl, h2⟩, _⟩ := hel i hi
    obtain ⟨x, hx⟩ : ∃ x, CS i = [x] := by
      match hc : CS i, h1 with
      | [x], _ => exact ⟨x, rfl⟩
    rw [hx] at h2
    obtain ⟨a, e0, _, w0⟩ := DataW.trod_int h5 h2
    simp at e0
    subst e0
    have b0 := bounds_u8 w0
    refine ⟨UInt8.ofNat a.toNat, ?_⟩
    rw [hx]
    unfold byt
    have : ((UInt8.ofNat a.toNat).toNat : Int) = a := by
      rw [UInt8.toNat_ofNat']; omega
    rw [this])
  refine ⟨bs, hbl, by simp [hbl], q, cap, rfl, hl, hm, fun j u hj => ?_⟩
  have hjl : j < bs.length := by
    have := (List.getElem?_eq_some_iff.1 hj).1
    simpa using this
  obtain ⟨_, _, b, off, hq, hc⟩ := hel j (by omega)
  refine ⟨b, off, hq, rfl, ?_⟩
  have h1 := hc 0 (by omega)
  rw [hb j hjl] at h1
  rw [List.getElem?_map, List.getElem?_eq_getElem hjl] at hj
  rw [← hj]
  simpa using h1
end
end Go.Proofs.Ytajaonnpekdklaa.Open
