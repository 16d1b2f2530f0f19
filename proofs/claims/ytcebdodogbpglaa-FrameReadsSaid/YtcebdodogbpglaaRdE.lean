import Derived.Test.YtcebdodogbpglaaRdC
set_option linter.unusedVariables false
/-! WHAT A SCAN COMES TO. -/
namespace Go.Proofs.Ytcebdodogbpglaa.Rdr
open Put

structure Scan where
  q : List (List UInt8 × List UInt8)
  t : List UInt8
  w : Int
  e : Bool

theorem sizeV_pos (b : List UInt8) : 24 ≤ sizeV b := by unfold sizeV fromV; omega

def scanF (lm lb : Nat) (en : Bool) (b : List UInt8) : Scan :=
  if h : b = [] then ⟨[], [], 0, en⟩
  else if en = true then ⟨[], [], 74, true⟩
  else if lookE b lm lb ≠ 0 then ⟨[], [], lookE b lm lb, false⟩
  else if h2 : lookN b lm lb = 0 ∨ b.length < lookN b lm lb then ⟨[], b, 0, false⟩
  else if b[3]? = some 48 then scanF lm lb true (b.drop (lookN b lm lb))
  else ⟨(seg b 24 (n4 b 4), seg b (fromV b) (n4 b 8)) :: (scanF lm lb false (b.drop (lookN b lm lb))).q, (scanF lm lb false (b.drop (lookN b lm lb))).t, (scanF lm lb false (b.drop (lookN b lm lb))).w, (scanF lm lb false (b.drop (lookN b lm lb))).e⟩
termination_by b.length
decreasing_by all_goals (simp only [List.length_drop]; omega)

def pre (qs : List (List UInt8 × List UInt8)) (s : Scan) : Scan := ⟨qs ++ s.q, s.t, s.w, s.e⟩

section
variable {lm lb : Nat} {b : List UInt8}
theorem scan_nil (en : Bool) : scanF lm lb en [] = ⟨[], [], 0, en⟩ := by rw [scanF, dif_pos rfl]
theorem scan_tail (h : b ≠ []) : scanF lm lb true b = ⟨[], [], 74, true⟩ := by rw [scanF, dif_neg h, if_pos rfl]
theorem scan_bad (h : b ≠ []) (hE : lookE b lm lb ≠ 0) : scanF lm lb false b = ⟨[], [], lookE b lm lb, false⟩ := by rw [scanF, dif_neg h, if_neg (by simp), if_pos hE]
theorem scan_wait (h : b ≠ []) (hE : lookE b lm lb = 0) (hN : lookN b lm lb = 0 ∨ b.length < lookN b lm lb) : scanF lm lb false b = ⟨[], b, 0, false⟩ := by rw [scanF, dif_neg h, if_neg (by simp), if_neg (by simp [hE]), dif_pos hN]
theorem scan_end (h : b ≠ []) (hE : lookE b lm lb = 0) (hN : ¬ (lookN b lm lb = 0 ∨ b.length < lookN b lm lb)) (h3 : b[3]? = some 48) : scanF lm lb false b = scanF lm lb true (b.drop (lookN b lm lb)) := by
  rw [scanF, dif_neg h, if_neg (by simp), if_neg (by simp [hE]), dif_neg hN, if_pos h3]
theorem scan_one (h : b ≠ []) (hE : lookE b lm lb = 0) (hN : ¬ (lookN b lm lb = 0 ∨ b.length < lookN b lm lb)) (h3 : ¬ b[3]? = some 48) : scanF lm lb false b = pre [(seg b 24 (n4 b 4), seg b (fromV b) (n4 b 8))] (scanF lm lb false (b.drop (lookN b lm lb))) := by
  rw [scanF, dif_neg h, if_neg (by simp), if_neg (by simp [hE]), dif_neg hN, if_neg h3]; rfl
theorem pre_pre (x y : List (List UInt8 × List UInt8)) (s : Scan) : pre x (pre y s) = pre (x ++ y) s := by simp [pre]
theorem pre_nil (s : Scan) : pre [] s = s := rfl
end

end Go.Proofs.Ytcebdodogbpglaa.Rdr
