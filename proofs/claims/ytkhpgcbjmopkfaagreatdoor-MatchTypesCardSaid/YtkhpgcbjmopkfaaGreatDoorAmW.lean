/-
  THE ABSTRACT MACHINE, part W: this program. No conditions.
-/
import Derived.Test.YtkhpgcbjmopkfaaGreatDoorAmV
import Derived.Test.YtkhpgcbjmopkfaaGreatDoorRows
import Derived.Tactics
import Derived.Tactics2
import Derived.Defers
import Derived.Recover
import Derived.RecoverIn
set_option linter.unusedVariables false
set_option linter.unusedSimpArgs false
set_option maxRecDepth 100000
namespace Go.Am
open Go Go.RowKit Go.Proofs Go.Proofs.YtkhpgcbjmopkfaaGreatDoor

mutual
def cellsD : DataW Unit → List AV
  | .lit l => [.val l.value]
  | .agg l => cellsDs l
  | _ => []
def cellsDs : List (DataW Unit) → List AV
  | [] => []
  | d :: r => cellsD d ++ cellsDs r
end

def memB (k : Nat) : List Nat → Bool
  | [] => false
  | a :: r => if Nat.beq k a then true else memB k r
noncomputable def gOf : Nat → Option AV
  | 0 => some (.rptr (cellsD Rows.laid_colonnade_kind_says) 0)
  | 1 => some (.rptr (cellsD Rows.laid_unicode_utf8_first) 0)
  | 2 => some (.rptr (cellsD Rows.laid_unicode_utf8_acceptRanges) 0)
  | _ => none
noncomputable def env (M : List (FuncId × List AV × AV)) (N : List (FuncId × List AV × St × AV × St)) : Env :=
  { P := Tryz.prog, G := gOf, D := fun f => Nat.beq f 116, C := fun k => if memB k [66, 61, 32, 39, 62, 63, 76, 80, 92] then false else true, O := fun k => memB k [66, 61, 32, 39, 62, 63, 76, 80, 92], M := M, N := N }

/-- No function of this program bears that name. -/
theorem names : NamesOk Tryz.prog := fun f fn hf _ => by
  have h : Tryz.prog.funcs.toList.all (fun fn => (fn.name == "runtime.NumGoroutine") == false) = true := by kernel_rfl
  have h2 := List.all_eq_true.1 h fn (by
    rw [← Array.getElem?_toList] at hf
    exact List.mem_of_getElem? hf)
  exact eq_of_beq h2

/-- The deferred function, where nothing panics. -/
theorem caught_idle : DefOk Tryz.prog 116 := by
  refine ⟨by kernel_rfl, fun args w => ?_⟩
  refine callsDIn_of_wpSIn Tryz.func116 rfl (by trivial) fun c₀ cs hu => ?_
  rw [Tryz.ntmps116]
  have hT : 18 ≤ (args ++ Array.replicate (18 - args.size) undef).size := by simp; omega
  generalize args ++ Array.replicate (18 - args.size) undef = T at hT ⊢
  apply wpSIn_seq
  apply wpSIn_region
  have h2 : 2 < T.size := by omega
  have h5 : 5 < T.size := by omega
  have h6 : 6 < T.size := by omega
  have h7 : 7 < T.size := by omega
  simp [wpOpsSIn, go_sem, recoverD, hu, Exit.thenS]
  refine ⟨fun _ _ => trivial, fun _ _ => trivial, ?_⟩
  apply wpSIn_seq
  apply wpSIn_region
  simp [wpOpsSIn, go_sem, Exit.thenS, Array.getD, h2, h5, h6, h7]
  refine ⟨fun _ _ => trivial, fun _ _ => trivial, ?_⟩
  refine wpSIn_cond (t := false) (by simp [Act.eval, Array.getD, h2, h5, h6, h7]) ?_
  simp only [Bool.false_eq_true, if_false]
  refine wpSIn_of_wpIn rfl (wpIn_skip ?_)
  cases c₀
  simp_all [bodyPostS, results, Tryz.results116]
  exact Same.refl w

theorem glob_closed : ∀ i a, gOf i = some a → closedA a = true := fun i a h => by
  match i, h with
  | 0, h => cases h; exact (show closedA (.rptr (cellsD Rows.laid_colonnade_kind_says) 0) = true by kernel_rfl)
  | 1, h => cases h; exact (show closedA (.rptr (cellsD Rows.laid_unicode_utf8_first) 0) = true by kernel_rfl)
  | 2, h => cases h; exact (show closedA (.rptr (cellsD Rows.laid_unicode_utf8_acceptRanges) 0) = true by kernel_rfl)
  | _ + 3, h => cases h

theorem env_nil : EnvOk (env [] []) where
  mixed := by kernel_rfl
  names := names
  glob := glob_closed
  memo := fun m h => by cases h
  memoN := fun m h => by cases h
  defer := fun f h => by
    have : f = 116 := Nat.eq_of_beq_eq_true h
    subst this
    exact caught_idle

theorem env_consC {M : List (FuncId × List AV × AV)} {N : List (FuncId × List AV × St × AV × St)} (h : EnvOk (env M N)) {n : Nat} {c : FuncId × List AV × AV} (hc : callC0 (env M N) (evN (env M N) n).r.call c.1 c.2.1 = some c.2.2) : EnvOk (env (c :: M) N) where
  mixed := h.mixed
  names := h.names
  glob := h.glob
  memo := fun m hm => by
    rcases List.mem_cons.1 hm with rfl | hm
    · exact closed_of_eval h hc
    · exact h.memo m hm
  memoN := h.memoN
  defer := h.defer

theorem env_consN {M : List (FuncId × List AV × AV)} {N : List (FuncId × List AV × St × AV × St)} (h : EnvOk (env M N)) {n : Nat} {c : FuncId × List AV × St × AV × St} (hc : (evN (env M N) n).r.call c.1 c.2.1 c.2.2.1 = some c.2.2.2) : EnvOk (env M (c :: N)) where
  mixed := h.mixed
  names := h.names
  glob := h.glob
  memo := h.memo
  memoN := fun m hm => by
    rcases List.mem_cons.1 hm with rfl | hm
    · exact open_of_eval h hc
    · exact h.memoN m hm
  defer := h.defer

end Go.Am
