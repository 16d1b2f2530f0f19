import Derived.Test.YtcllfbhlnjgomaaGreatDoorAmE
import Derived.Laws.Tables
import Derived.Great.BuildSlice
set_option linter.unusedVariables false
set_option linter.unusedSimpArgs false
/-!
  THE ABSTRACT MACHINE, part F: operations that ask nothing of the world, one by one.
-/
namespace Go.Am
open Go Go.RowKit

theorem blt_lt {i n : Nat} (h : Nat.blt i n = true) : i < n := by rw [Nat.blt_eq] at h; exact h

def asN : AV → Option Nat
  | .val (.int _ n) => match n with
    | .ofNat k => some k
    | _ => none
  | _ => none
theorem asN_of {g : Gh} {w : World} {a : AV} {v : Value} {n : Nat} (h : asN a = some n) (hr : Rep g w a v) : ∃ k, v = .int k (n : Int) := by
  unfold asN at h
  split at h
  · rename_i k m
    split at h
    · cases h; simp only [Rep] at hr; exact ⟨k, hr⟩
    · cases h
  · cases h

/-- A field's address. -/
def fieldAddrA (P : Program) (t : TypeId) (x : AV) (i : Nat) : Option AV :=
  match P.underlying t with
  | some (.struct fs) => match fs[i]? with
    | some f => match szOf P f.type with
      | some (_ + 1) => match x with
        | .ptr id off => some (.ptr id (off + f.offset))
        | .rptr cs off => some (.rptr cs (off + f.offset))
        | _ => none
      | _ => none
    | none => none
  | _ => none

theorem yld_fieldPlace {P : Program} {b o n : Nat} {f : Field} (h : szOf P f.type = some (n + 1)) : Yld P (fieldPlace ⟨b, o, none⟩ f) ⟨b, o + f.offset, none⟩ := by
  unfold fieldPlace
  refine (yld_sizeOf h).bind ?_
  simp only [Nat.add_one_ne_zero, if_false, Addr.add_lit]
  exact Yld.pure _

theorem yld_fieldAt {P : Program} {t : TypeId} {fs : Array Field} {f : Field} {i n b o : Nat} (hu : P.underlying t = some (.struct fs)) (hf : fs[i]? = some f) (hn : szOf P f.type = some (n + 1)) :
    Yld P (Instr.fieldAt t (.pointer (some ⟨b, o, none⟩)) i) (.pointer (some ⟨b, o + f.offset, none⟩)) := by
  unfold Instr.fieldAt
  refine (yld_underlying hu).bind ?_
  simp only [hf, Instr.sureAddr]
  refine (Yld.pure _).bind ((yld_fieldPlace hn).bind (Yld.pure _))

theorem fieldAddr_sound {P : Program} {g : Gh} {w : World} {t : TypeId} {x r : AV} {i : Nat} {v : Value} (h : fieldAddrA P t x i = some r) (hr : Rep g w x v) :
    ∃ u, Yld P (Instr.fieldAt t v i) u ∧ Rep g w r u := by
  unfold fieldAddrA at h
  split at h
  · rename_i fs hu
    split at h
    · rename_i f hf
      split at h
      · rename_i n hn
        split at h
        · cases h
          simp only [Rep] at hr
          obtain ⟨h1, rfl⟩ := hr
          exact ⟨_, yld_fieldAt hu hf hn, by simp [Rep, h1]⟩
        · cases h
          simp only [Rep] at hr
          obtain ⟨b, o, vs, rfl, h2, h3⟩ := hr
          exact ⟨_, yld_fieldAt hu hf hn, by simp only [Rep]; exact ⟨b, o, vs, by rw [Nat.add_assoc], h2, h3⟩⟩
        · cases h
      · cases h
    · cases h
  · cases h

/-- A field of a value. -/
def fieldA (P : Program) (t : TypeId) (x : AV) (i : Nat) : Option AV :=
  match P.underlying t with
  | some (.struct fs) => match fs[i]? with
    | some f => match x with
      | .agg cs => partA P f.type cs f.offset
      | _ => none
    | none => none
  | _ => none
theorem field_sound {P : Program} {g : Gh} {w : World} {t : TypeId} {x r : AV} {i : Nat} {v : Value} (h : fieldA P t x i = some r) (hr : Rep g w x v) :
    ∃ u, Yld P (Instr.field t v i) u ∧ Rep g w r u := by
  unfold fieldA at h
  split at h
  · rename_i fs hu
    split at h
    · rename_i f hf
      split at h
      · simp only [Rep] at hr
        obtain ⟨vs, rfl, h2⟩ := hr
        obtain ⟨u, hy, hru⟩ := part_sound h h2
        refine ⟨u, ?_, hru⟩
        unfold Instr.field
        refine (yld_underlying hu).bind ?_
        simp only [hf, asAgg]
        exact (Yld.pure _).bind hy
      · cases h
    · cases h
  · cases h

/-- An element's address. -/
def indexAddrA (P : Program) (t : TypeId) (x ix : AV) : Option AV :=
  match asN ix with
  | some i => match P.underlying t with
    | some (.slice elem) => match szOf P elem with
      | some size => match x with
        | .imm n cs _ => if Nat.blt i n then some (.rptr cs (i * size)) else none
        | .mut id off n _ => if Nat.blt i n then some (.ptr id (off + i * size)) else none
        | _ => none
      | none => none
    | some (.array n elem) => match szOf P elem with
      | some size => if Nat.blt i n then
          match x with
          | .ptr id off => some (.ptr id (off + i * size))
          | .rptr cs off => some (.rptr cs (off + i * size))
          | _ => none
        else none
      | none => none
    | _ => none
  | none => none

theorem yld_indexAt_slice {P : Program} {t elem : TypeId} {size i n cap b o : Nat} {k : IntKind} (hu : P.underlying t = some (.slice elem)) (hs : szOf P elem = some size) (hi : i < n) :
    Yld P (Instr.indexAt t (.slice (some ⟨b, o, none⟩) n cap) (.int k i)) (.pointer (some ⟨b, o + i * size, none⟩)) := by
  intro w
  have h1 := yld_sizeOf hs w
  have h2 : (0 : Int) ≤ (i : Int) ∧ (i : Int) < (n : Int) := ⟨by omega, by omega⟩
  simp [Instr.indexAt, asIntOf, run_underlying hu, h1, hi, Addr.add_lit]
theorem yld_indexAt_array {P : Program} {t elem : TypeId} {size i n b o : Nat} {k : IntKind} (hu : P.underlying t = some (.array n elem)) (hs : szOf P elem = some size) (hi : i < n) :
    Yld P (Instr.indexAt t (.pointer (some ⟨b, o, none⟩)) (.int k i)) (.pointer (some ⟨b, o + i * size, none⟩)) := by
  intro w
  have h1 := yld_sizeOf hs w
  simp [Instr.indexAt, asIntOf, run_underlying hu, h1, hi, Addr.add_lit, Instr.sureAddr]

theorem indexAddr_sound {P : Program} {g : Gh} {w : World} {t : TypeId} {x ix r : AV} {v vi : Value} (h : indexAddrA P t x ix = some r) (hr : Rep g w x v) (hi : Rep g w ix vi) :
    ∃ u, Yld P (Instr.indexAt t v vi) u ∧ Rep g w r u := by
  unfold indexAddrA at h
  split at h
  · rename_i i hn
    obtain ⟨k, rfl⟩ := asN_of hn hi
    split at h
    · rename_i elem hu
      split at h
      · rename_i size hs
        split at h
        · split at h
          · rename_i hlt
            cases h
            have hlt := blt_lt hlt
            simp only [Rep] at hr
            obtain ⟨b, o, cap, vs, rfl, h1, h2, h3, h4, h5⟩ := hr
            exact ⟨_, yld_indexAt_slice hu hs hlt, by simp only [Rep]; exact ⟨b, o, vs, rfl, h3, h4⟩⟩
          · cases h
        · split at h
          · rename_i hlt
            cases h
            have hlt := blt_lt hlt
            simp only [Rep] at hr
            obtain ⟨h1, rfl, h3⟩ := hr
            exact ⟨_, yld_indexAt_slice hu hs hlt, by simp [Rep, h1]⟩
          · cases h
        · cases h
      · cases h
    · rename_i n elem hu
      split at h
      · rename_i size hs
        split at h
        · rename_i hlt
          have hlt := blt_lt hlt
          split at h
          · cases h
            simp only [Rep] at hr
            obtain ⟨h1, rfl⟩ := hr
            exact ⟨_, yld_indexAt_array hu hs hlt, by simp [Rep, h1]⟩
          · cases h
            simp only [Rep] at hr
            obtain ⟨b, o, vs, rfl, h3, h4⟩ := hr
            exact ⟨_, yld_indexAt_array hu hs hlt, by simp only [Rep]; exact ⟨b, o, vs, by rw [Nat.add_assoc], h3, h4⟩⟩
          · cases h
        · cases h
      · cases h
    · cases h
  · cases h

/-- An element of a value. -/
def indexA (P : Program) (t : TypeId) (x ix : AV) : Option AV :=
  match asN ix with
  | some i => match P.underlying t with
    | some .string => match x with
      | .val (.string b) => match b.data[i]? with
        | some c => some (.val (.int .u8 c.toNat))
        | none => none
      | _ => none
    | some (.array n elem) => match szOf P elem with
      | some size => match x with
        | .agg cs => if Nat.blt i n then partA P elem cs (i * size) else none
        | _ => none
      | none => none
    | _ => none
  | none => none
theorem index_sound {P : Program} {g : Gh} {w : World} {t : TypeId} {x ix r : AV} {v vi : Value} (h : indexA P t x ix = some r) (hr : Rep g w x v) (hi : Rep g w ix vi) :
    ∃ u, Yld P (Instr.index t v vi) u ∧ Rep g w r u := by
  unfold indexA at h
  split at h
  · rename_i i hn
    obtain ⟨k, rfl⟩ := asN_of hn hi
    split at h
    · rename_i hu
      split at h
      · rename_i b
        split at h
        · rename_i c hc
          cases h
          simp only [Rep] at hr
          subst hr
          refine ⟨.int .u8 c.toNat, fun w' => ?_, by simp only [Rep]⟩
          have : b[i]? = some c := by
            simp only [Array.getElem?_eq_some_iff] at hc
            obtain ⟨hlt, hc⟩ := hc
            have hlt' : i < b.size := hlt
            rw [getElem?_pos b i hlt']
            rw [← hc]; rfl
          simp [Instr.index, asIntOf, run_underlying hu, this]
        · cases h
      · cases h
    · rename_i n elem hu
      split at h
      · rename_i size hs
        split at h
        · split at h
          · rename_i hlt
            have hlt := blt_lt hlt
            simp only [Rep] at hr
            obtain ⟨vs, rfl, h2⟩ := hr
            obtain ⟨u, hy, hru⟩ := part_sound h h2
            refine ⟨u, fun w' => ?_, hru⟩
            have h1 := yld_sizeOf hs w'
            simp [Instr.index, asIntOf, run_underlying hu, h1, hlt, hy w']
          · cases h
        · cases h
      · cases h
    · cases h
  · cases h

def extractA (x : AV) (i : Nat) : Option AV :=
  match x with
  | .tuple vs => vs[i]?
  | _ => none
theorem extract_sound {P : Program} {g : Gh} {w : World} {x r : AV} {i : Nat} {v : Value} (h : extractA x i = some r) (hr : Rep g w x v) :
    ∃ u, Yld P (Instr.extract v i) u ∧ Rep g w r u := by
  unfold extractA at h
  split at h
  · simp only [Rep] at hr
    obtain ⟨vs, rfl, h2⟩ := hr
    obtain ⟨u, hu, hru⟩ := h2.get h
    refine ⟨u, fun w' => ?_, hru⟩
    simp [Instr.extract, hu]
  · cases h

/-- Which are nil? -/
def isNilA : AV → Option Bool
  | .val (.pointer none) => some true
  | .val (.slice none _ _) => some true
  | .val (.map none) => some true
  | .val .nilFunc => some true
  | .val .nilIface => some true
  | .ptr _ _ => some false
  | .rptr _ _ => some false
  | .imm _ _ _ => some false
  | .mut _ _ _ _ => some false
  | .map _ => some false
  | .func _ _ _ => some false
  | .iface _ _ => some false
  | _ => none

def lenA : AV → Option Nat
  | .val (.slice none n _) => some n
  | .val (.string b) => some b.size
  | .imm n _ _ => some n
  | .mut _ _ n _ => some n
  | _ => none

def makeIfaceA (P : Program) (t : TypeId) (x : AV) : Option AV :=
  match P.underlying t with
  | some (.interface _) => none
  | some _ => some (.iface t x)
  | none => none
theorem makeIface_sound {P : Program} {g : Gh} {w : World} {t : TypeId} {x r : AV} {v : Value} (h : makeIfaceA P t x = some r) (hr : Rep g w x v) :
    ∃ u, Yld P (Instr.makeInterface t v) u ∧ Rep g w r u := by
  unfold makeIfaceA at h
  split at h
  · cases h
  · rename_i d hne hu
    cases h
    refine ⟨.iface t v, fun w' => ?_, by simp only [Rep]; exact ⟨v, rfl, hr⟩⟩
    cases d <;> simp_all [Instr.makeInterface, run_underlying hu]
  · cases h

def lenOpA (P : Program) (t : TypeId) (x : AV) : Option AV :=
  match P.underlying t with
  | some (.slice _) => match x with
    | .val (.slice none n _) => some (.val (goInt n))
    | .imm n _ _ => some (.val (goInt n))
    | .mut _ _ n _ => some (.val (goInt n))
    | _ => none
  | some .string => match x with
    | .val (.string b) => some (.val (goInt b.size))
    | _ => none
  | some (.array n _) => some (.val (goInt n))
  | _ => none
theorem len_sound {P : Program} {g : Gh} {w : World} {t ty : TypeId} {x r : AV} {v : Value} (h : lenOpA P t x = some r) (hr : Rep g w x v) :
    ∃ u, Yld P (Builtin.len_ #[t] ty #[v]) u ∧ Rep g w r u := by
  unfold lenOpA at h
  split at h
  · rename_i e hu
    split at h
    · rename_i n c
      cases h
      simp only [Rep] at hr; subst hr
      exact ⟨goInt n, fun w' => by simp [Builtin.len_, run_underlying hu], by simp only [Rep]⟩
    · rename_i n cs c
      cases h
      simp only [Rep] at hr
      obtain ⟨b, o, cap, vs, rfl, _⟩ := hr
      exact ⟨goInt n, fun w' => by simp [Builtin.len_, run_underlying hu], by simp only [Rep]⟩
    · rename_i i off n cap
      cases h
      simp only [Rep] at hr
      obtain ⟨_, rfl, _⟩ := hr
      exact ⟨goInt n, fun w' => by simp [Builtin.len_, run_underlying hu], by simp only [Rep]⟩
    · cases h
  · rename_i hu
    split at h
    · rename_i b
      cases h
      simp only [Rep] at hr; subst hr
      exact ⟨goInt b.size, fun w' => by simp [Builtin.len_, run_underlying hu], by simp only [Rep]⟩
    · cases h
  · rename_i n e hu
    cases h
    exact ⟨goInt n, fun w' => by simp [Builtin.len_, run_underlying hu], by simp only [Rep]⟩
  · cases h

end Go.Am
