import Derived.Test.YtkhpgcbjmopkfaaGreatDoorAmG
import Derived.Laws.MakeOwn
import Derived.MapKept
import Derived.Deep.AppendSrc
set_option linter.unusedVariables false
set_option linter.unusedSimpArgs false
/-!
  THE ABSTRACT MACHINE, part H: reckoning with plain values; comparing with nil; slicing.
-/
namespace Go.Am
open Go Go.RowKit

def plainAll : List AV → Option (List Value)
  | [] => some []
  | .val v :: r => match plainAll r with
    | some q => some (v :: q)
    | none => none
  | _ => none
theorem plainAll_of {g : Gh} {w : World} : ∀ {cs : List AV} {us vs : List Value}, plainAll cs = some us → RepAll g w cs vs → vs = us
  | [], us, vs, h, hr => by simp only [plainAll, Option.some.injEq] at h; subst h; simpa [RepAll] using hr
  | a :: r, us, vs, h, hr => by
    cases a with
    | val v =>
      simp only [plainAll] at h
      split at h
      · rename_i q hq
        cases h
        simp only [RepAll, Rep] at hr
        obtain ⟨_, q', rfl, rfl, h2⟩ := hr
        rw [plainAll_of hq h2]
      · cases h
    | _ => simp [plainAll] at h

/-- A value in which nothing is symbolic. -/
def valOf : AV → Option Value
  | .val v => some v
  | .agg cs => match plainAll cs with
    | some vs => some (.agg vs.toArray)
    | none => none
  | _ => none
theorem valOf_of {g : Gh} {w : World} {a : AV} {u v : Value} (h : valOf a = some u) (hr : Rep g w a v) : v = u := by
  cases a with
  | val x => simp only [valOf, Option.some.injEq] at h; subst h; simpa [Rep] using hr
  | agg cs =>
    simp only [valOf] at h
    split at h
    · rename_i vs hvs
      cases h
      simp only [Rep] at hr
      obtain ⟨us, rfl, h2⟩ := hr
      rw [plainAll_of hvs h2]
    · cases h
  | _ => simp [valOf] at h

def ofVal : Value → AV
  | .agg cs => .agg (cs.toList.map .val)
  | v => .val v
theorem ofVal_rep (g : Gh) (w : World) (v : Value) : Rep g w (ofVal v) v := by
  cases v with
  | agg cs => simp only [ofVal, Rep]; exact ⟨cs.toList, rfl, repAll_vals _⟩
  | _ => simp [ofVal, Rep]

/-- Is it a comparison of something that is there with nil? -/
def nilCmp (P : Program) (t : TypeId) (x y : AV) : Bool :=
  match P.underlying t with
  | some (.slice _) => match x, y with
    | .imm _ _ _, .val (.slice none _ _) => true
    | .mut _ _ _ _, .val (.slice none _ _) => true
    | .val (.slice none _ _), .imm _ _ _ => true
    | .val (.slice none _ _), .mut _ _ _ _ => true
    | _, _ => false
  | some (.pointer _) => match x, y with
    | .ptr _ _, .val (.pointer none) => true
    | .rptr _ _, .val (.pointer none) => true
    | .val (.pointer none), .ptr _ _ => true
    | .val (.pointer none), .rptr _ _ => true
    | _, _ => false
  | some (.map _ _) => match x, y with
    | .map _, .val (.map none) => true
    | _, _ => false
  | some (.interface _) => match x, y with
    | .iface _ _, .val .nilIface => true
    | .val .nilIface, .iface _ _ => true
    | _, _ => false
  | some (.func _ _ _) => match x, y with
    | .func _ _ _, .val .nilFunc => true
    | .yield _, .val .nilFunc => true
    | .val .nilFunc, .func _ _ _ => true
    | _, _ => false
  | _ => false

theorem equal_of_nilCmp {P : Program} {g : Gh} {w : World} {t : TypeId} {x y : AV} {u v : Value} (h : nilCmp P t x y = true) (hx : Rep g w x u) (hy : Rep g w y v) : Yld P (Op.equal t u v) false := by
  intro w'
  suffices H : ∀ d, (Op.equalIn (d + 1) t u v).run P w' = .ok false w' from H 9999
  intro d
  unfold nilCmp at h
  split at h <;> rename_i hu
  · split at h <;> (try simp only [Rep] at hx hy)
    · obtain ⟨_, _, _, _, rfl, _⟩ := hx; subst hy; simp [Op.equalIn, run_underlying hu]
    · obtain ⟨_, rfl, _⟩ := hx; subst hy; simp [Op.equalIn, run_underlying hu]
    · obtain ⟨_, _, _, _, rfl, _⟩ := hy; subst hx; simp [Op.equalIn, run_underlying hu]
    · obtain ⟨_, rfl, _⟩ := hy; subst hx; simp [Op.equalIn, run_underlying hu]
    · cases h
  · split at h <;> (try simp only [Rep] at hx hy)
    · obtain ⟨_, rfl⟩ := hx; subst hy; simp [Op.equalIn, run_underlying hu]
    · obtain ⟨_, _, _, rfl, _⟩ := hx; subst hy; simp [Op.equalIn, run_underlying hu]
    · obtain ⟨_, rfl⟩ := hy; subst hx; simp [Op.equalIn, run_underlying hu]
    · obtain ⟨_, _, _, rfl, _⟩ := hy; subst hx; simp [Op.equalIn, run_underlying hu]
    · cases h
  · split at h <;> (try simp only [Rep] at hx hy)
    · obtain ⟨_, rfl⟩ := hx; subst hy; simp [Op.equalIn, run_underlying hu]
    · cases h
  · split at h <;> (try simp only [Rep] at hx hy)
    · obtain ⟨_, rfl, _⟩ := hx; subst hy; simp [Op.equalIn, run_underlying hu]
    · obtain ⟨_, rfl, _⟩ := hy; subst hx; simp [Op.equalIn, run_underlying hu]
    · cases h
  · split at h <;> (try simp only [Rep] at hx hy)
    · obtain ⟨_, _, rfl, _⟩ := hx; subst hy; simp [Op.equalIn, run_underlying hu]
    · obtain ⟨_, rfl⟩ := hx; subst hy; simp [Op.equalIn, run_underlying hu]
    · obtain ⟨_, _, rfl, _⟩ := hy; subst hx; simp [Op.equalIn, run_underlying hu]
    · cases h
  · cases h

/-- Neither of the two is a nil interface beside another, nor are both structs or arrays: the guard is quiet, and the operator goes by equality. -/
def quietTwo : Value → Value → Bool
  | .slice _ _ _, .slice _ _ _ => true
  | .pointer _, .pointer _ => true
  | .map _, .map _ => true
  | .iface _ _, .nilIface => true
  | .nilIface, .iface _ _ => true
  | .func _ _ _, .nilFunc => true
  | .nilFunc, .func _ _ _ => true
  | _, _ => false
theorem quiet_of_nilCmp {P : Program} {g : Gh} {w : World} {t : TypeId} {x y : AV} {u v : Value} (h : nilCmp P t x y = true) (hx : Rep g w x u) (hy : Rep g w y v) : quietTwo u v = true := by
  unfold nilCmp at h
  split at h
  · split at h <;> (try simp only [Rep] at hx hy)
    · obtain ⟨_, _, _, _, rfl, _⟩ := hx; subst hy; rfl
    · obtain ⟨_, rfl, _⟩ := hx; subst hy; rfl
    · obtain ⟨_, _, _, _, rfl, _⟩ := hy; subst hx; rfl
    · obtain ⟨_, rfl, _⟩ := hy; subst hx; rfl
    · cases h
  · split at h <;> (try simp only [Rep] at hx hy)
    · obtain ⟨_, rfl⟩ := hx; subst hy; rfl
    · obtain ⟨_, _, _, rfl, _⟩ := hx; subst hy; rfl
    · obtain ⟨_, rfl⟩ := hy; subst hx; rfl
    · obtain ⟨_, _, _, rfl, _⟩ := hy; subst hx; rfl
    · cases h
  · split at h <;> (try simp only [Rep] at hx hy)
    · obtain ⟨_, rfl⟩ := hx; subst hy; rfl
    · cases h
  · split at h <;> (try simp only [Rep] at hx hy)
    · obtain ⟨_, rfl, _⟩ := hx; subst hy; rfl
    · obtain ⟨_, rfl, _⟩ := hy; subst hx; rfl
    · cases h
  · split at h <;> (try simp only [Rep] at hx hy)
    · obtain ⟨_, _, rfl, _⟩ := hx; subst hy; rfl
    · obtain ⟨_, rfl⟩ := hx; subst hy; rfl
    · obtain ⟨_, _, rfl, _⟩ := hy; subst hx; rfl
    · cases h
  · cases h

theorem yld_eql_quiet {P : Program} {t : TypeId} {xo yo : Operand} {u v : Value} {b : Bool} (hq : quietTwo u v = true) (h : Yld P (Op.equal t u v) b) :
    Yld P (do eqGuard .eql t xo yo u v; binOp .eql t u v) (.bool b) ∧ Yld P (do eqGuard .neq t xo yo u v; binOp .neq t u v) (.bool (!b)) := by
  unfold quietTwo at hq
  split at hq <;> first
    | exact absurd hq (by decide)
    | exact ⟨fun w => by have := h w; simp [eqGuard, binOp, this], fun w => by have := h w; simp [eqGuard, binOp, this]⟩

/-- An operator on two operands. -/
def binA (P : Program) (op : BinOp) (t : TypeId) (xo yo : Operand) (x y : AV) : Option AV :=
  match valOf x, valOf y with
  | some u, some v => match pureOf P (do eqGuard op t xo yo u v; binOp op t u v) with
    | some r => some (.val r)
    | none => none
  | _, _ => if nilCmp P t x y then
      match op with
      | .eql => some (.val (.bool false))
      | .neq => some (.val (.bool true))
      | _ => none
    else none
theorem bin_sound {P : Program} {g : Gh} {w : World} {op : BinOp} {t : TypeId} {xo yo : Operand} {x y r : AV} {u v : Value} (h : binA P op t xo yo x y = some r) (hx : Rep g w x u) (hy : Rep g w y v) :
    ∃ z, Yld P (do eqGuard op t xo yo u v; binOp op t u v) z ∧ Rep g w r z := by
  unfold binA at h
  split at h
  · rename_i u' v' h1 h2
    have e1 := valOf_of h1 hx
    have e2 := valOf_of h2 hy
    subst e1 e2
    split at h
    · rename_i z hz
      cases h
      exact ⟨z, pureOf_run hz, by simp [Rep]⟩
    · cases h
  · split at h
    · rename_i hn
      have he := equal_of_nilCmp hn hx hy
      have hq := quiet_of_nilCmp hn hx hy
      obtain ⟨y1, y2⟩ := yld_eql_quiet (xo := xo) (yo := yo) hq he
      split at h
      · cases h; exact ⟨_, y1, by simp [Rep]⟩
      · cases h; exact ⟨_, y2, by simp [Rep]⟩
      · cases h
    · cases h

def unA (P : Program) (op : UnOp) (x : AV) : Option AV :=
  match valOf x with
  | some u => match pureOf P (Op.unary op u) with
    | some r => some (.val r)
    | none => none
  | none => none
theorem un_sound {P : Program} {g : Gh} {w : World} {op : UnOp} {x r : AV} {u : Value} (h : unA P op x = some r) (hx : Rep g w x u) : ∃ z, Yld P (Op.unary op u) z ∧ Rep g w r z := by
  unfold unA at h
  split at h
  · rename_i u' h1
    have e1 := valOf_of h1 hx
    subst e1
    split at h
    · rename_i z hz; cases h; exact ⟨z, pureOf_run hz, by simp [Rep]⟩
    · cases h
  · cases h

def convA (P : Program) (src dst : TypeId) (x : AV) : Option AV :=
  match valOf x with
  | some u => match pureOf P (convert src dst u) with
    | some r => some (.val r)
    | none => none
  | none => none
theorem conv_sound {P : Program} {g : Gh} {w : World} {src dst : TypeId} {x r : AV} {u : Value} (h : convA P src dst x = some r) (hx : Rep g w x u) : ∃ z, Yld P (convert src dst u) z ∧ Rep g w r z := by
  unfold convA at h
  split at h
  · rename_i u' h1
    have e1 := valOf_of h1 hx
    subst e1
    split at h
    · rename_i z hz; cases h; exact ⟨z, pureOf_run hz, by simp [Rep]⟩
    · cases h
  · cases h

/-! ### Slicing -/

/-- A bound, or what stands for it where there is none. -/
def asNO (d : Nat) : Option AV → Option Nat
  | none => some d
  | some a => asN a
def valO : Option AV → Option (Option Value)
  | none => some none
  | some a => match valOf a with
    | some v => some (some v)
    | none => none
theorem valO_of {g : Gh} {w : World} {a : Option AV} {u v : Option Value} (h : valO a = some u) (hr : ORepO g w a v) : v = u := by
  cases a with
  | none => simp only [valO, Option.some.injEq] at h; subst h; exact hr
  | some a =>
    simp only [valO] at h
    split at h
    · rename_i x hx; cases h; obtain ⟨y, rfl, h2⟩ := hr; rw [valOf_of hx h2]
    · cases h

theorem yld_sliceBound {P : Program} {k : IntKind} {n y : Nat} {c : BoundsCode} (h : n ≤ y) : Yld P (Instr.sliceBound (.int k n) y c) n := fun w => by
  have : (n : Int) ≤ (y : Int) := by omega
  simp [Instr.sliceBound, asIntOf, h]

/-- No third bound: from l to h, in a list with room for cap. -/
theorem yld_sliceBounds {P : Program} {g : Gh} {w : World} {s : Bool} {len cap l h : Nat} {lo hi : Option AV} {vl vh : Option Value} (hl : asNO 0 lo = some l) (hh : asNO len hi = some h) (rl : ORepO g w lo vl) (rh : ORepO g w hi vh) (h1 : l ≤ h) (h2 : h ≤ cap) :
    Yld P (Instr.sliceBounds s len cap vl vh none) (l, h, cap) := fun w' => by
  cases lo with
  | none =>
    simp only [asNO, Option.some.injEq] at hl; subst hl
    cases hi with
    | none =>
      simp only [asNO, Option.some.injEq] at hh; subst hh
      cases rl; cases rh
      simp [Instr.sliceBounds]
    | some b =>
      cases rl
      obtain ⟨u, rfl, rh⟩ := rh
      obtain ⟨k, rfl⟩ := asN_of hh rh
      have e := fun c => yld_sliceBound (P := P) (k := k) (n := h) (y := cap) (c := c) h2 w'
      simp [Instr.sliceBounds, e]
  | some a =>
    obtain ⟨ul, rfl, rl⟩ := rl
    obtain ⟨kl, rfl⟩ := asN_of hl rl
    have el := fun c => yld_sliceBound (P := P) (k := kl) (n := l) (y := h) (c := c) h1 w'
    cases hi with
    | none =>
      simp only [asNO, Option.some.injEq] at hh; subst hh
      cases rh
      simp [Instr.sliceBounds, el]
    | some b =>
      obtain ⟨u, rfl, rh⟩ := rh
      obtain ⟨k, rfl⟩ := asN_of hh rh
      have e := fun c => yld_sliceBound (P := P) (k := k) (n := h) (y := cap) (c := c) h2 w'
      simp [Instr.sliceBounds, e, el]

theorem yld_sliceBounds3 {P : Program} {g : Gh} {w : World} {s : Bool} {len cap l h m : Nat} {lo hi mx : Option AV} {vl vh vm : Option Value} (hl : asNO 0 lo = some l) (hh : asNO len hi = some h) (his : hi.isSome = true) (hm : asNO cap mx = some m) (hms : mx.isSome = true)
    (rl : ORepO g w lo vl) (rh : ORepO g w hi vh) (rm : ORepO g w mx vm) (h1 : l ≤ h) (h2 : h ≤ m) (h3 : m ≤ cap) :
    Yld P (Instr.sliceBounds s len cap vl vh vm) (l, h, m) := fun w' => by
  cases hi with
  | none => cases his
  | some b =>
    cases mx with
    | none => cases hms
    | some c =>
      obtain ⟨u, rfl, rh⟩ := rh
      obtain ⟨k, rfl⟩ := asN_of hh rh
      obtain ⟨um, rfl, rm⟩ := rm
      obtain ⟨km, rfl⟩ := asN_of hm rm
      have e := fun c => yld_sliceBound (P := P) (k := k) (n := h) (y := m) (c := c) h2 w'
      have e3 := fun c => yld_sliceBound (P := P) (k := km) (n := m) (y := cap) (c := c) h3 w'
      cases lo with
      | none =>
        simp only [asNO, Option.some.injEq] at hl; subst hl
        cases rl
        simp [Instr.sliceBounds, e, e3]
      | some a =>
        obtain ⟨ul, rfl, rl⟩ := rl
        obtain ⟨kl, rfl⟩ := asN_of hl rl
        have el := fun c => yld_sliceBound (P := P) (k := kl) (n := l) (y := h) (c := c) h1 w'
        simp [Instr.sliceBounds, e, e3, el]

/-- 'x[lo:hi:max]'. -/
def sliceA (P : Program) (t : TypeId) (x : AV) (lo hi mx : Option AV) : Option AV :=
  match valOf x, valO lo, valO hi, valO mx with
  | some v, some l, some h, some m => match pureOf P (Instr.sliceAt t v l h m) with
    | some r => some (.val r)
    | none => none
  | _, _, _, _ => match P.underlying t with
    | some (.slice elem) => match szOf P elem with
      | some size => match x with
        | .imm n cs c => match asNO 0 lo, asNO n hi with
          | some l, some h => if Nat.ble l h then (if Nat.ble h n then
              match mx with
              | some m => match asN m, hi with
                | some m, some _ => if Nat.beq m h then some (.imm (h - l) ((cs.drop (l * size)).take ((h - l) * size)) .exact) else none
                | _, _ => none
              | none => if Nat.beq l 0 then (if Nat.beq h n then some (.imm n cs c) else some (.imm (h - l) ((cs.drop (l * size)).take ((h - l) * size)) .unk))
                else some (.imm (h - l) ((cs.drop (l * size)).take ((h - l) * size)) (match c with
                  | .exact => if Nat.beq h n then .exact else .unk
                  | _ => .unk))
            else none) else none
          | _, _ => none
        | .mut i off n cap => match asNO 0 lo, asNO n hi with
          | some l, some h => if Nat.ble l h then (if Nat.ble h cap then
              match mx with
              | some m => match asN m, hi with
                | some m, some _ => if Nat.blt h m then (if Nat.ble m cap then some (.mut i (off + l * size) (h - l) (m - l)) else none) else none
                | _, _ => none
              | none => if Nat.blt l cap then some (.mut i (off + l * size) (h - l) (cap - l)) else none
            else none) else none
          | _, _ => none
        | _ => none
      | none => none
    | _ => none

theorem yld_sliceAt {P : Program} {t elem : TypeId} {a : Addr} {len cap l h m size : Nat} {vl vh vm : Option Value} (hu : P.underlying t = some (.slice elem)) (hs : szOf P elem = some size) (hb : Yld P (Instr.sliceBounds true len cap vl vh vm) (l, h, m)) :
    Yld P (Instr.sliceAt t (.slice (some a) len cap) vl vh vm) (.slice (some (if m = l then a else a.add (l * size))) (h - l) (m - l)) := fun w => by
  have h1 := yld_sizeOf hs w
  have h2 := hb w
  simp [Instr.sliceAt, Instr.slice, run_underlying hu, h1, h2]
  split <;> rfl

theorem rep_cut {g : Gh} {w : World} {l h m size cap b o : Nat} {cs : List AV} {vs : List Value} (h1 : l ≤ h) (h2 : h ≤ m) (h3 : m ≤ cap) (h4 : cap ≤ maxLen) (hr : RepAll g w cs vs) (row : Row g w b o vs) (c : Cap) (hc : ∀ b o len, CapOk g c b o (h - l) (m - l) len) :
    Rep g w (.imm (h - l) ((cs.drop (l * size)).take ((h - l) * size)) c) (.slice (some (if m = l then (⟨b, o, none⟩ : Addr) else (⟨b, o, none⟩ : Addr).add (l * size))) (h - l) (m - l)) := by
  simp only [Rep]
  by_cases e : m = l
  · have e2 : h - l = 0 := by omega
    simp only [e, if_true, e2, Nat.zero_mul, List.take_zero]
    refine ⟨b, o, l - l, [], rfl, Nat.zero_le _, by omega, by simp [RepAll], fun j u hj => by simp at hj, ?_⟩
    have := hc b o 0
    rw [e2, e] at this
    simpa using this
  · simp only [e, if_false, Addr.add_lit]
    exact ⟨b, o + l * size, m - l, _, rfl, by omega, by omega, (hr.drop _).take _, (row.drop _).take _, hc _ _ _⟩

theorem slice_sound {P : Program} {g : Gh} {w : World} {t : TypeId} {x r : AV} {lo hi mx : Option AV} {v : Value} {vl vh vm : Option Value} (h : sliceA P t x lo hi mx = some r) (hr : Rep g w x v) (rl : ORepO g w lo vl) (rh : ORepO g w hi vh) (rm : ORepO g w mx vm) :
    ∃ u, Yld P (Instr.sliceAt t v vl vh vm) u ∧ Rep g w r u := by
  unfold sliceA at h
  split at h
  · rename_i v' l' h' m' e1 e2 e3 e4
    have e1 := valOf_of e1 hr
    have e2 := valO_of e2 rl
    have e3 := valO_of e3 rh
    have e4 := valO_of e4 rm
    subst e1 e2 e3 e4
    split at h
    · rename_i z hz; cases h; exact ⟨z, pureOf_run hz, by simp [Rep]⟩
    · cases h
  · split at h
    · rename_i elem hu
      split at h
      · rename_i size hs
        split at h
        · rename_i n cs c hno
          simp only [Rep] at hr
          obtain ⟨b, o, cap, vs, rfl, k1, k2, k3, k4, k5⟩ := hr
          split at h
          · rename_i l hh hl hhh
            split at h
            · rename_i q1
              have q1 := Nat.le_of_ble_eq_true q1
              split at h
              · rename_i q2
                have q2 := Nat.le_of_ble_eq_true q2
                split at h
                · rename_i m
                  split at h
                  · rename_i m' hi' hm
                    split at h
                    · rename_i q3
                      have q3 := Nat.eq_of_beq_eq_true q3
                      subst q3
                      cases h
                      refine ⟨_, yld_sliceAt hu hs (yld_sliceBounds3 hl hhh rfl (by exact hm) rfl rl rh rm q1 (Nat.le_refl _) (by omega)), ?_⟩
                      exact rep_cut q1 (Nat.le_refl _) (by omega) k2 k3 k4 .exact (fun _ _ _ => rfl)
                    · cases h
                  · cases h
                · have hb := yld_sliceBounds (P := P) (s := true) hl hhh rl rh q1 (Nat.le_trans q2 k1)
                  cases rm
                  split at h
                  · rename_i q3
                    have q3 := Nat.eq_of_beq_eq_true q3
                    subst q3
                    split at h
                    · rename_i q4
                      have q4 := Nat.eq_of_beq_eq_true q4
                      subst q4
                      cases h
                      refine ⟨_, yld_sliceAt hu hs hb, ?_⟩
                      have e : (if cap = 0 then (⟨b, o, none⟩ : Addr) else (⟨b, o, none⟩ : Addr).add (0 * size)) = ⟨b, o, none⟩ := by split <;> simp [Addr.add]
                      rw [e]
                      simp only [Rep, Nat.sub_zero]
                      exact ⟨b, o, cap, vs, rfl, k1, k2, k3, k4, k5⟩
                    · cases h
                      exact ⟨_, yld_sliceAt hu hs hb, rep_cut q1 (by omega) (Nat.le_refl _) k2 k3 k4 .unk (fun _ _ _ => trivial)⟩
                  · cases h
                    refine ⟨_, yld_sliceAt hu hs hb, rep_cut q1 (by omega) (Nat.le_refl _) k2 k3 k4 _ (fun b' o' len' => ?_)⟩
                    cases c with
                    | exact =>
                      simp only
                      split
                      · rename_i q4
                        have q4 := Nat.eq_of_beq_eq_true q4
                        have k5 : cap = n := k5
                        show cap - l = hh - l
                        omega
                      · trivial
                    | grow t => trivial
                    | unk => trivial
              · cases h
            · cases h
          · cases h
        · rename_i i off n cap hno
          simp only [Rep] at hr
          obtain ⟨k1, rfl, k2, k3⟩ := hr
          split at h
          · rename_i l hh hl hhh
            split at h
            · rename_i q1
              have q1 := Nat.le_of_ble_eq_true q1
              split at h
              · rename_i q2
                have q2 := Nat.le_of_ble_eq_true q2
                split at h
                · rename_i m
                  split at h
                  · rename_i m' hi' hm
                    split at h
                    · rename_i q3
                      have q3 := blt_lt q3
                      split at h
                      · rename_i q4
                        have q4 := Nat.le_of_ble_eq_true q4
                        cases h
                        refine ⟨_, yld_sliceAt hu hs (yld_sliceBounds3 hl hhh rfl (by exact hm) rfl rl rh rm q1 (Nat.le_of_lt q3) q4), ?_⟩
                        have e : ¬ m' = l := by omega
                        simp only [Rep, e, if_false, Addr.add_lit]
                        exact ⟨k1, trivial, by omega, by omega⟩
                      · cases h
                    · cases h
                  · cases h
                · split at h
                  · rename_i q3
                    have q3 := blt_lt q3
                    have hb := yld_sliceBounds (P := P) (s := true) hl hhh rl rh q1 q2
                    cases rm
                    cases h
                    refine ⟨_, yld_sliceAt hu hs hb, ?_⟩
                    have e : ¬ cap = l := by omega
                    simp only [Rep, e, if_false, Addr.add_lit]
                    exact ⟨k1, trivial, by omega, by omega⟩
                  · cases h
              · cases h
            · cases h
          · cases h
        · cases h
      · cases h
    · cases h

end Go.Am

set_option linter.unusedVariables false
set_option linter.unusedSimpArgs false
/-!
  THE ABSTRACT MACHINE, part I: reading, writing, new objects.
-/
namespace Go.Am
open Go Go.RowKit

/-- A computation that reads. -/
def Rds (P : Program) (g : Gh) (w : World) (x : Sem Value) (r : AV) : Prop := ∃ u, x.run P w = .ok u w ∧ Rep g w r u
/-- A computation that turns the memory. -/
def Does (P : Program) {α : Type} (g : Gh) (w : World) (x : Sem α) (s' : St) (ok : Gh → World → α → Prop) : Prop :=
  ∃ u w' g', x.run P w = .ok u w' ∧ Ext g w g' w' ∧ Rel g' s' w' ∧ ok g' w' u

/-! ### Reading -/
def partB (P : Program) (t : TypeId) (cs : List AV) (off : Nat) : Option AV :=
  match isAggO P t with
  | some true => match szOf P t with
    | some k => if Nat.ble (off + k) cs.length then some (.agg ((cs.drop off).take k)) else none
    | none => none
  | some false => cs[off]?
  | none => none

theorem load_row {P : Program} {g : Gh} {w : World} {t : TypeId} {cs : List AV} {vs : List Value} {b o off : Nat} {r : AV} (h : partB P t cs off = some r) (hr : RepAll g w cs vs)
    (hrow : ∀ j u, vs[j]? = some u → w.cell? ⟨b, o + j, none⟩ = some u) : Rds P g w (Instr.loadAt t (.pointer (some ⟨b, o + off, none⟩))) r := by
  unfold partB at h
  split at h
  · rename_i ha
    split at h
    · rename_i k hk
      split at h
      · rename_i hle
        have hle := Nat.le_of_ble_eq_true hle
        cases h
        have hlen : ((vs.drop off).take k).length = k := by rw [List.length_take, List.length_drop, hr.length]; omega
        obtain ⟨d, hd, hrow'⟩ : ∃ d, P.underlying t = some d ∧ d.isRow = true := by
          unfold isAggO at ha
          split at ha
          · rename_i f hu; exact ⟨_, hu, rfl⟩
          · rename_i f hu; exact ⟨_, hu, rfl⟩
          · cases ha
          · cases ha
        refine ⟨_, run_loadAt_mid w b (o + off) t ((vs.drop off).take k) d ?_ hd hrow' (by rw [hlen]; exact hk), by simp only [Rep]; exact ⟨_, rfl, (hr.drop off).take k⟩⟩
        intro j v hj
        rw [List.getElem?_take] at hj
        split at hj
        · rw [List.getElem?_drop] at hj
          rw [Nat.add_assoc]
          exact hrow _ _ hj
        · cases hj
      · cases h
    · cases h
  · rename_i ha
    obtain ⟨v, hv, hrv⟩ := hr.get h
    refine ⟨v, ?_, hrv⟩
    have h1 := yld_isAgg ha w
    have h2 := hrow _ _ hv
    simp [Instr.loadAt, Instr.sureAddr, loadVar, h1, run_load, h2]
  · cases h

theorem cells_row {w : World} {b : Nat} {vs : List Value} {t : TypeId} {fr : Nat × Nat} (h : w.heap[b]? = some (.cells vs.toArray t fr)) : ∀ j u, vs[j]? = some u → w.cell? ⟨b, 0 + j, none⟩ = some u := fun j u hj => by
  simp [World.cell?, h, hj]

def loadA (P : Program) (s : St) (t : TypeId) : AV → Option AV
  | .ptr i off => match s.get i with
    | some (.cells cs _) => partB P t cs off
    | _ => none
  | .rptr cs off => partB P t cs off
  | _ => none

theorem load_sound {P : Program} {g : Gh} {s : St} {w : World} {t : TypeId} {x r : AV} {v : Value} (h : loadA P s t x = some r) (rel : Rel g s w) (hr : Rep g w x v) : Rds P g w (Instr.loadAt t v) r := by
  unfold loadA at h
  split at h
  · rename_i i off
    split at h
    · rename_i cs ty hi
      simp only [Rep] at hr
      obtain ⟨h1, rfl⟩ := hr
      obtain ⟨_, _, vs, h2, h3⟩ := rel.objs i _ hi
      have := load_row (b := g.blk i) (o := 0) h h3 (cells_row h2)
      simpa using this
    · cases h
  · simp only [Rep] at hr
    obtain ⟨b, o, vs, rfl, h2, h3⟩ := hr
    exact load_row h h2 (fun j u hj => (h3 j u hj).1)
  · cases h

/-! ### Writing -/
def oneA : AV → Bool
  | .agg _ => false
  | .tuple _ => false
  | .val v => v.oneCell'
  | _ => true
def oneAll : List AV → Bool
  | [] => true
  | a :: r => if oneA a then oneAll r else false
theorem oneA_of {g : Gh} {w : World} {a : AV} {v : Value} (h : oneA a = true) (hr : Rep g w a v) : v.oneCell' = true := by
  cases a with
  | agg => cases h
  | tuple => cases h
  | val u => simp only [Rep] at hr; subst hr; exact h
  | ptr => simp only [Rep] at hr; obtain ⟨_, rfl⟩ := hr; rfl
  | rptr => simp only [Rep] at hr; obtain ⟨_, _, _, rfl, _⟩ := hr; rfl
  | imm => simp only [Rep] at hr; obtain ⟨_, _, _, _, rfl, _⟩ := hr; rfl
  | «mut» => simp only [Rep] at hr; obtain ⟨_, rfl, _⟩ := hr; rfl
  | map => simp only [Rep] at hr; obtain ⟨_, rfl⟩ := hr; rfl
  | func => simp only [Rep] at hr; obtain ⟨_, _, rfl, _⟩ := hr; rfl
  | yield => simp only [Rep] at hr; obtain ⟨_, rfl⟩ := hr; rfl
  | iface => simp only [Rep] at hr; obtain ⟨_, rfl, _⟩ := hr; rfl
theorem oneAll_of {g : Gh} {w : World} : ∀ {cs : List AV} {vs : List Value}, oneAll cs = true → RepAll g w cs vs → ∀ v ∈ vs, v.oneCell' = true
  | [], vs, h, hr => by simp only [RepAll] at hr; subst hr; intro v hv; cases hv
  | a :: r, vs, h, hr => by
    simp only [RepAll] at hr
    obtain ⟨v, q, rfl, h1, h2⟩ := hr
    simp only [oneAll] at h
    split at h
    · rename_i ha
      intro u hu
      rcases List.mem_cons.1 hu with rfl | hu
      · exact oneA_of ha h1
      · exact oneAll_of h h2 u hu
    · cases h

theorem setCells_fold (b o : Nat) (T : TypeId) (fr : Nat × Nat) : ∀ (vs : List Value) (k : Nat) (w : World) (C : Array Value), w.heap[b]? = some (.cells C T fr) →
    (w.setCells b (o + k) vs).heap[b]? = some (.cells ((vs.zipIdx k).foldl (fun cs (p : Value × Nat) => cs.setIfInBounds (o + p.2) p.1) C) T fr)
  | [], k, w, C, h => h
  | v :: r, k, w, C, h => by
    simp only [World.setCells, List.zipIdx_cons, List.foldl_cons]
    refine setCells_fold b o T fr r (k + 1) _ _ ?_
    simp [World.setCell, Array.getElem?_modify, h]

theorem setCells_but (b : Nat) : ∀ (vs : List Value) (o : Nat) (w : World), But b w (w.setCells b o vs)
  | [], o, w => ⟨rfl, rfl, rfl, Nat.le_refl _, fun _ _ _ => rfl⟩
  | v :: r, o, w => by
    have h := setCells_but b r (o + 1) (w.setCell ⟨b, o, none⟩ v)
    have hs : (w.setCell ⟨b, o, none⟩ v).heap.size = w.heap.size := by simp [World.setCell]
    refine ⟨h.os, h.tape, h.output, by rw [← hs]; exact h.size, fun j hj hne => ?_⟩
    simp only [World.setCells]
    rw [h.block j (by rw [hs]; exact hj) hne]
    have hne' : ¬ b = j := fun e => hne e.symm
    simp [World.setCell, Array.getElem?_modify, hne']

theorem setCells_row {w : World} {b o : Nat} {T : TypeId} {fr : Nat × Nat} {C : Array Value} {vs : List Value} (h : w.heap[b]? = some (.cells C T fr)) (hl : o + vs.length ≤ C.size) :
    ∃ C', (w.setCells b o vs).heap[b]? = some (.cells C' T fr) ∧ C'.toList = C.toList.take o ++ vs ++ C.toList.drop (o + vs.length) := by
  have h1 := setCells_fold b o T fr vs 0 w C h
  have h2 := foldl_set vs 0 o C (by simpa using hl)
  exact ⟨_, by simpa using h1, by simpa using h2⟩

def storeA (P : Program) (s : St) (t : TypeId) (a v : AV) : Option St :=
  match a with
  | .ptr i off => match s.get i with
    | some (.cells cs ty) => match szOf P t with
      | some k => if Nat.beq (cellsA v).length k then (if Nat.ble (off + k) cs.length then (if oneAll (cellsA v) then some (s.put i (.cells (setAt cs off (cellsA v)) ty)) else none) else none) else none
      | none => none
    | _ => none
  | _ => none

theorem store_sound {P : Program} {g : Gh} {s s' : St} {w : World} {t : TypeId} {a x : AV} {u v : Value} (h : storeA P s t a x = some s') (rel : Rel g s w) (ha : Rep g w a u) (hx : Rep g w x v) :
    Does P g w (Instr.storeAt t u v) s' (fun _ _ _ => True) := by
  unfold storeA at h
  split at h
  · rename_i i off
    split at h
    · rename_i cs ty hi
      split at h
      · rename_i k hk
        split at h
        · rename_i h1
          split at h
          · rename_i h2
            split at h
            · rename_i h3
              cases h
              have h1 := Nat.eq_of_beq_eq_true h1
              have h2 := Nat.le_of_ble_eq_true h2
              simp only [Rep] at ha
              obtain ⟨hu, rfl⟩ := ha
              obtain ⟨_, _, vs, hb, hvs⟩ := rel.objs i _ hi
              have hc := cellsA_rep hx
              have l1 : v.cells.size = k := by have := hc.length; simp only [Array.length_toList] at this; omega
              have l2 : vs.length = cs.length := hvs.length
              have hst := run_storeCells_cells (P := P) (g.blk i) off v.cells.toList 0 w (fun j hj => by
                  simp only [Array.length_toList] at hj
                  have hlt : off + j < vs.length := by omega
                  simp [World.cell?, hb]; omega) (fun j hj => by simp [World.frozen?, hb]) (oneAll_of h3 hc)
              obtain ⟨C', hb', hC'⟩ := setCells_row (w := w) (b := g.blk i) (o := off) (C := vs.toArray) (vs := v.cells.toList) hb (by simp only [Array.length_toList, List.size_toArray]; omega)
              have hbut := setCells_but (g.blk i) v.cells.toList off w
              have hext := rel.ext_but hi hbut
              have hq := setAt_rep hvs hc off
              obtain ⟨ext, rel'⟩ := rel.write (o' := .cells (setAt cs off (cellsA x)) ty) hi hbut ⟨C'.toList, by simpa using hb', by rw [hC']; exact hq⟩
              refine ⟨(), _, g, ?_, ext, rel', trivial⟩
              have hsz := yld_sizeOf hk w
              simp only [Nat.add_zero] at hst
              simp [Instr.storeAt, Instr.sureAddr, storeVar, hsz, l1, hst]
            · cases h
          · cases h
        · cases h
      · cases h
    · cases h
  · cases h

end Go.Am

set_option linter.unusedVariables false
set_option linter.unusedSimpArgs false
/-!
  THE ABSTRACT MACHINE, part J: new objects, new lists.
-/
namespace Go.Am
open Go Go.RowKit

def isNone {α : Type} : Option α → Bool
  | none => true
  | some _ => false
theorem isNone_of {α : Type} {x : Option α} (h : isNone x = true) : x = none := by cases x with
  | none => rfl
  | some _ => cases h

/-- A new variable. -/
def newA (s : St) (i : Nat) (t : TypeId) (cs : List AV) : Option (AV × St) :=
  if isNone (s.get i) then some (.ptr i 0, s.add i (.cells cs t)) else none

theorem new_sound {P : Program} {g : Gh} {s s' : St} {w : World} {i : Nat} {t : TypeId} {cs : List AV} {vs : Array Value} {r : AV} {x : Sem Value} (h : newA s i t cs = some (r, s')) (rel : Rel g s w) (hr : RepAll g w cs vs.toList)
    (hx : x.run P w = .ok (.pointer (some ⟨w.heap.size, 0, none⟩)) (w.alloc (.cells vs t))) : Does P g w x s' (fun g' w' v => Rep g' w' r v) := by
  unfold newA at h
  split at h
  · rename_i hn
    simp only [Option.some.injEq, Prod.mk.injEq] at h
    obtain ⟨rfl, rfl⟩ := h
    have p : Push (.cells vs t) w (w.alloc (.cells vs t)) := Push.of (Same.refl w) rfl
    obtain ⟨ext, rel', hu, hb⟩ := rel.newObj (o := .cells cs t) (isNone_of hn) p ⟨vs.toList, by simp, hr⟩
    exact ⟨_, _, _, hx, ext, rel', by simp only [Rep]; exact ⟨hu, by rw [hb]⟩⟩
  · cases h

def allocA (P : Program) (s : St) (i : Nat) (t : TypeId) : Option (AV × St) :=
  match zeroOf P t with
  | some z => newA s i t (zeroCellsA z)
  | none => none
theorem alloc_sound {P : Program} {g : Gh} {s s' : St} {w : World} {i : Nat} {t : TypeId} {r : AV} (h : allocA P s i t = some (r, s')) (rel : Rel g s w) :
    Does P g w (Instr.alloc t true (.tuple #[])) s' (fun g' w' v => Rep g' w' r v) := by
  unfold allocA at h
  split at h
  · rename_i z hz
    refine new_sound (vs := z.cells) h rel (repAll_vals _) ?_
    have h1 := yld_zeroValue hz w
    simp [Instr.alloc, h1, newVar, newRow]
  · cases h

def boxA (s : St) (i : Nat) (t : TypeId) (x : AV) : Option (AV × St) := newA s i t (cellsA x)
theorem box_sound {P : Program} {g : Gh} {s s' : St} {w : World} {i : Nat} {t : TypeId} {x r : AV} {v : Value} (h : boxA s i t x = some (r, s')) (rel : Rel g s w) (hx : Rep g w x v) :
    Does P g w (Instr.box t v) s' (fun g' w' v => Rep g' w' r v) := by
  refine new_sound (vs := v.cells) h rel (cellsA_rep hx) ?_
  simp [Instr.box, newVar, newRow]

/-- The cells of so many zero values. -/
def zeroRow (z : Value) (n : Nat) : List AV := (List.range n).map fun j => .val (z.cells[j % z.cells.size]!)
theorem zeroRow_rep (g : Gh) (w : World) (z : Value) (n : Nat) : RepAll g w (zeroRow z n) ((Array.range n).map (z.cells[· % z.cells.size]!)).toList := by
  have : zeroRow z n = ((List.range n).map fun j => z.cells[j % z.cells.size]!).map .val := by simp [zeroRow]
  rw [this]
  simp only [Array.toList_map, Array.toList_range]
  exact repAll_vals _

/-- A list literal. -/
def buildSliceA (P : Program) (t : TypeId) (len : Nat) (ps : List (Nat × AV)) : Option AV :=
  match P.underlying t with
  | some (.slice e) => match szOf P e with
    | some k => match zeroOf P e with
      | some z => if Nat.ble (len * k) 16777216 then (if Nat.ble len maxLen then
          match fillA (fun i => some (i * k, k)) (zeroRow z (len * k)) ps with
          | some cs => some (.imm len cs .exact)
          | none => none
        else none) else none
      | none => none
    | none => none
  | _ => none

theorem run_buildSlice' {P : Program} (w : World) (t e : TypeId) (len k : Nat) (parts : Array (Nat × Value)) (cells : Array Value) (z : Value)
    (hu : P.underlying t = some (.slice e)) (hk : szOf P e = some k) (hz : zeroOf P e = some z) (hsmall : len * k ≤ 16777216)
    (h : Instr.fill (fun i => some (i * k, k)) ((Array.range (len * k)).map (z.cells[· % z.cells.size]!)) parts.toList = some cells) :
    (Instr.buildSlice t len parts).run P w = .ok (.slice (some ⟨w.heap.size, 0, none⟩) len len) (w.alloc (.cells cells e)) := by
  have h1 := yld_sizeOf hk w
  have h2 := yld_zeroValue hz w
  have h3 : ¬ len * k > 2 ^ 24 := by omega
  by_cases h0 : len * k = 0
  · have e0 : (Array.range (len * k)).map (z.cells[· % z.cells.size]!) = #[] := by rw [h0]; simp [Array.range_zero']
    rw [e0] at h
    simp only [Instr.buildSlice, Sem.run_bind, run_underlying hu, Result.andThen_ok, h1]
    rw [if_neg h3]
    simp [h0, h, newRow, Array.range_zero']
  · simp [Instr.buildSlice, run_underlying hu, h1, h2, h3, h0, h, newRow]

theorem buildSlice_sound {P : Program} {g : Gh} {s : St} {w : World} {t : TypeId} {len : Nat} {ps : List (Nat × AV)} {qs : Array (Nat × Value)} {r : AV} (h : buildSliceA P t len ps = some r) (rel : Rel g s w) (hp : PRep g w ps qs.toList) :
    Does P g w (Instr.buildSlice t len qs) s (fun g' w' v => Rep g' w' r v) := by
  unfold buildSliceA at h
  split at h
  · rename_i e hu
    split at h
    · rename_i k hk
      split at h
      · rename_i z hz
        split at h
        · rename_i h1
          split at h
          · rename_i h2
            split at h
            · rename_i cs hf
              cases h
              have h1 := Nat.le_of_ble_eq_true h1
              have h2 := Nat.le_of_ble_eq_true h2
              obtain ⟨out, ho, hr⟩ := fill_sound hf (zeroRow_rep g w z (len * k)) hp
              have p : Push (.cells (out.toList ++ []).toArray e (0, 0)) w (w.alloc (.cells out e)) := by
                simp only [List.append_nil, Array.toArray_toList]
                exact Push.of (Same.refl w) rfl
              obtain ⟨ext, rel', row⟩ := rel.newRow p
              exact ⟨_, _, _, run_buildSlice' w t e len k qs out z hu hk hz h1 ho, ext, rel', by simp only [Rep]; exact ⟨w.heap.size, 0, len, out.toList, rfl, Nat.le_refl _, h2, hr.ext ext, row, rfl⟩⟩
            · cases h
          · cases h
        · cases h
      · cases h
    · cases h
  · cases h

/-- 'make([]T, l, c)'. -/
def makeSliceA (P : Program) (s : St) (i : Nat) (t : TypeId) (l c : AV) : Option (AV × St) :=
  match asN l, asN c with
  | some l, some c => match P.underlying t with
    | some (.slice e) => match P.info? e with
      | some ie => match ie.zero with
        | some z => if Nat.ble l c then (if Nat.ble (ie.bytes * c) 281474976710656 then (if Nat.ble c maxLen then
            match newA s i e (zeroRow z (c * ie.size)) with
            | some (_, s') => some (.mut i 0 l c, s')
            | none => none
          else none) else none) else none
        | none => none
      | none => none
    | _ => none
  | _, _ => none

theorem madeCells_eq (z : Value) (n : Nat) : madeCells z.cells n = (Array.range n).map (z.cells[· % z.cells.size]!) := rfl

theorem makeSlice_sound {P : Program} {g : Gh} {s s' : St} {w : World} {i : Nat} {t : TypeId} {l c r : AV} {vl vc : Value} (h : makeSliceA P s i t l c = some (r, s')) (rel : Rel g s w) (hl : Rep g w l vl) (hc : Rep g w c vc) :
    Does P g w (Instr.makeSlice t vl vc) s' (fun g' w' v => Rep g' w' r v) := by
  unfold makeSliceA at h
  split at h
  · rename_i l' c' el ec
    obtain ⟨kl, rfl⟩ := asN_of el hl
    obtain ⟨kc, rfl⟩ := asN_of ec hc
    split at h
    · rename_i e hu
      split at h
      · rename_i ie hie
        split at h
        · rename_i z hz
          split at h
          · rename_i h1
            split at h
            · rename_i h2
              split at h
              · rename_i h3
                split at h
                · rename_i r' s'' hnew
                  cases h
                  have h1 := Nat.le_of_ble_eq_true h1
                  have h2 := Nat.le_of_ble_eq_true h2
                  have h3 := Nat.le_of_ble_eq_true h3
                  unfold newA at hnew
                  split at hnew
                  · rename_i hn
                    cases hnew
                    have hrun := run_make (P := P) w t e ie z hu hie hz kl kc (l' : Int) (c' : Int) (by omega) (by omega) (by rw [← Int.natCast_mul]; omega) (by simp only [maxLen] at h3; omega)
                    have p : Push (.cells (madeCells z.cells (c' * ie.size)) e (0, 0)) w (w.alloc (.cells (madeCells z.cells (c' * ie.size)) e)) := Push.of (Same.refl w) rfl
                    obtain ⟨ext, rel', hu', hb⟩ := rel.newObj (o := .cells (zeroRow z (c' * ie.size)) e) (isNone_of hn) p ⟨(madeCells z.cells (c' * ie.size)).toList, by simp, by rw [madeCells_eq]; exact zeroRow_rep g w z _⟩
                    exact ⟨_, _, _, by simp only [Int.toNat_natCast] at hrun; exact hrun, ext, rel', by simp only [Rep, hb]; exact ⟨hu', by simp, h1, h3⟩⟩
                  · cases hnew
                · cases h
              · cases h
            · cases h
          · cases h
        · cases h
      · cases h
    · cases h
  · cases h

/-- 'make(map[K]V)' whose keys are numbers. -/
def makeMapA (P : Program) (s : St) (i : Nat) (t : TypeId) (res : Option AV) : Option (AV × St) :=
  match res with
  | some _ => none
  | none => match P.underlying t with
    | some (.map key _) => match P.underlying key with
      | some (.int kk) => if isNone (s.get i) then some (.map i, s.add i (.map kk [])) else none
      | _ => none
    | _ => none
theorem makeMap_sound {P : Program} {g : Gh} {s s' : St} {w : World} {i : Nat} {t : TypeId} {res : Option AV} {vr : Option Value} {r : AV} (h : makeMapA P s i t res = some (r, s')) (rel : Rel g s w) (hr : ORepO g w res vr) :
    Does P g w (Instr.makeMap t vr) s' (fun g' w' v => Rep g' w' r v) := by
  unfold makeMapA at h
  split at h
  · cases h
  · cases hr
    split at h
    · split at h
      · rename_i kk hkk
        split at h
        · rename_i hn
          cases h
          have p : Push (.map #[] 0) w (w.alloc (.map #[] 0)) := Push.of (Same.refl w) rfl
          obtain ⟨ext, rel', hu', hb⟩ := rel.newObj (o := .map kk []) (isNone_of hn) p ⟨#[], 0, rfl, fun e he => by simp at he, fun n => rfl⟩
          exact ⟨_, _, _, rfl, ext, rel', by simp only [Rep, hb]; exact ⟨hu', trivial⟩⟩
        · cases h
      · cases h
    · cases h

end Go.Am

set_option linter.unusedVariables false
set_option linter.unusedSimpArgs false
/-!
  THE ABSTRACT MACHINE, part K: maps whose keys are numbers.
-/
namespace Go.Am
open Go Go.RowKit

theorem getI_ge {n : Int} : ∀ {ms : List MapEntry} {i j : Nat} {v : Value}, getI n ms i = some (j, v) → i ≤ j
  | [], i, j, v, h => by simp [getI] at h
  | e :: r, i, j, v, h => by
    simp only [getI] at h
    split at h
    · split at h
      · cases h; exact Nat.le_refl _
      · have := getI_ge h; omega
    · have := getI_ge h; omega

theorem getI_modify (n : Int) (kk : IntKind) (u : Value) : ∀ (ms : List MapEntry) (i j : Nat) (v : Value), getI n ms i = some (i + j, v) →
    ∀ k, getI k (ms.modify j fun e => { e with key := .int kk n, val := u }) i = if k = n then some (i + j, u) else getI k ms i
  | [], i, j, v, h, k => by simp [getI] at h
  | e :: r, i, 0, v, h, k => by
    simp only [getI] at h
    have hk : ∃ q, e.key = .int q n := by
      split at h
      · rename_i q m he
        split at h
        · rename_i hnm; subst hnm; exact ⟨q, he⟩
        · have := getI_ge h; omega
      · have := getI_ge h; omega
    obtain ⟨q, hq⟩ := hk
    simp only [List.modify_zero_cons, getI, hq]
    by_cases e' : k = n
    · simp [e']
    · simp [e']
  | e :: r, i, j + 1, v, h, k => by
    simp only [getI] at h
    simp only [List.modify_succ_cons, getI]
    have hr : ∀ {m : Int} {q}, e.key = .int q m → ¬ n = m := fun {m q} he hnm => by
      rw [he] at h
      simp only [hnm, if_true, Option.some.injEq, Prod.mk.injEq] at h
      omega
    have h' : getI n r (i + 1) = some (i + 1 + j, v) := by
      split at h
      · rename_i q m he
        rw [if_neg (hr he)] at h
        rw [h]; congr 2; omega
      · rw [h]; congr 2; omega
    have ih := getI_modify n kk u r (i + 1) j v h' k
    rw [ih]
    split
    · rename_i q m he
      have := hr he
      by_cases e1 : k = m
      · have : ¬ k = n := fun e2 => hr he (by omega)
        simp [e1]; intro e2; omega
      · by_cases e2 : k = n
        · subst e2; rw [if_neg e1, if_pos rfl, if_pos rfl]; congr 2; omega
        · simp [e1, e2]
    · by_cases e2 : k = n
      · subst e2; rw [if_pos rfl, if_pos rfl]; congr 2; omega
      · rw [if_neg e2, if_neg e2]

theorem getI_at {n : Int} : ∀ {ms : List MapEntry} {i j : Nat} {v : Value}, getI n ms i = some (i + j, v) → ∃ y q, ms[j]? = some y ∧ y.key = .int q n
  | [], i, j, v, h => by simp [getI] at h
  | e :: r, i, j, v, h => by
    have step : getI n r (i + 1) = some (i + j, v) → ∃ y q, (e :: r)[j]? = some y ∧ y.key = .int q n := fun h => by
      have := getI_ge h
      obtain ⟨j', rfl⟩ : ∃ j', j = j' + 1 := ⟨j - 1, by omega⟩
      have h' : getI n r (i + 1) = some (i + 1 + j', v) := by rw [h]; congr 2; omega
      obtain ⟨y, q, h1, h2⟩ := getI_at h'
      exact ⟨y, q, by simpa using h1, h2⟩
    simp only [getI] at h
    split at h
    · rename_i q m he
      split at h
      · rename_i e'; subst e'
        have : j = 0 := by
          simp only [Option.some.injEq, Prod.mk.injEq] at h
          omega
        subst this
        exact ⟨e, q, rfl, he⟩
      · exact step h
    · exact step h

theorem getI_push (e : MapEntry) {kk : IntKind} {n : Int} (he : e.key = .int kk n) : ∀ (ms : List MapEntry) (i : Nat) (k : Int),
    getI k (ms ++ [e]) i = match getI k ms i with | some r => some r | none => if k = n then some (i + ms.length, e.val) else none
  | [], i, k => by simp [getI, he]
  | x :: r, i, k => by
    simp only [List.cons_append, getI]
    split
    · split
      · rfl
      · rw [getI_push e he r (i + 1) k]
        split
        · rfl
        · simp only [List.length_cons]; split
          · congr 2; omega
          · rfl
    · rw [getI_push e he r (i + 1) k]
      split
      · rfl
      · simp only [List.length_cons]; split
        · congr 2; omega
        · rfl

theorem findNow_int {kk : IntKind} (n : Int) : ∀ (ms : List MapEntry) (i : Nat), (∀ e ∈ ms, ∃ m, e.key = .int kk m) → Instr.findNow (.int kk) (.int kk n) ms i = some (getI n ms i)
  | [], i, _ => rfl
  | e :: r, i, h => by
    obtain ⟨m, hm⟩ := h e (List.mem_cons_self ..)
    have ih := findNow_int n r (i + 1) (fun x hx => h x (List.mem_cons_of_mem _ hx))
    simp only [Instr.findNow, getI, hm, Instr.sameNow, if_true]
    by_cases e' : n = m
    · simp [e']
    · have : (n == m) = false := by simpa using e'
      simp only [this, e', if_false]
      exact ih

theorem yld_checkKey_int {P : Program} {key : TypeId} {kk k : IntKind} {n : Int} {em : Bool} (hk : P.underlying key = some (.int kk)) : Yld P (Instr.checkKey em 10000 key (.int k n)) () := fun w => by
  have h : ∀ d, (Instr.checkKey em (d + 1) key (.int k n)).run P w = .ok () w := fun d => by simp [Instr.checkKey, run_underlying hk]
  exact h 9999

theorem yld_findKey_int {P : Program} {key : TypeId} {kk : IntKind} {n : Int} {ms : List MapEntry} (hk : P.underlying key = some (.int kk)) (h : ∀ e ∈ ms, ∃ m, e.key = .int kk m) : Yld P (Instr.findKey key (.int kk n) ms) (getI n ms 0) := fun w => by
  simp [Instr.findKey, run_underlying hk, findNow_int n ms 0 h]

def asKey (kk : IntKind) : AV → Option Int
  | .val (.int k n) => if k = kk then some n else none
  | _ => none
theorem asKey_of {g : Gh} {w : World} {kk : IntKind} {a : AV} {v : Value} {n : Int} (h : asKey kk a = some n) (hr : Rep g w a v) : v = .int kk n := by
  unfold asKey at h
  split at h
  · split at h
    · rename_i e; cases h; subst e; simpa [Rep] using hr
    · cases h
  · cases h

/-- What a lookup hands back. -/
def pairA (ok : Bool) (a : AV) (b : Bool) : AV := if ok then .tuple [a, .val (.bool b)] else a
theorem pairA_rep {g : Gh} {w : World} {ok b : Bool} {a : AV} {v : Value} (h : Rep g w a v) : Rep g w (pairA ok a b) (if ok then .tuple #[v, .bool b] else v) := by
  unfold pairA
  cases ok with
  | false => simpa using h
  | true =>
    simp only [if_true, Rep]
    exact ⟨[v, .bool b], rfl, by simp only [RepAll, Rep]; exact ⟨v, [.bool b], rfl, h, .bool b, [], rfl, rfl, rfl⟩⟩

def foundA (P : Program) (elem : TypeId) (n : Int) (es : List (Int × AV)) (ok : Bool) : Option AV :=
  match findI n es with
  | some a => some (pairA ok a true)
  | none => match zeroOf P elem with
    | some z => some (pairA ok (ofVal z) false)
    | none => none

def lookupA (P : Program) (s : St) (t : TypeId) (x ix : AV) (ok : Bool) : Option AV :=
  match P.underlying t with
  | some (.map key elem) => match P.underlying key with
    | some (.int kk) => match asKey kk ix with
      | some n => match x with
        | .map i => match s.get i with
          | some (.map k' es) => if k' = kk then foundA P elem n es ok else none
          | _ => none
        | .val (.map none) => foundA P elem n [] ok
        | _ => none
      | none => none
    | _ => none
  | _ => none

theorem found_sound {P : Program} {g : Gh} {w : World} {t key elem : TypeId} {kk : IntKind} {n : Int} {es : List (Int × AV)} {ms : Array MapEntry} {ok : Bool} {r : AV} {x : Value} (h : foundA P elem n es ok = some r)
    (hu : P.underlying t = some (.map key elem)) (hk : P.underlying key = some (.int kk)) (hm : MRep g w kk es ms.toList)
    (hx : x = .map none ∧ ms = #[] ∨ ∃ b c, x = .map (some b) ∧ w.heap[b]? = some (.map ms c)) : Rds P g w (Instr.lookup t x (.int kk n) ok) r := by
  have hck := fun em => yld_checkKey_int (P := P) (k := kk) (n := n) (em := em) hk w
  have hfk := yld_findKey_int (P := P) (n := n) hk hm.1 w
  have hv := hm.2 n
  have key : (∃ i v, getI n ms.toList 0 = some (i, v) ∧ Rep g w r (if ok then .tuple #[v, .bool true] else v)) ∨
      (getI n ms.toList 0 = none ∧ ∃ z, (zeroValue elem).run P w = .ok z w ∧ Rep g w r (if ok then .tuple #[z, .bool false] else z)) := by
    unfold foundA at h
    split at h
    · rename_i a ha
      cases h
      rw [ha] at hv
      obtain ⟨i, u, hi, hru⟩ := hv
      exact .inl ⟨i, u, hi, pairA_rep hru⟩
    · rename_i ha
      rw [ha] at hv
      split at h
      · rename_i z hz
        cases h
        exact .inr ⟨hv, z, yld_zeroValue hz w, pairA_rep (ofVal_rep g w z)⟩
      · cases h
  rcases hx with ⟨rfl, rfl⟩ | ⟨b', c, rfl, hb⟩
  · have e0 : (#[] : Array MapEntry).toList = [] := rfl
    rw [e0] at hfk key
    rcases key with ⟨i, v, h1, hr⟩ | ⟨h1, z, hz, hr⟩
    · exact ⟨_, by simp only [Instr.lookup, Sem.run_bind, run_underlying hu, Result.andThen_ok, Sem.run_pure, hck, hfk, h1], hr⟩
    · exact ⟨_, by simp only [Instr.lookup, Sem.run_bind, run_underlying hu, Result.andThen_ok, Sem.run_pure, hck, hfk, h1, hz], hr⟩
  · rcases key with ⟨i, v, h1, hr⟩ | ⟨h1, z, hz, hr⟩
    · exact ⟨_, by simp only [Instr.lookup, Sem.run_bind, run_underlying hu, Result.andThen_ok, Sem.run_pure, MapKept.run_getObj_map hb, hck, hfk, h1], hr⟩
    · exact ⟨_, by simp only [Instr.lookup, Sem.run_bind, run_underlying hu, Result.andThen_ok, Sem.run_pure, MapKept.run_getObj_map hb, hck, hfk, h1, hz], hr⟩

theorem lookup_sound {P : Program} {g : Gh} {s : St} {w : World} {t : TypeId} {x ix r : AV} {ok : Bool} {v vi : Value} (h : lookupA P s t x ix ok = some r) (rel : Rel g s w) (hr : Rep g w x v) (hi : Rep g w ix vi) :
    Rds P g w (Instr.lookup t v vi ok) r := by
  unfold lookupA at h
  split at h
  · rename_i key elem hu
    split at h
    · rename_i kk hk
      split at h
      · rename_i n hn
        have := asKey_of hn hi
        subst this
        split at h
        · rename_i i
          split at h
          · rename_i k' es hget
            split at h
            · rename_i e
              subst e
              simp only [Rep] at hr
              obtain ⟨_, rfl⟩ := hr
              obtain ⟨_, _, ms, c, hb, hm⟩ := rel.objs i _ hget
              exact found_sound h hu hk hm (.inr ⟨_, c, rfl, hb⟩)
            · cases h
          · cases h
        · simp only [Rep] at hr
          subst hr
          exact found_sound (ms := #[]) h hu hk ⟨fun e he => by simp at he, fun n => rfl⟩ (.inl ⟨rfl, rfl⟩)
        · cases h
      · cases h
    · cases h
  · cases h

def insI (n : Int) (a : AV) : List (Int × AV) → List (Int × AV)
  | [] => [(n, a)]
  | (m, b) :: r => if n = m then (n, a) :: r else if n < m then (n, a) :: (m, b) :: r else (m, b) :: insI n a r
theorem findI_insI (n : Int) (a : AV) : ∀ (es : List (Int × AV)) (k : Int), findI k (insI n a es) = if k = n then some a else findI k es
  | [], k => by simp [insI, findI]
  | (m, b) :: r, k => by
    simp only [insI]
    split
    · rename_i e; subst e
      simp only [findI]
      split <;> rfl
    · rename_i e
      split
      · simp only [findI]
      · simp only [findI]
        rw [findI_insI n a r k]
        by_cases e1 : k = m
        · have : ¬ k = n := fun e2 => e (by omega)
          simp [e1]; intro e2; omega
        · simp [e1]

def mapUpdateA (P : Program) (s : St) (t : TypeId) (m ix x : AV) : Option St :=
  match P.underlying t with
  | some (.map key elem) => match P.underlying key with
    | some (.int kk) => match asKey kk ix with
      | some n => match m with
        | .map i => match s.get i with
          | some (.map k' es) => if k' = kk then some (s.put i (.map kk (insI n x es))) else none
          | _ => none
        | _ => none
      | none => none
    | _ => none
  | _ => none

theorem put_but {w : World} {b : Nat} {o o' : Obj} (h : w.heap[b]? = some o) : But b w { w with heap := w.heap.setIfInBounds b o' } ∧ ({ w with heap := w.heap.setIfInBounds b o' } : World).heap[b]? = some o' := by
  have hlt := (Array.getElem?_eq_some_iff.1 h).1
  refine ⟨⟨rfl, rfl, rfl, by simp, fun j hj hne => ?_⟩, by simp [hlt]⟩
  have : ¬ b = j := fun e => hne e.symm
  simp [Array.getElem?_setIfInBounds, this]

theorem MRep.set {g : Gh} {w : World} {kk : IntKind} {es : List (Int × AV)} {ms : List MapEntry} {n : Int} {a : AV} {v : Value} {j : Nat} {old : Value} (h : MRep g w kk es ms) (hj : getI n ms 0 = some (j, old)) (hv : Rep g w a v) :
    MRep g w kk (insI n a es) (ms.modify j fun e => { e with key := .int kk n, val := v }) := by
  have hmod := getI_modify n kk v ms 0 j old (by simpa using hj)
  refine ⟨fun e he => ?_, fun k => ?_⟩
  · obtain ⟨q, hq⟩ := List.mem_iff_getElem?.1 he
    rw [List.getElem?_modify] at hq
    split at hq
    · obtain ⟨x, hx, rfl⟩ := Option.map_eq_some_iff.1 hq
      exact ⟨n, rfl⟩
    · obtain ⟨x, hx, rfl⟩ := Option.map_eq_some_iff.1 hq
      exact h.1 x (List.mem_iff_getElem?.2 ⟨q, hx⟩)
  · rw [hmod k, findI_insI]
    split
    · exact ⟨_, _, rfl, hv⟩
    · exact h.2 k

theorem MRep.push {g : Gh} {w : World} {kk : IntKind} {es : List (Int × AV)} {ms : List MapEntry} {n : Int} {a : AV} {v : Value} {c : Nat} (h : MRep g w kk es ms) (hj : getI n ms 0 = none) (hv : Rep g w a v) :
    MRep g w kk (insI n a es) (ms ++ [{ key := .int kk n, val := v, born := c }]) := by
  refine ⟨fun e he => ?_, fun k => ?_⟩
  · rcases List.mem_append.1 he with he | he
    · exact h.1 e he
    · simp only [List.mem_singleton] at he; subst he; exact ⟨n, rfl⟩
  · rw [getI_push _ (kk := kk) (n := n) rfl ms 0 k, findI_insI]
    by_cases e : k = n
    · subst e
      rw [hj, if_pos rfl]
      simp only [if_true]
      exact ⟨_, _, rfl, hv⟩
    · simp only [e, if_false]
      have := h.2 k
      cases hf : findI k es with
      | none => rw [hf] at this; simp only [VRep] at this ⊢; rw [this]
      | some b =>
        rw [hf] at this
        obtain ⟨i, u, h1, h2⟩ := this
        rw [h1]; exact ⟨i, u, rfl, h2⟩

theorem mapUpdate_sound {P : Program} {g : Gh} {s s' : St} {w : World} {t : TypeId} {m ix x : AV} {vm vi v : Value} (h : mapUpdateA P s t m ix x = some s') (rel : Rel g s w) (hm : Rep g w m vm) (hi : Rep g w ix vi) (hx : Rep g w x v) :
    Does P g w (Instr.mapUpdate t vm vi v) s' (fun _ _ _ => True) := by
  unfold mapUpdateA at h
  split at h
  · rename_i key elem hu
    split at h
    · rename_i kk hk
      split at h
      · rename_i n hn
        have := asKey_of hn hi
        subst this
        split at h
        · rename_i i
          split at h
          · rename_i k' es hget
            split at h
            · rename_i e
              subst e
              cases h
              simp only [Rep] at hm
              obtain ⟨_, rfl⟩ := hm
              obtain ⟨_, _, ms, c, hb, hmr⟩ := rel.objs i _ hget
              have hck := fun em => yld_checkKey_int (P := P) (k := k') (n := n) (em := em) hk w
              have hfk := yld_findKey_int (P := P) (n := n) hk hmr.1 w
              cases hg : getI n ms.toList 0 with
              | some p =>
                obtain ⟨j, old⟩ := p
                rw [hg] at hfk
                obtain ⟨q1, q2⟩ := put_but (o' := .map (ms.modify j fun e => { e with key := .int k' n, val := v }) c) hb
                obtain ⟨ext, rel'⟩ := rel.write (o' := .map k' (insI n x es)) hget q1 ⟨_, c, q2, by rw [Array.toList_modify]; exact hmr.set hg hx⟩
                refine ⟨(), _, g, ?_, ext, rel', trivial⟩
                have hkey : ((ms[j]?).map (·.key)).getD (.int k' n) = .int k' n := by
                  obtain ⟨y, q, hy, hq⟩ := getI_at (i := 0) (by simpa using hg)
                  have hy' : ms[j]? = some y := by simpa using hy
                  obtain ⟨m', hm'⟩ := hmr.1 y (List.mem_iff_getElem?.2 ⟨j, hy⟩)
                  rw [hq] at hm'
                  cases hm'
                  rw [hy']
                  simpa using hq
                have hks : (Instr.keyThatStays (.int k' n) (.int k' n)).run P w = .ok (.int k' n) w := by
                  have : Instr.sameBits 10000 (.int k' n) (.int k' n) = true := by simp [Instr.sameBits]
                  simp [Instr.keyThatStays, this]
                simp only [Instr.mapUpdate, Sem.run_bind, run_underlying hu, Result.andThen_ok, Sem.run_pure, MapKept.run_getObj_map hb, hck, hfk, hkey, hks, MapKept.run_setObj_map _ hb]
              | none =>
                rw [hg] at hfk
                obtain ⟨q1, q2⟩ := put_but (o' := .map (ms.push { key := .int k' n, val := v, born := c }) (c + 1)) hb
                obtain ⟨ext, rel'⟩ := rel.write (o' := .map k' (insI n x es)) hget q1 ⟨_, c + 1, q2, by rw [Array.toList_push]; exact hmr.push hg hx⟩
                refine ⟨(), _, g, ?_, ext, rel', trivial⟩
                simp only [Instr.mapUpdate, Sem.run_bind, run_underlying hu, Result.andThen_ok, Sem.run_pure, MapKept.run_getObj_map hb, hck, hfk, MapKept.run_setObj_map _ hb]
            · cases h
          · cases h
        · cases h
      · cases h
    · cases h
  · cases h

end Go.Am

set_option linter.unusedVariables false
set_option linter.unusedSimpArgs false
/-!
  THE ABSTRACT MACHINE, part L: append.
-/
namespace Go.Am
open Go Go.RowKit

/-- What the second argument of an append yields. -/
def srcA (P : Program) (s : St) (tx : TypeId) (size : Nat) (y : AV) : Option (Nat × List AV) :=
  match P.underlying tx with
  | some (.slice _) => match y with
    | .val (.slice none 0 _) => some (0, [])
    | .imm n cs _ => if Nat.beq cs.length (n * size) then some (n, cs) else none
    | .mut i off n _ => match s.get i with
      | some (.cells cs _) => if Nat.ble (off + n * size) cs.length then some (n, (cs.drop off).take (n * size)) else none
      | _ => none
    | _ => none
  | some .string => match y with
    | .val (.string b) => if Nat.beq size 1 then some (b.size, (byteCells b).map .val) else none
    | _ => none
  | _ => none

theorem src_sound {P : Program} {g : Gh} {s : St} {w : World} {tx : TypeId} {size k : Nat} {y : AV} {ys : List AV} {v : Value} (h : srcA P s tx size y = some (k, ys)) (rel : Rel g s w) (hy : Rep g w y v) (h1 : oneAll ys = true) :
    ∃ news, Src P size tx v k news w ∧ RepAll g w ys news := by
  unfold srcA at h
  split at h
  · rename_i e hu
    split at h
    · cases h
      simp only [Rep] at hy
      subst hy
      exact ⟨[], Src.ofNil w hu _, by simp [RepAll]⟩
    · rename_i n cs c
      split at h
      · rename_i hl
        cases h
        have hl := Nat.eq_of_beq_eq_true hl
        simp only [Rep] at hy
        obtain ⟨b, o, cap, vs, rfl, _, _, h3, h4, _⟩ := hy
        refine ⟨vs, Src.ofSlice w hu _ _ _ vs (by rw [h3.length]; exact hl) (fun j u hj => ?_) (oneAll_of h1 h3), h3⟩
        rw [Addr.add_lit]; exact (h4 j u hj).1
      · cases h
    · rename_i i off n cap
      split at h
      · rename_i cs ty hi
        split at h
        · rename_i hle
          cases h
          have hle := Nat.le_of_ble_eq_true hle
          simp only [Rep] at hy
          obtain ⟨_, rfl, _⟩ := hy
          obtain ⟨_, _, vs, hb, hvs⟩ := rel.objs i _ hi
          have hr := (hvs.drop off).take (k * size)
          have hlen : ((vs.drop off).take (k * size)).length = k * size := by rw [List.length_take, List.length_drop, hvs.length]; omega
          refine ⟨(vs.drop off).take (k * size), Src.ofSlice w hu _ _ _ _ hlen (fun j u hj => ?_) (oneAll_of h1 hr), hr⟩
          rw [Addr.add_lit]
          rw [List.getElem?_take] at hj
          split at hj
          · rw [List.getElem?_drop] at hj
            have := cells_row hb _ _ hj
            simpa using this
          · cases hj
        · cases h
      · cases h
    · cases h
  · rename_i hu
    split at h
    · rename_i b
      split at h
      · rename_i hs
        cases h
        have hs := Nat.eq_of_beq_eq_true hs
        subst hs
        simp only [Rep] at hy
        subst hy
        exact ⟨byteCells b, Src.ofString w hu b, repAll_vals _⟩
      · cases h
    · cases h
  · cases h

/-- 'append(x, y...)'. -/
def appendA (P : Program) (s : St) (i : Nat) (ts : List TypeId) (x y : AV) : Option (AV × St) :=
  match ts with
  | [t, tx] => match P.underlying t with
    | some (.slice e) => match P.info? e with
      | some ie => match ie.zero with
        | some z => match srcA P s tx ie.size y with
          | some (k, ys) => if oneAll ys then (if Nat.beq z.cells.size ie.size then
              match x with
              | .val (.slice none 0 0) => match k with
                | 0 => some (x, s)
                | k + 1 => if Nat.ble ((k + 1) * ie.bytes) 140737488355328 then (if Nat.ble (k + 1) maxLen then
                    (if isNone (s.tok i) then some (.imm (k + 1) ys (.grow i), s.addT i (k + 1)) else none) else none) else none
              | .imm n cs c => match k with
                | 0 => some (x, s)
                | k + 1 => if Nat.ble ((n + (k + 1)) * ie.bytes) 140737488355328 then (if Nat.ble (n + (k + 1)) maxLen then (if Nat.beq cs.length (n * ie.size) then
                    match c with
                    | .exact => if isNone (s.tok i) then some (.imm (n + (k + 1)) (cs ++ ys) (.grow i), s.addT i (n + (k + 1))) else none
                    | .grow t => match s.tok t with
                      | some m => if Nat.beq m n then (if Nat.blt 0 n then some (.imm (n + (k + 1)) (cs ++ ys) (.grow t), s.putT t (n + (k + 1))) else none) else none
                      | none => none
                    | .unk => none
                  else none) else none) else none
              | _ => none
            else none) else none
          | none => none
        | none => none
      | none => none
    | _ => none
  | _ => none

theorem append_none {P : Program} {w : World} {t tx ty e : TypeId} {i : TypeInfo} (ht : P.underlying t = some (.slice e)) (hi : P.info? e = some i) {b o n cap : Nat} {x : Value} {news : List Value} (hs : Src P i.size tx x 0 news w) (hn : n ≤ cap) :
    (Builtin.append_ #[t, tx] ty #[.slice (some ⟨b, o, none⟩) n cap, x]).run P w = .ok (.slice (some ⟨b, o, none⟩) n cap) w := by
  have hl : news = [] := List.eq_nil_of_length_eq_zero (by rw [hs.newsLen]; omega)
  have := run_append_room_src w t tx ty e i ht hi b o n cap x 0 news hs (by omega) (by intro j hj; rw [hl] at hj; simp at hj) (by intro j hj; rw [hl] at hj; simp at hj)
  rw [this, hl]
  rfl
theorem append_none_nil {P : Program} {w : World} {t tx ty e : TypeId} {i : TypeInfo} (ht : P.underlying t = some (.slice e)) (hi : P.info? e = some i) {x : Value} {news : List Value} (hs : Src P i.size tx x 0 news w) :
    (Builtin.append_ #[t, tx] ty #[.slice none 0 0, x]).run P w = .ok (.slice none 0 0) w := by
  rcases hs.kind with ⟨e', hk⟩ | hk <;> simp [Builtin.append_, run_underlying ht, run_underlying hk, sizeOf, typeInfo, hi, hs.len, hs.cells]

theorem zeroCells_length (z : Array Value) (n : Nat) : (Builtin.zeroCells z n).toList.length = n * z.size := by simp [Builtin.zeroCells]

theorem same_drew (w : World) : Same w w.drew := ⟨rfl, rfl, rfl, rfl⟩

/-- A new row for what grows: from nothing, or from a list without room. -/
theorem append_fresh {P : Program} {g : Gh} {s : St} {w : World} {t tx ty e : TypeId} {ie : TypeInfo} {z : Value} (ht : P.underlying t = some (.slice e)) (hi : P.info? e = some ie) (hz : ie.zero = some z) (hzs : z.cells.size = ie.size)
    {base : Option Addr} {n k tk : Nat} {cs ys : List AV} {olds news : List Value} {x : Value} (hold : (Builtin.firstCells ie.size n (.slice base n n)).run P w.drew = .ok olds.toArray w.drew) (hs : Src P ie.size tx x (k + 1) news w)
    (hb : (n + (k + 1)) * ie.bytes ≤ 140737488355328) (hm : n + (k + 1) ≤ maxLen) (hlen : olds.length = n * ie.size) (rel : Rel g s w) (htk : s.tok tk = none) (ro : RepAll g w cs olds) (rn : RepAll g w ys news) :
    Does P g w (Builtin.append_ #[t, tx] ty #[.slice base n n, x]) (s.addT tk (n + (k + 1))) (fun g' w' v => Rep g' w' (.imm (n + (k + 1)) (cs ++ ys) (.grow tk)) v) := by
  have hlt : n < n + (k + 1) := by omega
  have hrun := run_append_grow_src (P := P) w t tx ty e ie z ht hi hz base n n olds hold x (k + 1) news hs hlt (by simp only [maxLen] at hm; omega) (growslice_fits hlt hb)
  obtain ⟨cap, hcap⟩ : ∃ cap, cap = grownCap w (n + (k + 1)) n e := ⟨_, rfl⟩
  have h1 := grownCap_ge w (n + (k + 1)) n e
  have h2 := grownCap_le_maxLen w (n + (k + 1)) n e hm
  rw [← hcap] at hrun h1 h2
  have harr : (olds ++ news).toArray ++ Builtin.zeroCells z.cells (cap - (n + (k + 1))) = ((olds ++ news) ++ (Builtin.zeroCells z.cells (cap - (n + (k + 1)))).toList).toArray := by
    apply Array.ext'; simp
  rw [harr] at hrun
  have p : Push (.cells ((olds ++ news) ++ (Builtin.zeroCells z.cells (cap - (n + (k + 1)))).toList).toArray e (0, 0)) w (w.drew.alloc (.cells ((olds ++ news) ++ (Builtin.zeroCells z.cells (cap - (n + (k + 1)))).toList).toArray e)) :=
    Push.of (same_drew w) rfl
  have hl : (olds ++ news).length = (n + (k + 1)) * ie.size := by rw [List.length_append, hlen, hs.newsLen, Nat.add_mul n (k + 1)]
  obtain ⟨g', ext, rel', row, ht', htok⟩ := rel.fresh htk p hl (by rw [List.length_append, hl, zeroCells_length, hzs, ← Nat.add_mul]; congr 1; omega) h1 h2
  refine ⟨_, _, g', hrun, ext, rel', ?_⟩
  have hr := RepAll.ext ext (ro.append rn)
  simp only [Rep]
  refine ⟨w.heap.size, 0, cap, olds ++ news, rfl, h1, h2, hr, row, ht', .inr ?_⟩
  rw [htok]
  refine ⟨rfl, rfl, rfl, rfl, ?_⟩
  have := (ro.append rn).length
  rw [← this, hl]

theorem Row.append {g : Gh} {w : World} {b o : Nat} {vs us : List Value} (h : Row g w b o vs) (k : Row g w b (o + vs.length) us) : Row g w b o (vs ++ us) := fun j u hj => by
  rw [List.getElem?_append] at hj
  split at hj
  · exact h j u hj
  · rename_i hlt
    have := k _ _ hj
    have e : o + vs.length + (j - vs.length) = o + j := by omega
    rwa [e] at this

theorem append_tok {P : Program} {g : Gh} {s : St} {w : World} {t tx ty e : TypeId} {ie : TypeInfo} {z : Value} (ht : P.underlying t = some (.slice e)) (hi : P.info? e = some ie) (hz : ie.zero = some z) (hzs : z.cells.size = ie.size)
    {b o cap n k tk : Nat} {cs ys : List AV} {olds news : List Value} {x : Value} (hs : Src P ie.size tx x (k + 1) news w)
    (hb : (n + (k + 1)) * ie.bytes ≤ 140737488355328) (hm : n + (k + 1) ≤ maxLen) (h0 : 0 < n) (hlen : olds.length = n * ie.size) (rel : Rel g s w) (htk : s.tok tk = some n) (ro : RepAll g w cs olds) (rn : RepAll g w ys news) (row : Row g w b o olds)
    (hn : n ≤ cap) (hc : CapOk g (.grow tk) b o n cap cs.length) :
    Does P g w (Builtin.append_ #[t, tx] ty #[.slice (some ⟨b, o, none⟩) n cap, x]) (s.putT tk (n + (k + 1))) (fun g' w' v => Rep g' w' (.imm (n + (k + 1)) (cs ++ ys) (.grow tk)) v) := by
  obtain ⟨hu, hn', hok⟩ := rel.toks tk n htk
  obtain ⟨_, hc⟩ := hc
  have hc := hc.resolve_left (by omega)
  obtain ⟨c1, c2, c3, c4, c5⟩ := hc
  obtain ⟨C, T, hC, hCs⟩ := hok.cells
  have hS : (g.tok tk).size = ie.size := by
    rw [← ro.length, hlen] at c5
    exact (Nat.eq_of_mul_eq_mul_left h0 c5).symm
  have hadd : (n + (k + 1)) * ie.size = n * ie.size + (k + 1) * ie.size := Nat.add_mul n (k + 1) _
  have hadd1 : (k + 1) * ie.size = k * ie.size + ie.size := Nat.succ_mul k _
  have hall := (ro.append rn).length
  have hall2 : (olds ++ news).length = (n + (k + 1)) * ie.size := by rw [List.length_append, hlen, hs.newsLen, hadd]
  by_cases hroom : n + (k + 1) ≤ cap
  · have hmul : (n + (k + 1)) * ie.size ≤ cap * ie.size := Nat.mul_le_mul_right _ hroom
    have hsize : o + n * ie.size + news.length ≤ C.size := by rw [hCs, hS, ← c3, ← c4, hs.newsLen]; omega
    rw [← c2] at hC
    have hrun := run_append_room_src (P := P) w t tx ty e ie ht hi b o n cap x (k + 1) news hs hroom (fun j hj => by
        have hlt : o + n * ie.size + j < C.size := by omega
        simp [World.cell?, hC, hlt]) (fun j hj => by simp [World.frozen?, hC])
    obtain ⟨C', hC', hl'⟩ := setCells_row (o := o + n * ie.size) (vs := news) hC hsize
    have hCl : C'.size = C.size := by
      have : C'.toList.length = C.toList.length := by
        rw [hl']
        simp only [List.length_append, List.length_take, List.length_drop, Array.length_toList]
        omega
      simpa using this
    have hget : ∀ j : Nat, C'[j]? = C'.toList[j]? := fun j => by simp
    have hgetC : ∀ j : Nat, C[j]? = C.toList[j]? := fun j => by simp
    obtain ⟨g', ext, rel', row', ht', htok⟩ := rel.growIn (us := news) (k := k + 1) hu (by rw [← c2]; exact hC) (by rw [← c2]; exact setCells_but b news (o + n * ie.size) w) (by rw [← c2]; exact hC') hCl
      (by rw [hS]; exact hs.newsLen) (by rw [hn', ← c4]; exact hroom) (by omega)
      (fun j hj => by
        rw [hS, hn', ← c3] at hj
        rw [hget, hgetC, hl']
        have hl1 : (C.toList.take (o + n * ie.size)).length = o + n * ie.size := by rw [List.length_take, Array.length_toList]; omega
        rw [List.append_assoc, List.getElem?_append_left (by rw [hl1]; exact hj), List.getElem?_take, if_pos hj])
      (fun j u hj => by
        have hlt := (List.getElem?_eq_some_iff.1 hj).1
        rw [hS, hn', ← c3, hget, hl']
        have hl1 : (C.toList.take (o + n * ie.size)).length = o + n * ie.size := by rw [List.length_take, Array.length_toList]; omega
        rw [List.append_assoc, List.getElem?_append_right (by rw [hl1]; omega), hl1]
        have e1 : o + n * ie.size + j - (o + n * ie.size) = j := by omega
        rw [e1, List.getElem?_append_left hlt]
        exact hj)
    rw [hn'] at rel' htok
    refine ⟨_, _, g', hrun, ext, rel', ?_⟩
    simp only [Rep]
    refine ⟨b, o, cap, olds ++ news, rfl, hroom, by rw [c4]; exact hok.most, RepAll.ext ext (ro.append rn), (row.ext ext).append ?_, ht', .inr ?_⟩
    · rw [hlen]
      rw [hS, hn', ← c2, ← c3] at row'
      exact row'
    · rw [htok]
      exact ⟨rfl, c2, c3, c4, by rw [← hall, hall2, hS]⟩
  · have hg : cap < n + (k + 1) := by omega
    have hold := run_firstCells_some (P := P) w.drew ie.size n ⟨b, o, none⟩ n cap olds hlen (fun j u hj => by rw [Addr.add_lit]; simpa using (row j u hj).1)
    have hrun := run_append_grow_src (P := P) w t tx ty e ie z ht hi hz (some ⟨b, o, none⟩) n cap olds hold x (k + 1) news hs hg (by simp only [maxLen] at hm; omega) (growslice_fits hg hb)
    obtain ⟨cap', hcap⟩ : ∃ cap', cap' = grownCap w (n + (k + 1)) cap e := ⟨_, rfl⟩
    have h1 := grownCap_ge w (n + (k + 1)) cap e
    have h2 := grownCap_le_maxLen w (n + (k + 1)) cap e hm
    rw [← hcap] at hrun h1 h2
    have harr : (olds ++ news).toArray ++ Builtin.zeroCells z.cells (cap' - (n + (k + 1))) = ((olds ++ news) ++ (Builtin.zeroCells z.cells (cap' - (n + (k + 1)))).toList).toArray := by
      apply Array.ext'; simp
    rw [harr] at hrun
    have p : Push (.cells ((olds ++ news) ++ (Builtin.zeroCells z.cells (cap' - (n + (k + 1)))).toList).toArray e (0, 0)) w (w.drew.alloc (.cells ((olds ++ news) ++ (Builtin.zeroCells z.cells (cap' - (n + (k + 1)))).toList).toArray e)) :=
      Push.of (same_drew w) rfl
    obtain ⟨g', ext, rel', row', ht', htok⟩ := rel.growOut (k := k + 1) (cap := cap') hu p (by rw [hn', hS]; exact hlen) (by rw [hS]; exact hs.newsLen)
      (by rw [List.length_append, hall2, zeroCells_length, hzs, hS, ← Nat.add_mul]; congr 1; omega) (by rw [hn']; exact h1) h2 (by omega)
    rw [hn'] at rel' htok
    refine ⟨_, _, g', hrun, ext, rel', ?_⟩
    simp only [Rep]
    refine ⟨w.heap.size, 0, cap', olds ++ news, rfl, h1, h2, RepAll.ext ext (ro.append rn), row', ht', .inr ?_⟩
    rw [htok]
    exact ⟨rfl, rfl, rfl, rfl, by rw [← hall, hall2, hS]⟩

theorem append_sound {P : Program} {g : Gh} {s s' : St} {w : World} {i : Nat} {ts : Array TypeId} {ty : TypeId} {x y r : AV} {u v : Value} (h : appendA P s i ts.toList x y = some (r, s')) (rel : Rel g s w) (hx : Rep g w x u) (hy : Rep g w y v) :
    Does P g w (Builtin.append_ ts ty #[u, v]) s' (fun g' w' v => Rep g' w' r v) := by
  unfold appendA at h
  split at h
  · rename_i t tx hts
    have hts' : ts = #[t, tx] := by rw [← hts]
    subst hts'
    split at h
    · rename_i e hu
      split at h
      · rename_i ie hie
        split at h
        · rename_i z hz
          split at h
          · rename_i k ys hsrc
            split at h
            · rename_i hone
              split at h
              · rename_i hzs
                have hzs := Nat.eq_of_beq_eq_true hzs
                obtain ⟨news, hs, rn⟩ := src_sound hsrc rel hy hone
                split at h
                · split at h
                  · cases h
                    simp only [Rep] at hx
                    subst hx
                    exact ⟨_, w, g, append_none_nil hu hie hs, Ext.refl g w, rel, by simp [Rep]⟩
                  · split at h
                    · rename_i h1
                      split at h
                      · rename_i h2
                        split at h
                        · rename_i h3
                          cases h
                          have h1 := Nat.le_of_ble_eq_true h1
                          have h2 := Nat.le_of_ble_eq_true h2
                          simp only [Rep] at hx
                          subst hx
                          rename_i k'
                          have := append_fresh (n := 0) (olds := []) (cs := []) (ty := ty) (tk := i) hu hie hz hzs (run_firstCells_none w.drew ie.size 0 0 0) hs (by rw [Nat.zero_add]; exact h1) (by rw [Nat.zero_add]; exact h2) (by simp) rel (isNone_of h3) (by simp [RepAll]) rn
                          simpa using this
                        · cases h
                      · cases h
                    · cases h
                · rename_i n cs c
                  simp only [Rep] at hx
                  obtain ⟨b, o, cap, vs, rfl, k1, k2, k3, k4, k5⟩ := hx
                  split at h
                  · cases h
                    exact ⟨_, w, g, append_none hu hie hs k1, Ext.refl g w, rel, by simp only [Rep]; exact ⟨b, o, cap, vs, rfl, k1, k2, k3, k4, k5⟩⟩
                  · split at h
                    · rename_i h1
                      split at h
                      · rename_i h2
                        split at h
                        · rename_i h3
                          have h1 := Nat.le_of_ble_eq_true h1
                          have h2 := Nat.le_of_ble_eq_true h2
                          have h3 := Nat.eq_of_beq_eq_true h3
                          have hlen : vs.length = n * ie.size := by rw [k3.length]; exact h3
                          split at h
                          · split at h
                            · rename_i h4
                              cases h
                              have k5 : cap = n := k5
                              subst k5
                              exact append_fresh hu hie hz hzs (run_firstCells_some (P := P) w.drew ie.size cap ⟨b, o, none⟩ cap cap vs hlen (fun j u hj => by rw [Addr.add_lit]; simpa using (k4 j u hj).1)) hs h1 h2 hlen rel (isNone_of h4) k3 rn
                            · cases h
                          · rename_i tk
                            split at h
                            · rename_i m hm
                              split at h
                              · rename_i h4
                                have h4 := Nat.eq_of_beq_eq_true h4
                                subst h4
                                split at h
                                · rename_i h5
                                  cases h
                                  exact append_tok hu hie hz hzs hs h1 h2 (blt_lt h5) hlen rel hm k3 rn k4 k1 k5
                                · cases h
                              · cases h
                            · cases h
                          · cases h
                        · cases h
                      · cases h
                    · cases h
                · cases h
              · cases h
            · cases h
          · cases h
        · cases h
      · cases h
    · cases h
  · cases h

end Go.Am

set_option linter.unusedVariables false
set_option linter.unusedSimpArgs false
/-!
  THE ABSTRACT MACHINE, part M: one operation.
-/
namespace Go.Am
open Go Go.RowKit

def pickA (c x y : Option AV) : Option AV :=
  match c with
  | some (.val (.bool b)) => if b then x else y
  | _ => none

def nilCheckA : AV → Option AV
  | .ptr i off => some (.ptr i off)
  | .rptr cs off => some (.rptr cs off)
  | .func (.func f) p q => some (.func (.func f) p q)
  | .yield i => some (.yield i)
  | .iface t v => some (.iface t v)
  | _ => none

/-- An operation that asks nothing of the world. -/
def tOp (P : Program) (ev : Operand → Option AV) (o : Oper) : Option AV :=
  match o.op with
  | .move x => ev x
  | .assign x => ev x
  | .pick c x y => pickA (ev c) (ev x) (ev y)
  | .nilCheck x => match ev x with
    | some a => nilCheckA a
    | none => none
  | .binOp op t x y _ => match ev x, ev y with
    | some a, some b => binA P op t x y a b
    | _, _ => none
  | .unOp op _ x => match ev x with
    | some a => unA P op a
    | none => none
  | .convert src dst x => match ev x with
    | some a => convA P src dst a
    | none => none
  | .makeInterface t x => match ev x with
    | some a => makeIfaceA P t a
    | none => none
  | .makeFunc fn f c => match evList ev f.toList, evList ev c.toList with
    | some f, some c => some (.func fn f c)
    | _, _ => none
  | .slice t x lo hi mx => match ev x, evOpt ev lo, evOpt ev hi, evOpt ev mx with
    | some a, some l, some h, some m => sliceA P t a l h m
    | _, _, _, _ => none
  | .fieldAddr t x i => match ev x with
    | some a => fieldAddrA P t a i
    | none => none
  | .field t x i => match ev x with
    | some a => fieldA P t a i
    | none => none
  | .indexAddr t x i => match ev x, ev i with
    | some a, some b => indexAddrA P t a b
    | _, _ => none
  | .index t x i => match ev x, ev i with
    | some a, some b => indexA P t a b
    | _, _ => none
  | .extract x i => match ev x with
    | some a => extractA a i
    | none => none
  | .build t ps => match evParts ev ps.toList with
    | some q => buildA P t q
    | none => none
  | .call c => match c.callee with
    | .builtin .len => match c.args.toList, c.argTypes.toList with
      | [x], [t] => match ev x with
        | some a => lenOpA P t a
        | none => none
      | _, _ => none
    | _ => none
  | _ => none

theorem arr_eq {α : Type} {a : Array α} {l : List α} (h : a.toList = l) : a = l.toArray := by rw [← h]

theorem tOp_sound {P : Program} {g : Gh} {w : World} {ev : Operand → Option AV} {ρ : Operand → Value} {o : Oper} {r : AV} (h : tOp P ev o = some r) (hev : EvOk g w ev ρ) :
    ∃ v, (∀ w', (execOp ρ o).run P w' = .ok (.value v) w') ∧ Rep g w r v := by
  unfold tOp at h
  unfold execOp
  split at h
  · rename_i x ho
    exact ⟨_, fun w' => by simp [ho], hev _ _ h⟩
  · rename_i x ho
    exact ⟨_, fun w' => by simp [ho], hev _ _ h⟩
  · rename_i c x y ho
    unfold pickA at h
    split at h
    · rename_i b hc
      have hc := hev _ _ hc
      simp only [Rep] at hc
      cases b with
      | true =>
        simp only [if_true] at h
        exact ⟨_, fun w' => by simp [ho, hc, asBool], hev _ _ h⟩
      | false =>
        simp only [Bool.false_eq_true, if_false] at h
        exact ⟨_, fun w' => by simp [ho, hc, asBool], hev _ _ h⟩
    · cases h
  · rename_i x ho
    split at h
    · rename_i a ha
      have hr := hev _ _ ha
      unfold nilCheckA at h
      split at h
      · cases h
        refine ⟨_, fun w' => ?_, hr⟩
        simp only [Rep] at hr; obtain ⟨_, hr⟩ := hr
        simp [ho, hr]
      · cases h
        refine ⟨_, fun w' => ?_, hr⟩
        simp only [Rep] at hr; obtain ⟨_, _, _, hr, _⟩ := hr
        simp [ho, hr]
      · cases h
        refine ⟨_, fun w' => ?_, hr⟩
        simp only [Rep] at hr; obtain ⟨_, _, hr, _⟩ := hr
        simp [ho, hr]
      · cases h
        refine ⟨_, fun w' => ?_, hr⟩
        simp only [Rep] at hr; obtain ⟨_, hr⟩ := hr
        simp [ho, hr]
      · cases h
        refine ⟨_, fun w' => ?_, hr⟩
        simp only [Rep] at hr; obtain ⟨_, hr, _⟩ := hr
        simp [ho, hr]
      · cases h
    · cases h
  · rename_i op t x y yt ho
    split at h
    · rename_i a b ha hb
      obtain ⟨z, hy, hz⟩ := bin_sound h (hev _ _ ha) (hev _ _ hb)
      exact ⟨z, fun w' => by have := hy w'; simp only [ho, Sem.run_bind] at this ⊢; simp [this], hz⟩
    · cases h
  · rename_i op t x ho
    split at h
    · rename_i a ha
      obtain ⟨z, hy, hz⟩ := un_sound h (hev _ _ ha)
      exact ⟨z, fun w' => by have := hy w'; simp [ho, this], hz⟩
    · cases h
  · rename_i src dst x ho
    split at h
    · rename_i a ha
      obtain ⟨z, hy, hz⟩ := conv_sound h (hev _ _ ha)
      exact ⟨z, fun w' => by have := hy w'; simp [ho, this], hz⟩
    · cases h
  · rename_i t x ho
    split at h
    · rename_i a ha
      obtain ⟨z, hy, hz⟩ := makeIface_sound h (hev _ _ ha)
      exact ⟨z, fun w' => by have := hy w'; simp [ho, this], hz⟩
    · cases h
  · rename_i fn f c ho
    split at h
    · rename_i f' c' hf hc
      cases h
      refine ⟨.func fn (f.map ρ) (c.map ρ), fun w' => by simp [ho, Instr.makeFunc], ?_⟩
      simp only [Rep]
      exact ⟨f.toList.map ρ, c.toList.map ρ, by congr 1 <;> (apply Array.ext'; simp), evList_rep hev hf, evList_rep hev hc⟩
    · cases h
  · rename_i t x lo hi mx ho
    split at h
    · rename_i a l hh m ha hl hhi hm
      obtain ⟨z, hy, hz⟩ := slice_sound h (hev _ _ ha) (evOpt_rep hev hl) (evOpt_rep hev hhi) (evOpt_rep hev hm)
      exact ⟨z, fun w' => by have := hy w'; simp [ho, this], hz⟩
    · cases h
  · rename_i t x i ho
    split at h
    · rename_i a ha
      obtain ⟨z, hy, hz⟩ := fieldAddr_sound h (hev _ _ ha)
      exact ⟨z, fun w' => by have := hy w'; simp [ho, this], hz⟩
    · cases h
  · rename_i t x i ho
    split at h
    · rename_i a ha
      obtain ⟨z, hy, hz⟩ := field_sound h (hev _ _ ha)
      exact ⟨z, fun w' => by have := hy w'; simp [ho, this], hz⟩
    · cases h
  · rename_i t x i ho
    split at h
    · rename_i a b ha hb
      obtain ⟨z, hy, hz⟩ := indexAddr_sound h (hev _ _ ha) (hev _ _ hb)
      exact ⟨z, fun w' => by have := hy w'; simp [ho, this], hz⟩
    · cases h
  · rename_i t x i ho
    split at h
    · rename_i a b ha hb
      obtain ⟨z, hy, hz⟩ := index_sound h (hev _ _ ha) (hev _ _ hb)
      exact ⟨z, fun w' => by have := hy w'; simp [ho, this], hz⟩
    · cases h
  · rename_i x i ho
    split at h
    · rename_i a ha
      obtain ⟨z, hy, hz⟩ := extract_sound (P := P) h (hev _ _ ha)
      exact ⟨z, fun w' => by have := hy w'; simp [ho, this], hz⟩
    · cases h
  · rename_i t ps ho
    split at h
    · rename_i q hq
      obtain ⟨z, hy, hz⟩ := build_sound (qs := ps.map fun (i, x) => (i, ρ x)) h (by
        have := evParts_rep hev hq
        simpa using this)
      exact ⟨z, fun w' => by have := hy w'; simp only [ho, Sem.run_bind, this]; rfl, hz⟩
    · cases h
  · rename_i c ho
    split at h
    · rename_i hc
      split at h
      · rename_i x t hx ht
        split at h
        · rename_i a ha
          have hx := arr_eq hx
          have ht := arr_eq ht
          obtain ⟨z, hy, hz⟩ := len_sound (P := P) (ty := o.type) h (hev _ _ ha)
          refine ⟨z, fun w' => ?_, hz⟩
          have := hy w'
          simp [ho, resolve, hc, hx, ht, invoke, builtin, this]
        · cases h
      · cases h
    · cases h
  · cases h

/-- An operation that reads. -/
def rOp (P : Program) (ev : Operand → Option AV) (s : St) (o : Oper) : Option AV :=
  match o.op with
  | .load t x => match ev x with
    | some a => loadA P s t a
    | none => none
  | .lookup t x k ok => match ev x, ev k with
    | some a, some b => lookupA P s t a b ok
    | _, _ => none
  | _ => none

theorem rOp_sound {P : Program} {g : Gh} {s : St} {w : World} {ev : Operand → Option AV} {ρ : Operand → Value} {o : Oper} {r : AV} (h : rOp P ev s o = some r) (rel : Rel g s w) (hev : EvOk g w ev ρ) :
    ∃ v, (execOp ρ o).run P w = .ok (.value v) w ∧ Rep g w r v := by
  unfold rOp at h
  unfold execOp
  split at h
  · rename_i t x ho
    split at h
    · rename_i a ha
      obtain ⟨v, hr, hv⟩ := load_sound h rel (hev _ _ ha)
      exact ⟨v, by simp [ho, hr], hv⟩
    · cases h
  · rename_i t x k ok ho
    split at h
    · rename_i a b ha hb
      obtain ⟨v, hr, hv⟩ := lookup_sound h rel (hev _ _ ha) (hev _ _ hb)
      exact ⟨v, by simp [ho, hr], hv⟩
    · cases h
  · cases h

/-- What an operation comes to, that is no call. -/
def NextIs (x : Next) (v : Value) : Prop := x = .value v ∨ x = .skip ∧ v = undef

def withS (r : Option St) : Option (AV × St) :=
  match r with
  | some s => some (.val undef, s)
  | none => none

/-- An operation that turns the memory; a new thing bears the number i. -/
def eOp (P : Program) (ev : Operand → Option AV) (i : Nat) (s : St) (o : Oper) : Option (AV × St) :=
  match o.op with
  | .alloc t => allocA P s i t
  | .box t x => match ev x with
    | some a => boxA s i t a
    | none => none
  | .buildSlice t len ps => match evParts ev ps.toList with
    | some q => match buildSliceA P t len q with
      | some r => some (r, s)
      | none => none
    | none => none
  | .store t x y => match ev x, ev y with
    | some a, some b => withS (storeA P s t a b)
    | _, _ => none
  | .makeMap t r => match evOpt ev r with
    | some q => makeMapA P s i t q
    | none => none
  | .makeSlice t l c => match ev l, ev c with
    | some a, some b => makeSliceA P s i t a b
    | _, _ => none
  | .mapUpdate t m k x => match ev m, ev k, ev x with
    | some a, some b, some c => withS (mapUpdateA P s t a b c)
    | _, _, _ => none
  | .insert t m k x => match ev m, ev k, ev x with
    | some a, some b, some c => withS (mapUpdateA P s t a b c)
    | _, _, _ => none
  | .call c => match c.callee with
    | .builtin .append => match c.args.toList with
      | [x, y] => match ev x, ev y with
        | some a, some b => appendA P s i c.argTypes.toList a b
        | _, _ => none
      | _ => none
    | _ => none
  | _ => none

theorem eOp_sound {P : Program} {g : Gh} {s s' : St} {w : World} {ev : Operand → Option AV} {ρ : Operand → Value} {o : Oper} {i : Nat} {r : AV} (h : eOp P ev i s o = some (r, s')) (rel : Rel g s w) (hev : EvOk g w ev ρ) :
    ∃ x v w' g', (execOp ρ o).run P w = .ok x w' ∧ NextIs x v ∧ Ext g w g' w' ∧ Rel g' s' w' ∧ Rep g' w' r v := by
  have value : ∀ {x : Sem Value}, Does P g w x s' (fun g' w' v => Rep g' w' r v) → (execOp ρ o = do pure (.value (← x))) → ∃ x v w' g', (execOp ρ o).run P w = .ok x w' ∧ NextIs x v ∧ Ext g w g' w' ∧ Rel g' s' w' ∧ Rep g' w' r v := by
    rintro x ⟨v, w', g', h1, h2, h3, h4⟩ he
    exact ⟨_, v, w', g', by rw [he]; simp [h1], .inl rfl, h2, h3, h4⟩
  have unit : ∀ {x : Sem Unit} {q : Option St}, withS q = some (r, s') → (∀ s1, q = some s1 → Does P g w x s1 (fun _ _ _ => True)) → (execOp ρ o = do x; pure .skip) → ∃ x v w' g', (execOp ρ o).run P w = .ok x w' ∧ NextIs x v ∧ Ext g w g' w' ∧ Rel g' s' w' ∧ Rep g' w' r v := by
    intro x q hq hx he
    cases q with
    | none => cases hq
    | some s1 =>
      cases hq
      obtain ⟨v, w', g', h1, h2, h3, _⟩ := hx _ rfl
      exact ⟨_, undef, w', g', by rw [he]; simp [h1], .inr ⟨rfl, rfl⟩, h2, h3, by simp [Rep]⟩
  unfold eOp at h
  split at h
  · rename_i t ho
    exact value (alloc_sound h rel) (by simp [execOp, ho])
  · rename_i t x ho
    split at h
    · rename_i a ha
      exact value (box_sound h rel (hev _ _ ha)) (by simp [execOp, ho])
    · cases h
  · rename_i t len ps ho
    split at h
    · rename_i q hq
      split at h
      · rename_i r' hr
        cases h
        exact value (buildSlice_sound (qs := ps.map fun (i, x) => (i, ρ x)) hr rel (by
          have := evParts_rep hev hq
          simpa using this)) (by simp [execOp, ho])
      · cases h
    · cases h
  · rename_i t x y ho
    split at h
    · rename_i a b ha hb
      exact unit h (fun s1 hs => store_sound hs rel (hev _ _ ha) (hev _ _ hb)) (by simp [execOp, ho])
    · cases h
  · rename_i t q ho
    split at h
    · rename_i q' hq
      exact value (makeMap_sound h rel (evOpt_rep hev hq)) (by simp [execOp, ho])
    · cases h
  · rename_i t l c ho
    split at h
    · rename_i a b ha hb
      exact value (makeSlice_sound h rel (hev _ _ ha) (hev _ _ hb)) (by simp [execOp, ho])
    · cases h
  · rename_i t m k x ho
    split at h
    · rename_i a b c ha hb hc
      exact unit h (fun s1 hs => mapUpdate_sound hs rel (hev _ _ ha) (hev _ _ hb) (hev _ _ hc)) (by simp [execOp, ho])
    · cases h
  · rename_i t m k x ho
    split at h
    · rename_i a b c ha hb hc
      exact unit h (fun s1 hs => mapUpdate_sound hs rel (hev _ _ ha) (hev _ _ hb) (hev _ _ hc)) (by simp [execOp, ho])
    · cases h
  · rename_i c ho
    split at h
    · rename_i hc
      split at h
      · rename_i x y hxy
        split at h
        · rename_i a b ha hb
          refine value (append_sound (ty := o.type) h rel (hev _ _ ha) (hev _ _ hb)) ?_
          have hxy := arr_eq hxy
          simp [execOp, ho, resolve, hc, hxy, invoke, builtin]
        · cases h
      · cases h
    · cases h
  · cases h

end Go.Am

set_option linter.unusedVariables false
set_option linter.unusedSimpArgs false
/-!
  THE ABSTRACT MACHINE, part N: values that bear no number of an object; comparing values; the frame rule.
-/
namespace Go.Am
open Go Go.RowKit

mutual
def closedA : AV → Bool
  | .val _ => true
  | .ptr _ _ => false
  | .rptr cs _ => closedAll cs
  | .imm _ cs c => match c with
    | .grow _ => false
    | _ => closedAll cs
  | .mut _ _ _ _ => false
  | .map _ => false
  | .func _ f c => if closedAll f then closedAll c else false
  | .yield _ => false
  | .iface _ v => closedA v
  | .agg cs => closedAll cs
  | .tuple vs => closedAll vs
def closedAll : List AV → Bool
  | [] => true
  | a :: r => if closedA a then closedAll r else false
end

mutual
theorem Rep.closed {g g' : Gh} {w : World} (hf : ∀ b j, g.fix b j → g'.fix b j) : ∀ {a : AV} {v : Value}, closedA a = true → Rep g w a v → Rep g' w a v
  | .val u, v, _, h => by simpa [Rep] using h
  | .ptr _ _, v, hc, h => by cases hc
  | .rptr cs off, v, hc, h => by
    simp only [Rep] at h ⊢
    simp only [closedA] at hc
    obtain ⟨b, o, vs, h1, h2, h3⟩ := h
    exact ⟨b, o, vs, h1, RepAll.closed hf hc h2, fun j u hj => ⟨(h3 j u hj).1, hf _ _ (h3 j u hj).2⟩⟩
  | .imm n cs c, v, hc, h => by
    simp only [Rep] at h ⊢
    obtain ⟨b, o, cap, vs, h1, h2, h3, h4, h5, h6⟩ := h
    cases c with
    | grow t => simp [closedA] at hc
    | exact =>
      simp only [closedA] at hc
      exact ⟨b, o, cap, vs, h1, h2, h3, RepAll.closed hf hc h4, fun j u hj => ⟨(h5 j u hj).1, hf _ _ (h5 j u hj).2⟩, h6⟩
    | unk =>
      simp only [closedA] at hc
      exact ⟨b, o, cap, vs, h1, h2, h3, RepAll.closed hf hc h4, fun j u hj => ⟨(h5 j u hj).1, hf _ _ (h5 j u hj).2⟩, h6⟩
  | .mut _ _ _ _, v, hc, h => by cases hc
  | .map _, v, hc, h => by cases hc
  | .func fn f c, v, hc, h => by
    simp only [Rep] at h ⊢
    simp only [closedA] at hc
    obtain ⟨fs, cs, h1, h2, h3⟩ := h
    split at hc
    · rename_i hf'
      exact ⟨fs, cs, h1, RepAll.closed hf hf' h2, RepAll.closed hf hc h3⟩
    · cases hc
  | .yield _, v, hc, h => by cases hc
  | .iface t x, v, hc, h => by
    simp only [Rep] at h ⊢
    simp only [closedA] at hc
    obtain ⟨u, h1, h2⟩ := h
    exact ⟨u, h1, Rep.closed hf hc h2⟩
  | .agg cs, v, hc, h => by
    simp only [Rep] at h ⊢
    simp only [closedA] at hc
    obtain ⟨vs, h1, h2⟩ := h
    exact ⟨vs, h1, RepAll.closed hf hc h2⟩
  | .tuple cs, v, hc, h => by
    simp only [Rep] at h ⊢
    simp only [closedA] at hc
    obtain ⟨vs, h1, h2⟩ := h
    exact ⟨vs, h1, RepAll.closed hf hc h2⟩
theorem RepAll.closed {g g' : Gh} {w : World} (hf : ∀ b j, g.fix b j → g'.fix b j) : ∀ {cs : List AV} {vs : List Value}, closedAll cs = true → RepAll g w cs vs → RepAll g' w cs vs
  | [], vs, _, h => by simpa [RepAll] using h
  | a :: r, vs, hc, h => by
    simp only [RepAll] at h ⊢
    simp only [closedAll] at hc
    obtain ⟨v, q, h1, h2, h3⟩ := h
    split at hc
    · rename_i ha
      exact ⟨v, q, h1, Rep.closed hf ha h2, RepAll.closed hf hc h3⟩
    · cases hc
end

mutual
/-- Lists that may grow, as lists of which that is not known. -/
def weakA : AV → AV
  | .rptr cs off => .rptr (weakAll cs) off
  | .imm n cs c => .imm n (weakAll cs) (match c with
    | .grow _ => .unk
    | c => c)
  | .func fn f c => .func fn (weakAll f) (weakAll c)
  | .iface t v => .iface t (weakA v)
  | .agg cs => .agg (weakAll cs)
  | .tuple vs => .tuple (weakAll vs)
  | a => a
def weakAll : List AV → List AV
  | [] => []
  | a :: r => weakA a :: weakAll r
end
mutual
theorem Rep.weak {g : Gh} {w : World} : ∀ {a : AV} {v : Value}, Rep g w a v → Rep g w (weakA a) v
  | .val u, v, h => h
  | .ptr _ _, v, h => h
  | .rptr cs off, v, h => by
    simp only [weakA, Rep] at h ⊢
    obtain ⟨b, o, vs, h1, h2, h3⟩ := h
    exact ⟨b, o, vs, h1, RepAll.weak h2, h3⟩
  | .imm n cs c, v, h => by
    simp only [weakA, Rep] at h ⊢
    obtain ⟨b, o, cap, vs, h1, h2, h3, h4, h5, h6⟩ := h
    refine ⟨b, o, cap, vs, h1, h2, h3, RepAll.weak h4, h5, ?_⟩
    cases c with
    | exact => exact h6
    | unk => trivial
    | grow t => trivial
  | .mut _ _ _ _, v, h => h
  | .map _, v, h => h
  | .func fn f c, v, h => by
    simp only [weakA, Rep] at h ⊢
    obtain ⟨fs, cs, h1, h2, h3⟩ := h
    exact ⟨fs, cs, h1, RepAll.weak h2, RepAll.weak h3⟩
  | .yield _, v, h => h
  | .iface t x, v, h => by
    simp only [weakA, Rep] at h ⊢
    obtain ⟨u, h1, h2⟩ := h
    exact ⟨u, h1, Rep.weak h2⟩
  | .agg cs, v, h => by
    simp only [weakA, Rep] at h ⊢
    obtain ⟨vs, h1, h2⟩ := h
    exact ⟨vs, h1, RepAll.weak h2⟩
  | .tuple cs, v, h => by
    simp only [weakA, Rep] at h ⊢
    obtain ⟨vs, h1, h2⟩ := h
    exact ⟨vs, h1, RepAll.weak h2⟩
theorem RepAll.weak {g : Gh} {w : World} : ∀ {cs : List AV} {vs : List Value}, RepAll g w cs vs → RepAll g w (weakAll cs) vs
  | [], vs, h => h
  | a :: r, vs, h => by
    simp only [weakAll, RepAll] at h ⊢
    obtain ⟨v, q, h1, h2, h3⟩ := h
    exact ⟨v, q, h1, Rep.weak h2, RepAll.weak h3⟩
end

def shutB (q : AV) : Option AV := if closedA q then some q else none
/-- What a call hands back that leaves the memory as it was. -/
def shutA (r : AV) : Option AV := if closedA r then some r else shutB (weakA r)
theorem shutA_rep {r q : AV} (h : shutA r = some q) : closedA q = true ∧ ∀ {g : Gh} {w : World} {v : Value}, Rep g w r v → Rep g w q v := by
  unfold shutA at h
  split at h
  · rename_i hc; cases h; exact ⟨hc, fun h => h⟩
  · unfold shutB at h
    split at h
    · rename_i hc; cases h; exact ⟨hc, fun h => h.weak⟩
    · cases h

/-! ### The frame rule -/
def St.empty : St := { next := 0, objs := [], toks := [] }

/-- A ghost for a call of its own: all that is there is old. -/
def Gh.own (g : Gh) (w : World) : Gh := { base := w.heap.size, use := fun _ => False, blk := g.blk, fix := g.fix, tuse := fun _ => False, tok := g.tok }

theorem Rel.own {g : Gh} {s : St} {w : World} (h : Rel g s w) : Rel (g.own w) St.empty w :=
  ⟨Nat.le_refl _, fun i o hi => by simp [St.get, St.empty, lookL] at hi, fun _ h => h.elim, fun _ _ h => h.elim, fun _ h => h.elim, fun t n ht => by simp [St.tok, St.empty, lookL] at ht,
    fun _ h => h.elim, fun _ _ h => h.elim, fun _ _ h => h.elim, h.fixs⟩

/-- Back from it: what it has fixed stays; its objects are forgotten. -/
theorem Rel.back {g g1 : Gh} {s s1 : St} {w w1 : World} (h : Rel g s w) (e : Ext (g.own w) w g1 w1) (h1 : Rel g1 s1 w1) :
    Ext g w { g with fix := g1.fix } w1 ∧ Rel { g with fix := g1.fix } s w1 := by
  have hb : Below w.heap.size w w1 := e.below
  have hold : ∀ b j, b < w.heap.size → (g1.fix b j ↔ g.fix b j) := fun b j hlt => ⟨e.fixOld b j hlt, e.fix b j⟩
  have hblock : ∀ k, k < w.heap.size → w1.heap[k]? = w.heap[k]? := hb.block
  have ext : Ext g w { g with fix := g1.fix } w1 := by
    refine ⟨rfl, ⟨hb.os, hb.tape, hb.output, hb.size, fun k hk => hblock k (Nat.lt_of_lt_of_le hk h.top)⟩, fun _ h => h, fun _ _ => rfl, fun b j hf => e.fix b j hf,
      fun b j hlt hf => (hold b j (Nat.lt_of_lt_of_le hlt h.top)).1 hf, fun b j hf => e.cell b j hf, fun _ h => h, fun _ _ => .inl rfl⟩
  refine ⟨ext, ⟨Nat.le_trans h.top hb.size, fun i o hi => ?_, h.used, h.inj, fun i hi j hf => ?_, fun t n ht => ?_, h.tused, h.tinj, h.apart, fun b j hf => h1.fixs b j hf⟩⟩
  · obtain ⟨a1, a2, a3⟩ := h.objs i o hi
    refine ⟨a1, a2, ?_⟩
    show ORep _ _ o w1.heap[g.blk i]?
    rw [hblock _ a3.lt]
    exact a3.ext ext
  · exact h.free i hi j ((hold _ _ (h.blk_lt hi)).1 hf)
  · obtain ⟨a1, a2, a3⟩ := h.toks t n ht
    refine ⟨a1, a2, a3.old, ?_, a3.room, a3.most, fun j hj hf => a3.spare j hj ((hold _ _ (h.tok_lt a1)).1 hf)⟩
    show ∃ C T, w1.heap[(g.tok t).b]? = _ ∧ _
    rw [hblock _ (h.tok_lt a1)]
    exact a3.cells

/-! ### Comparing -/
def eqV : Value → Value → Bool
  | .bool a, .bool b => a == b
  | .int k a, .int k' b => if k = k' then decide (a = b) else false
  | .string a, .string b => decide (a.data.toList = b.data.toList)
  | .pointer none, .pointer none => true
  | .slice none a b, .slice none c d => if Nat.beq a c then Nat.beq b d else false
  | .map none, .map none => true
  | .nilFunc, .nilFunc => true
  | .nilIface, .nilIface => true
  | .tuple a, .tuple b => match a.toList, b.toList with
    | [], [] => true
    | _, _ => false
  | _, _ => false
theorem eqV_eq {a b : Value} (h : eqV a b = true) : a = b := by
  unfold eqV at h
  split at h
  · simpa using h
  · split at h
    · rename_i e; subst e; have := of_decide_eq_true h; subst this; rfl
    · cases h
  · rename_i x y
    have := of_decide_eq_true h
    have h2 : x.data = y.data := Array.ext' this
    cases x; cases y; simp only at h2; subst h2; rfl
  · rfl
  · split at h
    · rename_i e
      have h1 := Nat.eq_of_beq_eq_true e
      have h2 := Nat.eq_of_beq_eq_true h
      subst h1; subst h2; rfl
    · cases h
  · rfl
  · rfl
  · rfl
  · rename_i x y
    split at h
    · rename_i e1 e2
      have h1 : x = #[] := by rw [arr_eq e1]
      have h2 : y = #[] := by rw [arr_eq e2]
      rw [h1, h2]
    · cases h
  · cases h

def eqC : Cap → Cap → Bool
  | .exact, .exact => true
  | .unk, .unk => true
  | .grow a, .grow b => Nat.beq a b
  | _, _ => false
theorem eqC_eq {a b : Cap} (h : eqC a b = true) : a = b := by
  cases a <;> cases b <;> first
    | rfl
    | (have := Nat.eq_of_beq_eq_true h; subst this; rfl)
    | cases h

def eqF : Fn → Fn → Bool
  | .func a, .func b => Nat.beq a b
  | _, _ => false
theorem eqF_eq {a b : Fn} (h : eqF a b = true) : a = b := by
  cases a <;> cases b <;> first
    | (have := Nat.eq_of_beq_eq_true h; subst this; rfl)
    | cases h

mutual
def eqA : AV → AV → Bool
  | .val u, y => match y with
    | .val v => eqV u v
    | _ => false
  | .ptr i o, y => match y with
    | .ptr j p => if Nat.beq i j then Nat.beq o p else false
    | _ => false
  | .rptr cs o, y => match y with
    | .rptr ds p => if Nat.beq o p then eqAll cs ds else false
    | _ => false
  | .imm n cs c, y => match y with
    | .imm m ds d => if Nat.beq n m then (if eqC c d then eqAll cs ds else false) else false
    | _ => false
  | .mut i o n c, y => match y with
    | .mut j p m d => if Nat.beq i j then (if Nat.beq o p then (if Nat.beq n m then Nat.beq c d else false) else false) else false
    | _ => false
  | .map i, y => match y with
    | .map j => Nat.beq i j
    | _ => false
  | .func f a b, y => match y with
    | .func f' a' b' => if eqF f f' then (if eqAll a a' then eqAll b b' else false) else false
    | _ => false
  | .yield i, y => match y with
    | .yield j => Nat.beq i j
    | _ => false
  | .iface t v, y => match y with
    | .iface u w => if Nat.beq t u then eqA v w else false
    | _ => false
  | .agg cs, y => match y with
    | .agg ds => eqAll cs ds
    | _ => false
  | .tuple cs, y => match y with
    | .tuple ds => eqAll cs ds
    | _ => false
def eqAll : List AV → List AV → Bool
  | [], y => match y with
    | [] => true
    | _ => false
  | a :: r, y => match y with
    | b :: q => if eqA a b then eqAll r q else false
    | _ => false
end

mutual
theorem eqA_eq : ∀ {a b : AV}, eqA a b = true → a = b
  | .val u, b, h => by
    simp only [eqA] at h
    split at h
    · rw [eqV_eq h]
    · cases h
  | .ptr i o, b, h => by
    simp only [eqA] at h
    split at h
    · split at h
      · rename_i e; rw [Nat.eq_of_beq_eq_true e, Nat.eq_of_beq_eq_true h]
      · cases h
    · cases h
  | .rptr cs o, b, h => by
    simp only [eqA] at h
    split at h
    · split at h
      · rename_i e; rw [Nat.eq_of_beq_eq_true e, eqAll_eq h]
      · cases h
    · cases h
  | .imm n cs c, b, h => by
    simp only [eqA] at h
    split at h
    · split at h
      · rename_i e
        split at h
        · rename_i e2; rw [Nat.eq_of_beq_eq_true e, eqC_eq e2, eqAll_eq h]
        · cases h
      · cases h
    · cases h
  | .mut i o n c, b, h => by
    simp only [eqA] at h
    split at h
    · split at h
      · rename_i e
        split at h
        · rename_i e2
          split at h
          · rename_i e3; rw [Nat.eq_of_beq_eq_true e, Nat.eq_of_beq_eq_true e2, Nat.eq_of_beq_eq_true e3, Nat.eq_of_beq_eq_true h]
          · cases h
        · cases h
      · cases h
    · cases h
  | .map i, b, h => by
    simp only [eqA] at h
    split at h
    · rw [Nat.eq_of_beq_eq_true h]
    · cases h
  | .func f x y, b, h => by
    simp only [eqA] at h
    split at h
    · split at h
      · rename_i e
        split at h
        · rename_i e2; rw [eqF_eq e, eqAll_eq e2, eqAll_eq h]
        · cases h
      · cases h
    · cases h
  | .yield i, b, h => by
    simp only [eqA] at h
    split at h
    · rw [Nat.eq_of_beq_eq_true h]
    · cases h
  | .iface t v, b, h => by
    simp only [eqA] at h
    split at h
    · split at h
      · rename_i e; rw [Nat.eq_of_beq_eq_true e, eqA_eq h]
      · cases h
    · cases h
  | .agg cs, b, h => by
    simp only [eqA] at h
    split at h
    · rw [eqAll_eq h]
    · cases h
  | .tuple cs, b, h => by
    simp only [eqA] at h
    split at h
    · rw [eqAll_eq h]
    · cases h
theorem eqAll_eq : ∀ {a b : List AV}, eqAll a b = true → a = b
  | [], b, h => by
    simp only [eqAll] at h
    split at h
    · rfl
    · cases h
  | a :: r, b, h => by
    simp only [eqAll] at h
    split at h
    · split at h
      · rename_i e; rw [eqA_eq e, eqAll_eq h]
      · cases h
    · cases h
end

def eqT : Tr → Tr → Bool
  | .leaf, y => match y with
    | .leaf => true
    | _ => false
  | .node v l r, y => match y with
    | .node u a b => if eqA v u then (if eqT l a then eqT r b else false) else false
    | _ => false
theorem eqT_eq : ∀ {a b : Tr}, eqT a b = true → a = b
  | .leaf, b, h => by
    simp only [eqT] at h
    split at h
    · rfl
    · cases h
  | .node v l r, b, h => by
    simp only [eqT] at h
    split at h
    · split at h
      · rename_i e
        split at h
        · rename_i e2; rw [eqA_eq e, eqT_eq e2, eqT_eq h]
        · cases h
      · cases h
    · cases h

def eqEs : List (Int × AV) → List (Int × AV) → Bool
  | [], y => match y with
    | [] => true
    | _ => false
  | (n, a) :: r, y => match y with
    | (m, b) :: q => if decide (n = m) then (if eqA a b then eqEs r q else false) else false
    | _ => false
theorem eqEs_eq : ∀ {a b : List (Int × AV)}, eqEs a b = true → a = b
  | [], b, h => by
    simp only [eqEs] at h
    split at h
    · rfl
    · cases h
  | (n, a) :: r, b, h => by
    simp only [eqEs] at h
    split at h
    · split at h
      · rename_i e
        split at h
        · rename_i e2; rw [of_decide_eq_true e, eqA_eq e2, eqEs_eq h]
        · cases h
      · cases h
    · cases h

def eqO : AObj → AObj → Bool
  | .cells cs t, .cells ds u => if Nat.beq t u then eqAll cs ds else false
  | .map k es, .map k' fs => if k = k' then eqEs es fs else false
  | .mark, .mark => true
  | .gone, .gone => true
  | _, _ => false
theorem eqO_eq {a b : AObj} (h : eqO a b = true) : a = b := by
  unfold eqO at h
  split at h
  · split at h
    · rename_i e; rw [Nat.eq_of_beq_eq_true e, eqAll_eq h]
    · cases h
  · split at h
    · rename_i e; rw [e, eqEs_eq h]
    · cases h
  · rfl
  · rfl
  · cases h

def eqOs : List (Nat × AObj) → List (Nat × AObj) → Bool
  | [], y => match y with
    | [] => true
    | _ => false
  | (n, a) :: r, y => match y with
    | (m, b) :: q => if Nat.beq n m then (if eqO a b then eqOs r q else false) else false
    | _ => false
theorem eqOs_eq : ∀ {a b : List (Nat × AObj)}, eqOs a b = true → a = b
  | [], b, h => by
    simp only [eqOs] at h
    split at h
    · rfl
    · cases h
  | (n, a) :: r, b, h => by
    simp only [eqOs] at h
    split at h
    · split at h
      · rename_i e
        split at h
        · rename_i e2; rw [Nat.eq_of_beq_eq_true e, eqO_eq e2, eqOs_eq h]
        · cases h
      · cases h
    · cases h
def eqTs : List (Nat × Nat) → List (Nat × Nat) → Bool
  | [], y => match y with
    | [] => true
    | _ => false
  | (n, a) :: r, y => match y with
    | (m, b) :: q => if Nat.beq n m then (if Nat.beq a b then eqTs r q else false) else false
    | _ => false
theorem eqTs_eq : ∀ {a b : List (Nat × Nat)}, eqTs a b = true → a = b
  | [], b, h => by
    simp only [eqTs] at h
    split at h
    · rfl
    · cases h
  | (n, a) :: r, b, h => by
    simp only [eqTs] at h
    split at h
    · split at h
      · rename_i e
        split at h
        · rename_i e2; rw [Nat.eq_of_beq_eq_true e, Nat.eq_of_beq_eq_true e2, eqTs_eq h]
        · cases h
      · cases h
    · cases h
def eqS (s s' : St) : Bool := if Nat.beq s.next s'.next then (if eqTs s.toks s'.toks then eqOs s.objs s'.objs else false) else false
theorem eqS_eq {s s' : St} (h : eqS s s' = true) : s = s' := by
  unfold eqS at h
  split at h
  · rename_i e1
    split at h
    · rename_i e2
      have h1 := Nat.eq_of_beq_eq_true e1
      have h2 := eqTs_eq e2
      have h3 := eqOs_eq h
      cases s; cases s'
      simp only at h1 h2 h3
      rw [h1, h2, h3]
    · cases h
  · cases h

end Go.Am
