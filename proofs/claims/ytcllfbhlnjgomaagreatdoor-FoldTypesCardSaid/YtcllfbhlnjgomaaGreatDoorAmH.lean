import Derived.Test.YtcllfbhlnjgomaaGreatDoorAmG
set_option linter.unusedVariables false
set_option linter.unusedSimpArgs false
/-!
  THE ABSTRACT MACHINE, part H: reckoning with plain values; comparing with nil; slicing.
-/
namespace Go.Am
open Go Go.RowKit

def plainAll : List AV → Option (List Value)
  | [] => some []
  | .val v :: r => match plainAll r with
    | some q => some (v :: q)
    | none => none
  | _ => none
theorem plainAll_of {g : Gh} {w : World} : ∀ {cs : List AV} {us vs : List Value}, plainAll cs = some us → RepAll g w cs vs → vs = us
  | [], us, vs, h, hr => by simp only [plainAll, Option.some.injEq] at h; subst h; simpa [RepAll] using hr
  | a :: r, us, vs, h, hr => by
    cases a with
    | val v =>
      simp only [plainAll] at h
      split at h
      · rename_i q hq
        cases h
        simp only [RepAll, Rep] at hr
        obtain ⟨_, q', rfl, rfl, h2⟩ := hr
        rw [plainAll_of hq h2]
      · cases h
    | _ => simp [plainAll] at h

/-- A value in which nothing is symbolic. -/
def valOf : AV → Option Value
  | .val v => some v
  | .agg cs => match plainAll cs with
    | some vs => some (.agg vs.toArray)
    | none => none
  | _ => none
theorem valOf_of {g : Gh} {w : World} {a : AV} {u v : Value} (h : valOf a = some u) (hr : Rep g w a v) : v = u := by
  cases a with
  | val x => simp only [valOf, Option.some.injEq] at h; subst h; simpa [Rep] using hr
  | agg cs =>
    simp only [valOf] at h
    split at h
    · rename_i vs hvs
      cases h
      simp only [Rep] at hr
      obtain ⟨us, rfl, h2⟩ := hr
      rw [plainAll_of hvs h2]
    · cases h
  | _ => simp [valOf] at h

def ofVal : Value → AV
  | .agg cs => .agg (cs.toList.map .val)
  | v => .val v
theorem ofVal_rep (g : Gh) (w : World) (v : Value) : Rep g w (ofVal v) v := by
  cases v with
  | agg cs => simp only [ofVal, Rep]; exact ⟨cs.toList, rfl, repAll_vals _⟩
  | _ => simp [ofVal, Rep]

/-- Is it a comparison of something that is there with nil? -/
def nilCmp (P : Program) (t : TypeId) (x y : AV) : Bool :=
  match P.underlying t with
  | some (.slice _) => match x, y with
    | .imm _ _ _, .val (.slice none _ _) => true
    | .mut _ _ _ _, .val (.slice none _ _) => true
    | .val (.slice none _ _), .imm _ _ _ => true
    | .val (.slice none _ _), .mut _ _ _ _ => true
    | _, _ => false
  | some (.pointer _) => match x, y with
    | .ptr _ _, .val (.pointer none) => true
    | .rptr _ _, .val (.pointer none) => true
    | .val (.pointer none), .ptr _ _ => true
    | .val (.pointer none), .rptr _ _ => true
    | _, _ => false
  | some (.map _ _) => match x, y with
    | .map _, .val (.map none) => true
    | _, _ => false
  | some (.interface _) => match x, y with
    | .iface _ _, .val .nilIface => true
    | .val .nilIface, .iface _ _ => true
    | _, _ => false
  | some (.func _ _ _) => match x, y with
    | .func _ _ _, .val .nilFunc => true
    | .yield _, .val .nilFunc => true
    | .val .nilFunc, .func _ _ _ => true
    | _, _ => false
  | _ => false

theorem equal_of_nilCmp {P : Program} {g : Gh} {w : World} {t : TypeId} {x y : AV} {u v : Value} (h : nilCmp P t x y = true) (hx : Rep g w x u) (hy : Rep g w y v) : Yld P (Op.equal t u v) false := by
  intro w'
  suffices H : ∀ d, (Op.equalIn (d + 1) t u v).run P w' = .ok false w' from H 9999
  intro d
  unfold nilCmp at h
  split at h <;> rename_i hu
  · split at h <;> (try simp only [Rep] at hx hy)
    · obtain ⟨_, _, _, _, rfl, _⟩ := hx; subst hy; simp [Op.equalIn, run_underlying hu]
    · obtain ⟨_, rfl, _⟩ := hx; subst hy; simp [Op.equalIn, run_underlying hu]
    · obtain ⟨_, _, _, _, rfl, _⟩ := hy; subst hx; simp [Op.equalIn, run_underlying hu]
    · obtain ⟨_, rfl, _⟩ := hy; subst hx; simp [Op.equalIn, run_underlying hu]
    · cases h
  · split at h <;> (try simp only [Rep] at hx hy)
    · obtain ⟨_, rfl⟩ := hx; subst hy; simp [Op.equalIn, run_underlying hu]
    · obtain ⟨_, _, _, rfl, _⟩ := hx; subst hy; simp [Op.equalIn, run_underlying hu]
    · obtain ⟨_, rfl⟩ := hy; subst hx; simp [Op.equalIn, run_underlying hu]
    · obtain ⟨_, _, _, rfl, _⟩ := hy; subst hx; simp [Op.equalIn, run_underlying hu]
    · cases h
  · split at h <;> (try simp only [Rep] at hx hy)
    · obtain ⟨_, rfl⟩ := hx; subst hy; simp [Op.equalIn, run_underlying hu]
    · cases h
  · split at h <;> (try simp only [Rep] at hx hy)
    · obtain ⟨_, rfl, _⟩ := hx; subst hy; simp [Op.equalIn, run_underlying hu]
    · obtain ⟨_, rfl, _⟩ := hy; subst hx; simp [Op.equalIn, run_underlying hu]
    · cases h
  · split at h <;> (try simp only [Rep] at hx hy)
    · obtain ⟨_, _, rfl, _⟩ := hx; subst hy; simp [Op.equalIn, run_underlying hu]
    · obtain ⟨_, rfl⟩ := hx; subst hy; simp [Op.equalIn, run_underlying hu]
    · obtain ⟨_, _, rfl, _⟩ := hy; subst hx; simp [Op.equalIn, run_underlying hu]
    · cases h
  · cases h

/-- Neither of the two is a nil interface beside another, nor are both structs or arrays: the guard is quiet, and the operator goes by equality. -/
def quietTwo : Value → Value → Bool
  | .slice _ _ _, .slice _ _ _ => true
  | .pointer _, .pointer _ => true
  | .map _, .map _ => true
  | .iface _ _, .nilIface => true
  | .nilIface, .iface _ _ => true
  | .func _ _ _, .nilFunc => true
  | .nilFunc, .func _ _ _ => true
  | _, _ => false
theorem quiet_of_nilCmp {P : Program} {g : Gh} {w : World} {t : TypeId} {x y : AV} {u v : Value} (h : nilCmp P t x y = true) (hx : Rep g w x u) (hy : Rep g w y v) : quietTwo u v = true := by
  unfold nilCmp at h
  split at h
  · split at h <;> (try simp only [Rep] at hx hy)
    · obtain ⟨_, _, _, _, rfl, _⟩ := hx; subst hy; rfl
    · obtain ⟨_, rfl, _⟩ := hx; subst hy; rfl
    · obtain ⟨_, _, _, _, rfl, _⟩ := hy; subst hx; rfl
    · obtain ⟨_, rfl, _⟩ := hy; subst hx; rfl
    · cases h
  · split at h <;> (try simp only [Rep] at hx hy)
    · obtain ⟨_, rfl⟩ := hx; subst hy; rfl
    · obtain ⟨_, _, _, rfl, _⟩ := hx; subst hy; rfl
    · obtain ⟨_, rfl⟩ := hy; subst hx; rfl
    · obtain ⟨_, _, _, rfl, _⟩ := hy; subst hx; rfl
    · cases h
  · split at h <;> (try simp only [Rep] at hx hy)
    · obtain ⟨_, rfl⟩ := hx; subst hy; rfl
    · cases h
  · split at h <;> (try simp only [Rep] at hx hy)
    · obtain ⟨_, rfl, _⟩ := hx; subst hy; rfl
    · obtain ⟨_, rfl, _⟩ := hy; subst hx; rfl
    · cases h
  · split at h <;> (try simp only [Rep] at hx hy)
    · obtain ⟨_, _, rfl, _⟩ := hx; subst hy; rfl
    · obtain ⟨_, rfl⟩ := hx; subst hy; rfl
    · obtain ⟨_, _, rfl, _⟩ := hy; subst hx; rfl
    · cases h
  · cases h

theorem yld_eql_quiet {P : Program} {t : TypeId} {xo yo : Operand} {u v : Value} {b : Bool} (hq : quietTwo u v = true) (h : Yld P (Op.equal t u v) b) :
    Yld P (do eqGuard .eql t xo yo u v; binOp .eql t u v) (.bool b) ∧ Yld P (do eqGuard .neq t xo yo u v; binOp .neq t u v) (.bool (!b)) := by
  unfold quietTwo at hq
  split at hq <;> first
    | exact absurd hq (by decide)
    | exact ⟨fun w => by have := h w; simp [eqGuard, binOp, this], fun w => by have := h w; simp [eqGuard, binOp, this]⟩

/-- An operator on two operands. -/
def binA (P : Program) (op : BinOp) (t : TypeId) (xo yo : Operand) (x y : AV) : Option AV :=
  match valOf x, valOf y with
  | some u, some v => match pureOf P (do eqGuard op t xo yo u v; binOp op t u v) with
    | some r => some (.val r)
    | none => none
  | _, _ => if nilCmp P t x y then
      match op with
      | .eql => some (.val (.bool false))
      | .neq => some (.val (.bool true))
      | _ => none
    else none
theorem bin_sound {P : Program} {g : Gh} {w : World} {op : BinOp} {t : TypeId} {xo yo : Operand} {x y r : AV} {u v : Value} (h : binA P op t xo yo x y = some r) (hx : Rep g w x u) (hy : Rep g w y v) :
    ∃ z, Yld P (do eqGuard op t xo yo u v; binOp op t u v) z ∧ Rep g w r z := by
  unfold binA at h
  split at h
  · rename_i u' v' h1 h2
    have e1 := valOf_of h1 hx
    have e2 := valOf_of h2 hy
    subst e1 e2
    split at h
    · rename_i z hz
      cases h
      exact ⟨z, pureOf_run hz, by simp [Rep]⟩
    · cases h
  · split at h
    · rename_i hn
      have he := equal_of_nilCmp hn hx hy
      have hq := quiet_of_nilCmp hn hx hy
      obtain ⟨y1, y2⟩ := yld_eql_quiet (xo := xo) (yo := yo) hq he
      split at h
      · cases h; exact ⟨_, y1, by simp [Rep]⟩
      · cases h; exact ⟨_, y2, by simp [Rep]⟩
      · cases h
    · cases h

def unA (P : Program) (op : UnOp) (x : AV) : Option AV :=
  match valOf x with
  | some u => match pureOf P (Op.unary op u) with
    | some r => some (.val r)
    | none => none
  | none => none
theorem un_sound {P : Program} {g : Gh} {w : World} {op : UnOp} {x r : AV} {u : Value} (h : unA P op x = some r) (hx : Rep g w x u) : ∃ z, Yld P (Op.unary op u) z ∧ Rep g w r z := by
  unfold unA at h
  split at h
  · rename_i u' h1
    have e1 := valOf_of h1 hx
    subst e1
    split at h
    · rename_i z hz; cases h; exact ⟨z, pureOf_run hz, by simp [Rep]⟩
    · cases h
  · cases h

def convA (P : Program) (src dst : TypeId) (x : AV) : Option AV :=
  match valOf x with
  | some u => match pureOf P (convert src dst u) with
    | some r => some (.val r)
    | none => none
  | none => none
theorem conv_sound {P : Program} {g : Gh} {w : World} {src dst : TypeId} {x r : AV} {u : Value} (h : convA P src dst x = some r) (hx : Rep g w x u) : ∃ z, Yld P (convert src dst u) z ∧ Rep g w r z := by
  unfold convA at h
  split at h
  · rename_i u' h1
    have e1 := valOf_of h1 hx
    subst e1
    split at h
    · rename_i z hz; cases h; exact ⟨z, pureOf_run hz, by simp [Rep]⟩
    · cases h
  · cases h

/-! ### Slicing -/

/-- A bound, or what stands for it where there is none. -/
def asNO (d : Nat) : Option AV → Option Nat
  | none => some d
  | some a => asN a
def valO : Option AV → Option (Option Value)
  | none => some none
  | some a => match valOf a with
    | some v => some (some v)
    | none => none
theorem valO_of {g : Gh} {w : World} {a : Option AV} {u v : Option Value} (h : valO a = some u) (hr : ORepO g w a v) : v = u := by
  cases a with
  | none => simp only [valO, Option.some.injEq] at h; subst h; exact hr
  | some a =>
    simp only [valO] at h
    split at h
    · rename_i x hx; cases h; obtain ⟨y, rfl, h2⟩ := hr; rw [valOf_of hx h2]
    · cases h

theorem yld_sliceBound {P : Program} {k : IntKind} {n y : Nat} {c : BoundsCode} (h : n ≤ y) : Yld P (Instr.sliceBound (.int k n) y c) n := fun w => by
  have : (n : Int) ≤ (y : Int) := by omega
  simp [Instr.sliceBound, asIntOf, h]

/-- No third bound: from l to h, in a list with room for cap. -/
theorem yld_sliceBounds {P : Program} {g : Gh} {w : World} {s : Bool} {len cap l h : Nat} {lo hi : Option AV} {vl vh : Option Value} (hl : asNO 0 lo = some l) (hh : asNO len hi = some h) (rl : ORepO g w lo vl) (rh : ORepO g w hi vh) (h1 : l ≤ h) (h2 : h ≤ cap) :
    Yld P (Instr.sliceBounds s len cap vl vh none) (l, h, cap) := fun w' => by
  cases lo with
  | none =>
    simp only [asNO, Option.some.injEq] at hl; subst hl
    cases hi with
    | none =>
      simp only [asNO, Option.some.injEq] at hh; subst hh
      cases rl; cases rh
      simp [Instr.sliceBounds]
    | some b =>
      cases rl
      obtain ⟨u, rfl, rh⟩ := rh
      obtain ⟨k, rfl⟩ := asN_of hh rh
      have e := fun c => yld_sliceBound (P := P) (k := k) (n := h) (y := cap) (c := c) h2 w'
      simp [Instr.sliceBounds, e]
  | some a =>
    obtain ⟨ul, rfl, rl⟩ := rl
    obtain ⟨kl, rfl⟩ := asN_of hl rl
    have el := fun c => yld_sliceBound (P := P) (k := kl) (n := l) (y := h) (c := c) h1 w'
    cases hi with
    | none =>
      simp only [asNO, Option.some.injEq] at hh; subst hh
      cases rh
      simp [Instr.sliceBounds, el]
    | some b =>
      obtain ⟨u, rfl, rh⟩ := rh
      obtain ⟨k, rfl⟩ := asN_of hh rh
      have e := fun c => yld_sliceBound (P := P) (k := k) (n := h) (y := cap) (c := c) h2 w'
      simp [Instr.sliceBounds, e, el]

theorem yld_sliceBounds3 {P : Program} {g : Gh} {w : World} {s : Bool} {len cap l h m : Nat} {lo hi mx : Option AV} {vl vh vm : Option Value} (hl : asNO 0 lo = some l) (hh : asNO len hi = some h) (his : hi.isSome = true) (hm : asNO cap mx = some m) (hms : mx.isSome = true)
    (rl : ORepO g w lo vl) (rh : ORepO g w hi vh) (rm : ORepO g w mx vm) (h1 : l ≤ h) (h2 : h ≤ m) (h3 : m ≤ cap) :
    Yld P (Instr.sliceBounds s len cap vl vh vm) (l, h, m) := fun w' => by
  cases hi with
  | none => cases his
  | some b =>
    cases mx with
    | none => cases hms
    | some c =>
      obtain ⟨u, rfl, rh⟩ := rh
      obtain ⟨k, rfl⟩ := asN_of hh rh
      obtain ⟨um, rfl, rm⟩ := rm
      obtain ⟨km, rfl⟩ := asN_of hm rm
      have e := fun c => yld_sliceBound (P := P) (k := k) (n := h) (y := m) (c := c) h2 w'
      have e3 := fun c => yld_sliceBound (P := P) (k := km) (n := m) (y := cap) (c := c) h3 w'
      cases lo with
      | none =>
        simp only [asNO, Option.some.injEq] at hl; subst hl
        cases rl
        simp [Instr.sliceBounds, e, e3]
      | some a =>
        obtain ⟨ul, rfl, rl⟩ := rl
        obtain ⟨kl, rfl⟩ := asN_of hl rl
        have el := fun c => yld_sliceBound (P := P) (k := kl) (n := l) (y := h) (c := c) h1 w'
        simp [Instr.sliceBounds, e, e3, el]

/-- 'x[lo:hi:max]'. -/
def sliceA (P : Program) (t : TypeId) (x : AV) (lo hi mx : Option AV) : Option AV :=
  match valOf x, valO lo, valO hi, valO mx with
  | some v, some l, some h, some m => match pureOf P (Instr.sliceAt t v l h m) with
    | some r => some (.val r)
    | none => none
  | _, _, _, _ => match P.underlying t with
    | some (.slice elem) => match szOf P elem with
      | some size => match x with
        | .imm n cs c => match asNO 0 lo, asNO n hi with
          | some l, some h => if Nat.ble l h then (if Nat.ble h n then
              match mx with
              | some m => match asN m, hi with
                | some m, some _ => if Nat.beq m h then some (.imm (h - l) ((cs.drop (l * size)).take ((h - l) * size)) .exact) else none
                | _, _ => none
              | none => if Nat.beq l 0 then (if Nat.beq h n then some (.imm n cs c) else some (.imm (h - l) ((cs.drop (l * size)).take ((h - l) * size)) .unk))
                else some (.imm (h - l) ((cs.drop (l * size)).take ((h - l) * size)) (match c with
                  | .exact => if Nat.beq h n then .exact else .unk
                  | _ => .unk))
            else none) else none
          | _, _ => none
        | .mut i off n cap => match asNO 0 lo, asNO n hi with
          | some l, some h => if Nat.ble l h then (if Nat.ble h cap then
              match mx with
              | some m => match asN m, hi with
                | some m, some _ => if Nat.blt h m then (if Nat.ble m cap then some (.mut i (off + l * size) (h - l) (m - l)) else none) else none
                | _, _ => none
              | none => if Nat.blt l cap then some (.mut i (off + l * size) (h - l) (cap - l)) else none
            else none) else none
          | _, _ => none
        | _ => none
      | none => none
    | _ => none

theorem yld_sliceAt {P : Program} {t elem : TypeId} {a : Addr} {len cap l h m size : Nat} {vl vh vm : Option Value} (hu : P.underlying t = some (.slice elem)) (hs : szOf P elem = some size) (hb : Yld P (Instr.sliceBounds true len cap vl vh vm) (l, h, m)) :
    Yld P (Instr.sliceAt t (.slice (some a) len cap) vl vh vm) (.slice (some (if m = l then a else a.add (l * size))) (h - l) (m - l)) := fun w => by
  have h1 := yld_sizeOf hs w
  have h2 := hb w
  simp [Instr.sliceAt, Instr.slice, run_underlying hu, h1, h2]
  split <;> rfl

theorem rep_cut {g : Gh} {w : World} {l h m size cap b o : Nat} {cs : List AV} {vs : List Value} (h1 : l ≤ h) (h2 : h ≤ m) (h3 : m ≤ cap) (h4 : cap ≤ maxLen) (hr : RepAll g w cs vs) (row : Row g w b o vs) (c : Cap) (hc : ∀ b o len, CapOk g c b o (h - l) (m - l) len) :
    Rep g w (.imm (h - l) ((cs.drop (l * size)).take ((h - l) * size)) c) (.slice (some (if m = l then (⟨b, o, none⟩ : Addr) else (⟨b, o, none⟩ : Addr).add (l * size))) (h - l) (m - l)) := by
  simp only [Rep]
  by_cases e : m = l
  · have e2 : h - l = 0 := by omega
    simp only [e, if_true, e2, Nat.zero_mul, List.take_zero]
    refine ⟨b, o, l - l, [], rfl, Nat.zero_le _, by omega, by simp [RepAll], fun j u hj => by simp at hj, ?_⟩
    have := hc b o 0
    rw [e2, e] at this
    simpa using this
  · simp only [e, if_false, Addr.add_lit]
    exact ⟨b, o + l * size, m - l, _, rfl, by omega, by omega, (hr.drop _).take _, (row.drop _).take _, hc _ _ _⟩

theorem slice_sound {P : Program} {g : Gh} {w : World} {t : TypeId} {x r : AV} {lo hi mx : Option AV} {v : Value} {vl vh vm : Option Value} (h : sliceA P t x lo hi mx = some r) (hr : Rep g w x v) (rl : ORepO g w lo vl) (rh : ORepO g w hi vh) (rm : ORepO g w mx vm) :
    ∃ u, Yld P (Instr.sliceAt t v vl vh vm) u ∧ Rep g w r u := by
  unfold sliceA at h
  split at h
  · rename_i v' l' h' m' e1 e2 e3 e4
    have e1 := valOf_of e1 hr
    have e2 := valO_of e2 rl
    have e3 := valO_of e3 rh
    have e4 := valO_of e4 rm
    subst e1 e2 e3 e4
    split at h
    · rename_i z hz; cases h; exact ⟨z, pureOf_run hz, by simp [Rep]⟩
    · cases h
  · split at h
    · rename_i elem hu
      split at h
      · rename_i size hs
        split at h
        · rename_i n cs c hno
          simp only [Rep] at hr
          obtain ⟨b, o, cap, vs, rfl, k1, k2, k3, k4, k5⟩ := hr
          split at h
          · rename_i l hh hl hhh
            split at h
            · rename_i q1
              have q1 := Nat.le_of_ble_eq_true q1
              split at h
              · rename_i q2
                have q2 := Nat.le_of_ble_eq_true q2
                split at h
                · rename_i m
                  split at h
                  · rename_i m' hi' hm
                    split at h
                    · rename_i q3
                      have q3 := Nat.eq_of_beq_eq_true q3
                      subst q3
                      cases h
                      refine ⟨_, yld_sliceAt hu hs (yld_sliceBounds3 hl hhh rfl (by exact hm) rfl rl rh rm q1 (Nat.le_refl _) (by omega)), ?_⟩
                      exact rep_cut q1 (Nat.le_refl _) (by omega) k2 k3 k4 .exact (fun _ _ _ => rfl)
                    · cases h
                  · cases h
                · have hb := yld_sliceBounds (P := P) (s := true) hl hhh rl rh q1 (Nat.le_trans q2 k1)
                  cases rm
                  split at h
                  · rename_i q3
                    have q3 := Nat.eq_of_beq_eq_true q3
                    subst q3
                    split at h
                    · rename_i q4
                      have q4 := Nat.eq_of_beq_eq_true q4
                      subst q4
                      cases h
                      refine ⟨_, yld_sliceAt hu hs hb, ?_⟩
                      have e : (if cap = 0 then (⟨b, o, none⟩ : Addr) else (⟨b, o, none⟩ : Addr).add (0 * size)) = ⟨b, o, none⟩ := by split <;> simp [Addr.add]
                      rw [e]
                      simp only [Rep, Nat.sub_zero]
                      exact ⟨b, o, cap, vs, rfl, k1, k2, k3, k4, k5⟩
                    · cases h
                      exact ⟨_, yld_sliceAt hu hs hb, rep_cut q1 (by omega) (Nat.le_refl _) k2 k3 k4 .unk (fun _ _ _ => trivial)⟩
                  · cases h
                    refine ⟨_, yld_sliceAt hu hs hb, rep_cut q1 (by omega) (Nat.le_refl _) k2 k3 k4 _ (fun b' o' len' => ?_)⟩
                    cases c with
                    | exact =>
                      simp only
                      split
                      · rename_i q4
                        have q4 := Nat.eq_of_beq_eq_true q4
                        have k5 : cap = n := k5
                        show cap - l = hh - l
                        omega
                      · trivial
                    | grow t => trivial
                    | unk => trivial
              · cases h
            · cases h
          · cases h
        · rename_i i off n cap hno
          simp only [Rep] at hr
          obtain ⟨k1, rfl, k2, k3⟩ := hr
          split at h
          · rename_i l hh hl hhh
            split at h
            · rename_i q1
              have q1 := Nat.le_of_ble_eq_true q1
              split at h
              · rename_i q2
                have q2 := Nat.le_of_ble_eq_true q2
                split at h
                · rename_i m
                  split at h
                  · rename_i m' hi' hm
                    split at h
                    · rename_i q3
                      have q3 := blt_lt q3
                      split at h
                      · rename_i q4
                        have q4 := Nat.le_of_ble_eq_true q4
                        cases h
                        refine ⟨_, yld_sliceAt hu hs (yld_sliceBounds3 hl hhh rfl (by exact hm) rfl rl rh rm q1 (Nat.le_of_lt q3) q4), ?_⟩
                        have e : ¬ m' = l := by omega
                        simp only [Rep, e, if_false, Addr.add_lit]
                        exact ⟨k1, trivial, by omega, by omega⟩
                      · cases h
                    · cases h
                  · cases h
                · split at h
                  · rename_i q3
                    have q3 := blt_lt q3
                    have hb := yld_sliceBounds (P := P) (s := true) hl hhh rl rh q1 q2
                    cases rm
                    cases h
                    refine ⟨_, yld_sliceAt hu hs hb, ?_⟩
                    have e : ¬ cap = l := by omega
                    simp only [Rep, e, if_false, Addr.add_lit]
                    exact ⟨k1, trivial, by omega, by omega⟩
                  · cases h
              · cases h
            · cases h
          · cases h
        · cases h
      · cases h
    · cases h

end Go.Am
