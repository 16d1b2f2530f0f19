import Derived.Test.YtajaonnpekdklaaVwB
import Derived.Test.YtajaonnpekdklaaInkA
set_option linter.unusedVariables false
set_option maxRecDepth 100000
namespace Go.Proofs.Ytajaonnpekdklaa.Vw
open Go.ChangeShapes Go.WideShapes Go.ChangeAt Go.RowKit Mem

/-- The number that stands in bytes, the lowest first. -/
def leV : List UInt8 → Nat
  | [] => 0
  | b :: r => b.toNat + 256 * leV r
theorem leV_lt (l : List UInt8) : leV l < 256 ^ l.length := by
  induction l with
  | nil => simp [leV]
  | cons b r ih =>
    have := b.toNat_lt
    simp only [leV, List.length_cons, Nat.pow_succ]
    omega
theorem leV_snoc (l : List UInt8) (b : UInt8) : leV (l ++ [b]) = leV l + b.toNat * 256 ^ l.length := by
  induction l with
  | nil => simp [leV]
  | cons a r ih =>
    simp only [List.cons_append, leV, ih, List.length_cons, Nat.pow_succ]
    rw [Nat.mul_add, Nat.mul_comm (256 ^ r.length) 256, ← Nat.mul_assoc, ← Nat.mul_assoc, Nat.mul_comm 256 b.toNat]
    omega

theorem or_step {bs : List UInt8} {k : Nat} (hk : k < bs.length) (hl : bs.length ≤ 8) :
    bits BinOp.or IntKind.u64 ((leV (bs.take k) : Nat) : Int) (IntKind.u64.wrap (IntKind.u64.wrap ((bs[k].toNat : Nat) : Int) * 2 ^ (8 * k))) = ((leV (bs.take (k + 1)) : Nat) : Int) := by
  have hb := bs[k].toNat_lt
  have hx := leV_lt (bs.take k)
  rw [List.length_take, Nat.min_eq_left (by omega)] at hx
  have hp : (256 : Nat) ^ k = 2 ^ (8 * k) := by rw [Nat.pow_mul]
  have h7 : (2 : Nat) ^ (8 * k) ≤ 2 ^ 56 := Nat.pow_le_pow_right (by decide) (by omega)
  have h8 : bs[k].toNat * 2 ^ (8 * k) < 18446744073709551616 := by
    calc bs[k].toNat * 2 ^ (8 * k) ≤ 255 * 2 ^ 56 := Nat.mul_le_mul (by omega) h7
      _ < _ := by decide
  have e1 : IntKind.u64.wrap ((bs[k].toNat : Nat) : Int) = ((bs[k].toNat : Nat) : Int) := IntWalk.u64_in _ (by omega)
  have e2 : ((bs[k].toNat : Nat) : Int) * 2 ^ (8 * k) = ((bs[k].toNat * 2 ^ (8 * k) : Nat) : Int) := by simp
  rw [e1, e2, IntWalk.u64_in _ (by omega), u64_or_nat _ _ (by rw [hp] at hx; omega) h8]
  congr 1
  rw [List.take_succ_eq_append_getElem hk, leV_snoc, List.length_take, Nat.min_eq_left (by omega), hp]
  have := Nat.two_pow_add_eq_or_of_lt (i := 8 * k) (b := leV (bs.take k)) (by rw [← hp]; exact hx) bs[k].toNat
  rw [Nat.or_comm, Nat.mul_comm, ← this]
  omega

theorem number_calls {L : Nat → Nat} {c : Nat} {w : World} {v : Value} {n : Nat} {bs : List UInt8} (hr : Rd L c w 1 v n (bs.map byt)) (hl : n ≤ 8) :
    Calls Try.prog 50 #[v] w fun e w' => e = .returned (.int .u64 (leV bs)) ∧ w = w' := by
  have hbl : bs.length = n := by simpa using hr.1
  subst hbl
  obtain ⟨p, cap, rfl, hn, hm⟩ := hr.shape
  go_enter Try.func50, Try.ntmps50
  go_wp2_with fail
  go_loop [3, 4, 5, 8] (fun x i0 c0 i => ∃ k : Nat, k ≤ bs.length ∧ i = .int .i64 k ∧ x = .int .u64 (leV (bs.take k))) (fun _ _ _ i => bs.length - (intOf i).toNat)
  case atStart => exact ⟨0, by omega, rfl, rfl⟩
  case round =>
    obtain ⟨k, hk, rfl, rfl⟩ := hrel
    by_cases hlt : k < bs.length
    · obtain ⟨b, off, rfl, _, e0⟩ := hr.at hlt
      go_wp2_with fail
      go_round
      case rel => exact ⟨k + 1, by omega, by go_num, by rw [or_step hlt hl]⟩
      case measure => simp [intOf]; omega
    · have e : bs.take k = bs := List.take_of_length_le (by omega)
      have E := Lib.hid e
      clear e
      go_wp2_with fail
      go_ret
      refine ⟨?_, rfl⟩
      show Ending.returned (.int .u64 (leV (bs.take k))) = _
      rw [E.out]

/-- A part of what is read. -/
theorem Rd.cut {L : Nat → Nat} {c : Nat} {w : World} {q : Option Addr} {n cap : Nat} {bs : List UInt8} (h : Rd L c w 1 (.slice q n cap) n (bs.map byt)) {a m : Nat} (hm : a + m ≤ n) (k : Nat) (hk : m ≤ k) (hk2 : k ≤ maxLen) :
    Rd L c w 1 (.slice (cutAt q a m) m k) m (((bs.drop a).take m).map byt) := by
  obtain ⟨h1, q', cap', hv, hn, hmx, hc⟩ := h
  cases hv
  have hbl : bs.length = n := by simpa using h1
  refine ⟨by simp; omega, _, _, rfl, hk, hk2, fun j u hj => ?_⟩
  have hjm : j < m := by
    have := (List.getElem?_eq_some_iff.1 hj).1
    simp at this; omega
  obtain ⟨b, off, rfl, hL, hcell⟩ := hc (a + j) u (by
    rw [← hj]
    simp only [List.getElem?_map, List.getElem?_take, List.getElem?_drop, hjm, if_true])
  unfold cutAt
  rw [if_neg (by omega)]
  exact ⟨b, off + a, by simp [add_lit], hL, by rw [Nat.add_assoc]; exact hcell⟩

def WOpt (L : Nat → Nat) (c : Nat) (w : World) (u : Option Nat) (l : List (Int × Int)) : Prop := ∀ wb, u = some wb → WatchAt L c w wb l
theorem WOpt.step {L L' : Nat → Nat} {w w' : World} {C : Nat → Prop} {c : Nat} {u : Option Nat} {l : List (Int × Int)} (h : WOpt L c w u l) (st : Step C L w L' w') (hc : ¬ C c) : WOpt L' c w' u l := fun wb hu => (h wb hu).step st hc
def tell (l : List (Int × Int)) (p : Int) (a m : Nat) : List (Int × Int) := if 0 < m then l ++ [(p + a, p + a + m)] else l

/-- What a method of a view leaves. -/
def Read (L : Nat → Nat) (c : Nat) (w : World) (u : Option Nat) (l' : List (Int × Int)) (w' : World) : Prop := ∃ L', Step (· = c) L w L' w' ∧ WOpt L' c w' u l'
theorem Read.of_below {L : Nat → Nat} {c : Nat} {w w' : World} {u : Option Nat} {l : List (Int × Int)} (h : WOpt L c w u l) (hb : Below w.heap.size w w') : Read L c w u l w' :=
  have st : Step (fun _ => False) L w (ext L w.heap.size 0) w' := Step.of_below hb _ 0
  ⟨_, st.mono (fun _ h => h.elim), h.step st (fun h => h)⟩
theorem Read.trans {L : Nat → Nat} {c : Nat} {w w1 w2 : World} {u : Option Nat} {l l2 : List (Int × Int)} (hb : Below w.heap.size w w1) (h : WOpt L c w u l)
    (k : ∀ L1, WOpt L1 c w1 u l → (∀ i, i < w.heap.size → L1 i = L i) → Read L1 c w1 u l2 w2) : Read L c w u l2 w2 := by
  have st : Step (fun _ => False) L w (ext L w.heap.size 0) w1 := Step.of_below hb _ 0
  obtain ⟨L', st', h'⟩ := k _ (h.step st (fun h => h)) (fun i hi => ext_old hi)
  exact ⟨L', (st.mono (fun _ h => h.elim)).trans st', h'⟩

theorem read_calls {L : Nat → Nat} {c : Nat} {w : World} {u : Option Nat} {l : List (Int × Int)} (hW : WOpt L c w u l) (hl : l.length ≤ 1000000000000) (q : Option Addr) (n cap : Nat) (p : Int) (a m : Nat) (hn : n ≤ cap) (hc : cap ≤ 9223372036854775807) (hm : a + m ≤ n)
    (hp : 0 ≤ p) (hp2 : p + n ≤ 9223372036854775807) :
    Calls Try.prog 51 #[.agg #[.slice q n cap, .int .i64 p, wat u], .int .i64 a, .int .i64 m] w fun e w' => e = .returned (.slice (cutAt q a m) m m) ∧ Read L c w u (tell l p a m) w' := by
  by_cases hm0 : 0 < m
  · cases u with
    | none => exact (read_quiet q n cap p none a m hn hc hm (.inl rfl)).mono fun e w' ⟨he, hb⟩ => ⟨he, Read.of_below (fun wb h => by cases h) hb⟩
    | some wb =>
      refine (read_told (hW wb rfl) hl q n cap p a m hn hc hm hm0 hp hp2).mono fun e w' ⟨he, L', st, h⟩ => ⟨he, L', st, fun wb' hu => ?_⟩
      cases hu
      unfold tell; rw [if_pos hm0]; exact h
  · have e : tell l p a m = l := if_neg hm0
    rw [e]
    exact (read_quiet q n cap p _ a m hn hc hm (.inr (by omega))).mono fun e w' ⟨he, hb⟩ => ⟨he, Read.of_below hW hb⟩

/-- The bytes that a read tells. -/
def got (bs : List UInt8) (a m : Nat) : List UInt8 := (bs.drop a).take m

def loadE (n : Nat) (a m : Int) : Int := if Ink.wideB m then (if insideB a m n then 0 else 2) else 1
def loadV (bs : List UInt8) (a m : Int) : Nat := if loadE bs.length a m = 0 then leV (got bs a.toNat m.toNat) else 0
def loadT (l : List (Int × Int)) (n : Nat) (p a m : Int) : List (Int × Int) := if loadE n a m = 0 then tell l p a.toNat m.toNat else l

/-- The boxed view, in a world that has come on. -/
theorem box_cells {w w1 : World} {x0 x1 x2 : Value} (hb : Below (w.alloc (.cells #[x0, x1, x2] 51)).heap.size (w.alloc (.cells #[x0, x1, x2] 51)) w1) :
    w1.cell? ⟨w.heap.size, 0, none⟩ = some x0 ∧ w1.cell? ⟨w.heap.size, 1, none⟩ = some x1 ∧ w1.cell? ⟨w.heap.size, 2, none⟩ = some x2 ∧ Below w.heap.size w w1 := by
  have e : ∀ o, w1.cell? ⟨w.heap.size, o, none⟩ = (w.alloc (.cells #[x0, x1, x2] 51)).cell? ⟨w.heap.size, o, none⟩ := fun o => hb.cell (p := ⟨w.heap.size, o, none⟩) (by simp)
  refine ⟨by rw [e]; simp, by rw [e]; simp, by rw [e]; simp, (below_alloc w _).trans (hb.mono (by simp))⟩

theorem load_calls {L : Nat → Nat} {c c0 : Nat} (hcc : c0 ≠ c) {w : World} {u : Option Nat} {l : List (Int × Int)} (hW : WOpt L c w u l) (hl : l.length ≤ 1000000000000) {q : Option Addr} {n cap : Nat} {bs : List UInt8}
    (hr : Rd L c0 w 1 (.slice q n cap) n (bs.map byt)) (p : Int) (hp : 0 ≤ p) (hp2 : p + n ≤ 9223372036854775807) (a m : Int) (ha : a ≤ 9223372036854775807) :
    Calls Try.prog 31 #[.agg #[.slice q n cap, .int .i64 p, wat u], .int .i64 a, .int .i64 m] w fun e w' => e = .returned (.tuple #[.int .u64 (loadV bs a m), .int .i64 (loadE bs.length a m)]) ∧ Read L c w u (loadT l bs.length p a m) w' := by
  have hbl : bs.length = n := by simpa using hr.1
  obtain ⟨q', cap', hv, hn, hm⟩ := hr.shape
  cases hv
  subst hbl
  unfold maxLen at hm
  by_cases hw : Ink.wideB m = true
  · have hws : ∃ x : Nat, m = x ∧ x ≤ 8 := by
      simp [Ink.wideB] at hw
      exact ⟨m.toNat, by omega, by omega⟩
    by_cases hi : insideB a m bs.length = true
    · obtain ⟨x, y, rfl, rfl, hxy⟩ := insideB_true hi
      have hy8 : y ≤ 8 := by obtain ⟨z, hz, hz8⟩ := hws; omega
      have hE : loadE bs.length x y = 0 := by rw [loadE, if_pos hw, if_pos hi]
      have hV : loadV bs x y = leV (got bs x y) := by rw [loadV, if_pos hE]; rfl
      have hT : loadT l bs.length p x y = tell l p x y := by rw [loadT, if_pos hE]; rfl
      have HE := Lib.hid hE
      have HV := Lib.hid hV
      have HT := Lib.hid hT
      have HW := Lib.hid hw
      have HI := Lib.hid hi
      clear hE hV hT hw hi hws
      go_enter Try.func31, Try.ntmps31
      go_wp2_with fail
      refine (Ink.wide_calls _ _).mono ?_; rintro e w1 ⟨rfl, rfl⟩
      rw [HW.out]
      go_wp2_with fail
      refine (there_calls q bs.length cap p _ x y (by omega) (by omega)).mono ?_; rintro e w1 ⟨rfl, b1⟩
      rw [HI.out]
      obtain ⟨d0, d1, d2, hb1⟩ := box_cells b1
      have HB1 := Lib.hid hb1
      clear hb1 b1
      have st1 := Step.of_below (L := L) HB1.out (fun _ => False) 0
      have hW1 := hW.step st1 (by simp)
      have hr1 := hr.step st1 (by simp)
      go_wp2_with fail
      refine (read_calls hW1 hl q bs.length cap p x y hn (by omega) hxy hp hp2).mono ?_; rintro e w2 ⟨rfl, L2, st2, hW2⟩
      have hr2 := (Rd.cut hr1 hxy y (Nat.le_refl _) (by unfold maxLen; omega)).step st2 hcc
      go_wp2_with fail
      refine (number_calls hr2 hy8).mono ?_; rintro e w3 ⟨rfl, rfl⟩
      go_wp2_with fail
      go_ret2
      exact ⟨by rw [HV.out, HE.out]; rfl, L2, (st1.mono (fun _ h => h.elim)).trans st2, by rw [HT.out]; exact hW2⟩
    · have hi' : insideB a m bs.length = false := by simpa using hi
      have hE : loadE bs.length a m = 2 := by rw [loadE, if_pos hw, if_neg hi]
      have hV : loadV bs a m = 0 := by rw [loadV, if_neg (by rw [hE]; decide)]
      have hT : loadT l bs.length p a m = l := by rw [loadT, if_neg (by rw [hE]; decide)]
      have HE := Lib.hid hE
      have HV := Lib.hid hV
      have HT := Lib.hid hT
      have HW := Lib.hid hw
      have HI := Lib.hid hi'
      clear hE hV hT hw hi hi' hws
      go_enter Try.func31, Try.ntmps31
      go_wp2_with fail
      refine (Ink.wide_calls _ _).mono ?_; rintro e w1 ⟨rfl, rfl⟩
      rw [HW.out]
      go_wp2_with fail
      refine (there_calls q bs.length cap p _ a m (by omega) ha).mono ?_; rintro e w1 ⟨rfl, b1⟩
      rw [HI.out]
      obtain ⟨d0, d1, d2, hb1⟩ := box_cells b1
      have HB1 := Lib.hid hb1
      clear hb1 b1
      go_wp2_with fail
      go_ret2
      exact ⟨by rw [HV.out, HE.out]; rfl, by rw [HT.out]; exact Read.of_below hW HB1.out⟩
  · have hw' : Ink.wideB m = false := by simpa using hw
    have hE : loadE bs.length a m = 1 := by rw [loadE, if_neg hw]
    have hV : loadV bs a m = 0 := by rw [loadV, if_neg (by rw [hE]; decide)]
    have hT : loadT l bs.length p a m = l := by rw [loadT, if_neg (by rw [hE]; decide)]
    have HE := Lib.hid hE
    have HV := Lib.hid hV
    have HT := Lib.hid hT
    have HW := Lib.hid hw'
    clear hE hV hT hw hw'
    have hb := below_alloc w (.cells #[.slice q bs.length cap, .int .i64 p, wat u] 51)
    go_enter Try.func31, Try.ntmps31
    go_wp2_with fail
    refine (Ink.wide_calls _ _).mono ?_; rintro e w1 ⟨rfl, rfl⟩
    rw [HW.out]
    go_wp2_with fail
    go_ret2
    exact ⟨by rw [HV.out, HE.out]; rfl, by rw [HT.out]; exact Read.of_below hW hb⟩

/-- A number of so many bytes as a signed one. -/
def signV (x : Nat) (m : Int) : Int := if m = 1 then IntKind.i8.wrap x else if m = 2 then IntKind.i16.wrap x else if m = 4 then IntKind.i32.wrap x else IntKind.i64.wrap x
def signedV (bs : List UInt8) (a m : Int) : Int := if loadE bs.length a m = 0 then signV (loadV bs a m) m else 0

theorem loadV_lt (bs : List UInt8) (a : Int) (m : Nat) : loadV bs a m < 256 ^ m := by
  have hp : 0 < 256 ^ m := Nat.pow_pos (by decide)
  unfold loadV
  split
  · have h1 := leV_lt (got bs a.toNat (m : Int).toNat)
    have h2 : (got bs a.toNat (m : Int).toNat).length ≤ m := by unfold got; simp; omega
    exact Nat.lt_of_lt_of_le h1 (Nat.pow_le_pow_right (by decide) h2)
  · exact hp
theorem sign1 {x : Nat} (h : x < 256 ^ 1) : wrap64 (IntKind.u64.wrap ((x : Int) * 72057594037927936)) / 72057594037927936 = signV x 1 := by
  unfold signV; rw [if_pos rfl, IntKind.wrap_u64]; unfold wrap64; simp [IntKind.wrap, IntKind.bits, IntKind.signed]; split <;> omega
theorem sign2 {x : Nat} (h : x < 256 ^ 2) : wrap64 (IntKind.u64.wrap ((x : Int) * 281474976710656)) / 281474976710656 = signV x 2 := by
  unfold signV; rw [if_neg (by decide), if_pos rfl, IntKind.wrap_u64]; unfold wrap64; simp [IntKind.wrap, IntKind.bits, IntKind.signed]; split <;> omega
theorem sign4 {x : Nat} (h : x < 256 ^ 4) : wrap64 (IntKind.u64.wrap ((x : Int) * 4294967296)) / 4294967296 = signV x 4 := by
  unfold signV; rw [if_neg (by decide), if_neg (by decide), if_pos rfl, IntKind.wrap_u64, IntKind.wrap_i32]; unfold wrap64; simp; omega
theorem sign8 (x : Nat) : wrap64 (IntKind.u64.wrap (x : Int)) = signV x 8 := by
  unfold signV; rw [if_neg (by decide), if_neg (by decide), if_neg (by decide), IntKind.wrap_u64, IntKind.wrap_i64]; unfold wrap64; omega

theorem signed_calls {L : Nat → Nat} {c c0 : Nat} (hcc : c0 ≠ c) {w : World} {u : Option Nat} {l : List (Int × Int)} (hW : WOpt L c w u l) (hl : l.length ≤ 1000000000000) {q : Option Addr} {n cap : Nat} {bs : List UInt8}
    (hr : Rd L c0 w 1 (.slice q n cap) n (bs.map byt)) (p : Int) (hp : 0 ≤ p) (hp2 : p + n ≤ 9223372036854775807) (a m : Int) (ha : a ≤ 9223372036854775807) :
    Calls Try.prog 32 #[.agg #[.slice q n cap, .int .i64 p, wat u], .int .i64 a, .int .i64 m] w fun e w' => e = .returned (.tuple #[.int .i64 (signedV bs a m), .int .i64 (loadE bs.length a m)]) ∧ Read L c w u (loadT l bs.length p a m) w' := by
  have hb := below_alloc w (.cells #[.slice q n cap, .int .i64 p, wat u] 51)
  have st0 := Step.of_below (L := L) hb (fun _ => False) 0
  have hW0 := hW.step st0 (by simp)
  have hr0 := hr.step st0 (by simp)
  by_cases hE : loadE bs.length a m = 0
  · have hws : m = 1 ∨ m = 2 ∨ m = 4 ∨ m = 8 := by
      unfold loadE at hE
      by_cases hw : Ink.wideB m = true
      · simp [Ink.wideB] at hw; omega
      · rw [if_neg hw] at hE; cases hE
    have hS : signedV bs a m = signV (loadV bs a m) m := by rw [signedV, if_pos hE]
    have HE := Lib.hid hE
    have HS := Lib.hid hS
    clear hE hS
    rcases hws with rfl | rfl | rfl | rfl
    all_goals go_enter Try.func32, Try.ntmps32
    all_goals go_wp2_with fail
    all_goals refine (load_calls hcc hW0 hl hr0 p hp hp2 a _ ha).mono ?_; rintro e w1 ⟨rfl, L1, st1, hW1⟩
    all_goals rw [HE.out]
    all_goals go_wp2_with fail
    all_goals go_ret2
    all_goals refine ⟨?_, L1, (st0.mono (fun _ h => h.elim)).trans st1, hW1⟩
    all_goals rw [HS.out, HE.out]
    · exact congrArg (fun x => Ending.returned (.tuple #[.int .i64 x, .int .i64 0])) (sign1 (loadV_lt bs a 1))
    · exact congrArg (fun x => Ending.returned (.tuple #[.int .i64 x, .int .i64 0])) (sign2 (loadV_lt bs a 2))
    · exact congrArg (fun x => Ending.returned (.tuple #[.int .i64 x, .int .i64 0])) (sign4 (loadV_lt bs a 4))
    · exact congrArg (fun x => Ending.returned (.tuple #[.int .i64 x, .int .i64 0])) (sign8 _)
  · have hne : ((loadE bs.length a m) != 0) = true := by simpa using hE
    have hS : signedV bs a m = 0 := by rw [signedV, if_neg hE]
    have HS := Lib.hid hS
    clear hE hS
    go_enter Try.func32, Try.ntmps32
    go_wp2_with fail
    refine (load_calls hcc hW0 hl hr0 p hp hp2 a m ha).mono ?_; rintro e w1 ⟨rfl, L1, st1, hW1⟩
    go_wp2_with fail
    go_ret2
    exact ⟨by rw [HS.out]; rfl, L1, (st0.mono (fun _ h => h.elim)).trans st1, hW1⟩

end Go.Proofs.Ytajaonnpekdklaa.Vw
