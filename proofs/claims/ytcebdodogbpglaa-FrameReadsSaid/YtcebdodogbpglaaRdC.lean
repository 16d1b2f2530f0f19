import Derived.Test.YtcebdodogbpglaaRdB
import Derived.Test.YtcebdodogbpglaaLate
import Derived.Laws.DeepStrings4
set_option linter.unusedVariables false
set_option maxRecDepth 100000
/-! THE LOOK AT A MESSAGE. -/
namespace Go.Proofs.Ytcebdodogbpglaa.Rdr
open Go.ChangeShapes Go.WideShapes Go.ChangeAt Go.RowKit Mem Put

def okM (i : Nat) (x : UInt8) : Bool := match i with | 0 => x == 67 | 1 => x == 79 | 2 => x == 76 | _ => x == 48 || x == 49
def markB (b : List UInt8) : Bool := (List.range 4).all fun i => match b[i]? with | some x => okM i x | none => true
theorem markB_iff {b : List UInt8} : markB b = true ↔ ∀ i (h : i < b.length), i < 4 → okM i b[i] = true := by
  unfold markB
  rw [List.all_eq_true]
  constructor
  · intro h i hi h4
    have := h i (List.mem_range.2 h4)
    simpa [List.getElem?_eq_getElem hi] using this
  · intro h i hi
    have h4 := List.mem_range.1 hi
    by_cases hl : i < b.length
    · simpa [List.getElem?_eq_getElem hl] using h i hl h4
    · simp [List.getElem?_eq_none (by omega : b.length ≤ i)]

def n4 (b : List UInt8) (a : Nat) : Nat := leV ((b.drop a).take 4)
def seg (b : List UInt8) (a m : Nat) : List UInt8 := (b.drop a).take m
def fromV (b : List UInt8) : Nat := 24 + padU (n4 b 4)
def sizeV (b : List UInt8) : Nat := fromV b + padU (n4 b 8)
def firstV : Nat := 2166136261
/-- What is wrong with a beginning; 0: nothing. -/
def lookE (b : List UInt8) (lm lb : Nat) : Int :=
  if markB b = false then 70 else if b.length < 16 then 0
  else if n4 b 12 ≠ sumV firstV (b.take 12) then 72
  else if lm < n4 b 4 ∨ lb < n4 b 8 then 71
  else if b[3]? = some 48 ∧ (n4 b 4 ≠ 0 ∨ n4 b 8 ≠ 0) then 8
  else if zerosB b 20 24 = false ∨ zerosB b (24 + n4 b 4) (fromV b) = false ∨ zerosB b (fromV b + n4 b 8) (sizeV b) = false then 8
  else if sizeV b ≤ b.length ∧ n4 b 16 ≠ sumV (sumV firstV (seg b 24 (n4 b 4))) (seg b (fromV b) (n4 b 8)) then 72
  else 0
/-- How many bytes the message has; 0: that is not known. -/
def lookN (b : List UInt8) (lm lb : Nat) : Nat := if lookE b lm lb = 0 ∧ 16 ≤ b.length then sizeV b else 0

def OkTo (bs : List UInt8) (k : Nat) : Prop := ∀ i (h : i < bs.length), i < k → okM i bs[i] = true
theorem OkTo.succ {bs : List UInt8} {k : Nat} (h : OkTo bs k) (hk : k < bs.length) (hx : okM k bs[k] = true) : OkTo bs (k + 1) := fun i hi hlt => by
  by_cases e : i = k
  · subst e; exact hx
  · exact h i hi (by omega)
theorem OkTo.mark {bs : List UInt8} {k : Nat} (h : OkTo bs k) (hk : 4 ≤ k ∨ bs.length ≤ k) : markB bs = true := markB_iff.2 fun i hi h4 => h i hi (by omega)
theorem bad_mark {bs : List UInt8} {k : Nat} (hk : k < bs.length) (h4 : k < 4) (hx : okM k bs[k] = false) (lm lb : Nat) : lookE bs lm lb = 70 ∧ lookN bs lm lb = 0 := by
  have h : markB bs = false := by
    cases h : markB bs with
    | false => rfl
    | true => have := markB_iff.1 h k hk h4; rw [hx] at this; cases this
  have hE : lookE bs lm lb = 70 := by rw [lookE, if_pos h]
  exact ⟨hE, by rw [lookN, if_neg (by rw [hE]; simp)]⟩

def m1 (i : Nat) : Nat := [67, 79, 76, 49].getD i 0
def m2 (i : Nat) : Nat := [67, 79, 76, 48].getD i 0
theorem okM_iff {i : Nat} (h : i < 4) (x : UInt8) : okM i x = true ↔ x.toNat = m1 i ∨ x.toNat = m2 i := by
  have e : ∀ (x c : UInt8), (x == c) = true ↔ x.toNat = c.toNat := fun x c => by rw [beq_iff_eq, UInt8.toNat_inj]
  rcases (by omega : i = 0 ∨ i = 1 ∨ i = 2 ∨ i = 3) with rfl | rfl | rfl | rfl
  · simp only [okM, e]; simp [m1, m2]
  · simp only [okM, e]; simp [m1, m2]
  · simp only [okM, e]; simp [m1, m2]
  · simp only [okM, Bool.or_eq_true, e]; simp [m1, m2, or_comm]
theorem index_mark (s : ByteArray) (m : Nat → Nat) (hs : s.size = 4) (hm : ∀ i (h : i < s.size), s[i].toNat = m i) {k : Nat} (hk : k < 4) (wx : World) :
    (Instr.index 9 (.string s) (.int .i64 (k : Int))).run Try.prog wx = .ok (.int .u8 ((m k : Nat) : Int)) wx := by
  rw [run_index_string wx 9 s .i64 k Try.underlying9, dif_pos ⟨by omega, by omega⟩]
  have := hm k (by omega)
  simp only [Int.toNat_natCast]
  rw [← this]
theorem index1 {k : Nat} (hk : k < 4) (wx : World) : (Instr.index 9 (.string { data := #[67, 79, 76, 49] }) (.int .i64 (k : Int))).run Try.prog wx = .ok (.int .u8 ((m1 k : Nat) : Int)) wx :=
  index_mark _ m1 rfl (fun i h => by
    have h4 : i < 4 := h
    rcases (by omega : i = 0 ∨ i = 1 ∨ i = 2 ∨ i = 3) with rfl | rfl | rfl | rfl <;> rfl) hk wx
theorem index2 {k : Nat} (hk : k < 4) (wx : World) : (Instr.index 9 (.string { data := #[67, 79, 76, 48] }) (.int .i64 (k : Int))).run Try.prog wx = .ok (.int .u8 ((m2 k : Nat) : Int)) wx :=
  index_mark _ m2 rfl (fun i h => by
    have h4 : i < 4 := h
    rcases (by omega : i = 0 ∨ i = 1 ∨ i = 2 ∨ i = 3) with rfl | rfl | rfl | rfl <;> rfl) hk wx

/-- A part of what is read. -/
theorem Rd.sub {L : Nat → Nat} {c : Nat} {w : World} {b off n cap : Nat} {bs : List UInt8} (h : Rd L c w 1 (.slice (some ⟨b, off, none⟩) n cap) n (bs.map byt)) {a m : Nat} (hm : a + m ≤ n) (k : Nat) (hk : m ≤ k) (hk2 : k ≤ maxLen) :
    Rd L c w 1 (.slice (some ⟨b, off + a, none⟩) m k) m ((seg bs a m).map byt) := by
  obtain ⟨h1, q', cap', hv, hn, hmx, hc⟩ := h
  cases hv
  have hbl : bs.length = n := by simpa using h1
  refine ⟨by simp [seg]; omega, _, _, rfl, hk, hk2, fun j u hj => ?_⟩
  have hjm : j < m := by
    have := (List.getElem?_eq_some_iff.1 hj).1
    simp [seg] at this; omega
  obtain ⟨b', off', e, hL, hcell⟩ := hc (a + j) u (by
    rw [← hj]
    simp only [seg, List.getElem?_map, List.getElem?_take, List.getElem?_drop, hjm, if_true])
  cases e
  exact ⟨b, off + a, rfl, hL, by rw [Nat.add_assoc]; exact hcell⟩

/-- What stays while a message is looked at. -/
structure LookSt (c : Nat) (w : World) (rb lm lb b off cap : Nat) (bs : List UInt8) (L' : Nat → Nat) (w' : World) : Prop where
  below : Below w.heap.size w w'
  lim0 : w'.cell? ⟨rb, 0, none⟩ = some (.int .i64 lm)
  lim1 : w'.cell? ⟨rb, 1, none⟩ = some (.int .i64 lb)
  read : Rd L' c w' 1 (.slice (some ⟨b, off, none⟩) bs.length cap) bs.length (bs.map byt)
theorem LookSt.next {c : Nat} {w w' w'' : World} {rb lm lb b off cap : Nat} {bs : List UInt8} {L' : Nat → Nat} (h : LookSt c w rb lm lb b off cap bs L' w') (hb : Below w'.heap.size w' w'') :
    LookSt c w rb lm lb b off cap bs (ext L' w'.heap.size 0) w'' :=
  ⟨h.below.trans (hb.mono h.below.size), (hb.cell (p := ⟨rb, 0, none⟩) (World.block_lt_of_cell? w' _ h.lim0)).trans h.lim0, (hb.cell (p := ⟨rb, 1, none⟩) (World.block_lt_of_cell? w' _ h.lim1)).trans h.lim1, h.read.step (Step.of_below hb (fun _ => False) 0) (by simp)⟩
theorem LookSt.drew {c : Nat} {w w' : World} {rb lm lb b off cap : Nat} {bs : List UInt8} {L' : Nat → Nat} (h : LookSt c w rb lm lb b off cap bs L' w') : LookSt c w rb lm lb b off cap bs L' w'.drew :=
  ⟨h.below.trans ⟨rfl, rfl, rfl, Nat.le_refl _, fun _ _ => rfl⟩, h.lim0, h.lim1, h.read⟩
theorem LookSt.num {c : Nat} {w w' : World} {rb lm lb b off cap : Nat} {bs : List UInt8} {L' : Nat → Nat} (h : LookSt c w rb lm lb b off cap bs L' w') {a o k : Nat} (ha : a + 4 ≤ bs.length) (ho : o = off + a) (hk : 4 ≤ k) (hk2 : k ≤ cap) :
    Calls Try.prog 51 #[.slice (some ⟨b, o, none⟩) 4 k] w' fun e w'' => e = .returned (.int .i64 (n4 bs a)) ∧ LookSt c w rb lm lb b off cap bs (ext L' w'.heap.size 0) w'' := by
  obtain ⟨_, _, hv, hn, hm⟩ := h.read.shape
  cases hv
  subst ho
  exact (fnumber_calls (Rd.sub h.read ha k (by omega) (by omega))).mono fun _ _ ⟨g1, g2⟩ => ⟨g1, h.next g2⟩
theorem n4_lt (bs : List UInt8) (a : Nat) : n4 bs a < 4294967296 := by
  have h := leV_lt ((bs.drop a).take 4)
  have : ((bs.drop a).take 4).length ≤ 4 := by simp; omega
  calc n4 bs a < 256 ^ ((bs.drop a).take 4).length := h
    _ ≤ 256 ^ 4 := Nat.pow_le_pow_right (by decide) this
    _ = _ := by decide
theorem LookSt.sum {c : Nat} {w w' : World} {rb lm lb b off cap : Nat} {bs : List UInt8} {L' : Nat → Nat} (h : LookSt c w rb lm lb b off cap bs L' w') {a m o k : Nat} (ha : a + m ≤ bs.length) (ho : o = off + a) (hk : m ≤ k) (hk2 : k ≤ cap) (x : Nat) (hx : x < 4294967296) :
    Calls Try.prog 46 #[.int .u32 x, .slice (some ⟨b, o, none⟩) m k] w' fun e w'' => e = .returned (.int .u32 (sumV x (seg bs a m))) ∧ w' = w'' := by
  obtain ⟨_, _, hv, hn, hm⟩ := h.read.shape
  cases hv
  subst ho
  exact sum_calls (Rd.sub h.read ha k (by omega) (by omega)) x hx

theorem LookSt.sum2 {c : Nat} {w w' : World} {rb lm lb b off cap : Nat} {bs : List UInt8} {L' : Nat → Nat} (h : LookSt c w rb lm lb b off cap bs L' w') {a m : Nat} (ha : a + m ≤ bs.length) (x : Nat) (hx : x < 4294967296) :
    Calls Try.prog 46 #[.int .u32 x, .slice (if cap = a then some ⟨b, off, none⟩ else some ⟨b, off + a, none⟩) m (cap - a)] w' fun e w'' => e = .returned (.int .u32 (sumV x (seg bs a m))) ∧ w' = w'' := by
  obtain ⟨_, _, hv, hn, hm⟩ := h.read.shape
  cases hv
  by_cases e : cap = a
  · rw [if_pos e]
    have hm0 : m = 0 := by omega
    subst hm0
    have hs : seg bs a 0 = seg bs 0 0 := by simp [seg]
    rw [hs]
    exact h.sum (a := 0) (m := 0) (by omega) rfl (by omega) (by omega) x hx
  · rw [if_neg e]
    exact h.sum ha rfl (by omega) (by omega) x hx

theorem eb_is {bs : List UInt8} (h : 16 ≤ bs.length) (hm : markB bs = true) : ((⟨(seg bs 0 4).toArray⟩ : ByteArray).toList == [67, 79, 76, 48]) = decide (bs[3]? = some 48) := by
  rw [ByteArray.toList_eq]
  match bs, h with
  | a :: b :: c :: d :: r, h =>
    have h0 := markB_iff.1 hm 0 (by simp) (by omega)
    have h1 := markB_iff.1 hm 1 (by simp) (by omega)
    have h2 := markB_iff.1 hm 2 (by simp) (by omega)
    simp [okM] at h0 h1 h2
    subst h0 h1 h2
    by_cases hd : d = 48 <;> simp [seg, hd]
theorem pad_int (M : Nat) : ((M : Int) + 7) / 8 * 8 = ((padU M : Nat) : Int) := by unfold padU; omega

set_option maxHeartbeats 2000000 in
theorem look_calls {L : Nat → Nat} {c : Nat} {w : World} {rb : Nat} {lm lb : Nat} (hlm : lm ≤ 65536) (hlb : lb ≤ 4194304) (c0 : w.cell? ⟨rb, 0, none⟩ = some (.int .i64 lm)) (c1 : w.cell? ⟨rb, 1, none⟩ = some (.int .i64 lb))
    {q : Option Addr} {n cap : Nat} {bs : List UInt8} (hr : Rd L c w 1 (.slice q n cap) n (bs.map byt)) :
    Calls Try.prog 50 #[.pointer (some ⟨rb, 0, none⟩), .slice q n cap] w fun e w' => e = .returned (.tuple #[.int .i64 (lookN bs lm lb), .int .i64 (lookE bs lm lb)]) ∧ Below w.heap.size w w' := by
  have hbl : bs.length = n := by simpa using hr.1
  subst hbl
  obtain ⟨_, _, hv, hn, hm⟩ := hr.shape
  cases hv
  unfold maxLen at hm
  by_cases hl4 : bs.length ≤ 4
  · have hE0 : markB bs = true → lookE bs lm lb = 0 ∧ lookN bs lm lb = 0 := fun h => by
      have : lookE bs lm lb = 0 := by rw [lookE, if_neg (by rw [h]; simp), if_pos (by omega)]
      exact ⟨this, by rw [lookN, if_neg (by omega)]⟩
    have HE0 := Lib.hid hE0
    clear hE0
    go_enter Try.func50, Try.ntmps50
    go_wp2_with fail
    go_loopw [15] (fun i wr => ∃ k q : Nat, k ≤ bs.length ∧ i = .int .i64 k ∧ wr = w.drewN q ∧ OkTo bs k) (fun i _ => bs.length - (intOf i).toNat)
    case atStart => exact ⟨0, 0, by omega, rfl, rfl, fun i hi h => by omega⟩
    case round =>
      obtain ⟨k, qq, hk, rfl, hwq, hO⟩ := hrel
      have HO := Lib.hid hO
      clear hO
      by_cases hlt : k < bs.length
      · have hk4 : k < 4 := by omega
        have hkl : k < bs.length := by omega
        have i1 := fun wx => index1 hk4 wx
        have i2 := fun wx => index2 hk4 wx
        have HM := Lib.hid (okM_iff hk4 (bs[k]))
        obtain ⟨b, off, rfl, _, e0⟩ := hr.at hkl
        have er : wr.cell? ⟨b, off + k, none⟩ = some (.int .u8 ((bs[k]).toNat : Int)) := by rw [hwq]; exact e0
        have HWQ := Lib.hid hwq
        clear hwq e0
        obtain ⟨X, hX⟩ : ∃ X : Nat, X = (bs[k]).toNat := ⟨_, rfl⟩
        obtain ⟨c1, hc1⟩ : ∃ c : Nat, c = m1 k := ⟨_, rfl⟩
        obtain ⟨c2, hc2⟩ : ∃ c : Nat, c = m2 k := ⟨_, rfl⟩
        rw [← hX] at er HM
        rw [← hc1] at i1 HM
        rw [← hc2] at i2 HM
        clear hX hc1 hc2
        by_cases h1 : X = c1
        · have hO2 := HO.out.succ hkl (HM.out.2 (.inl h1))
          have HO2 := Lib.hid hO2
          subst h1
          clear hO2
          go_wp2_with fail
          go_quiet (fail)
          go_wp2_with fail
          go_roundw
          case rel => exact ⟨k + 1, qq + nq, by omega, by go_num, by rw [HWQ.out]; simp [World.drewN, Nat.add_assoc], HO2.out⟩
          case measure => simp [intOf]; omega
        · by_cases h2 : X = c2
          · have hO2 := HO.out.succ hkl (HM.out.2 (.inr h2))
            have HO2 := Lib.hid hO2
            subst h2
            have h3 : ¬ (X : Int) = c1 := by omega
            clear hO2
            go_wp2_with fail
            go_quiet (fail)
            go_wp2_with fail
            all_goals go_roundw
            all_goals first | exact ⟨k + 1, qq + nq, by omega, by go_num, by rw [HWQ.out]; simp [World.drewN, Nat.add_assoc], HO2.out⟩ | exact ⟨⟨k + 1, qq + nq, by omega, by go_num, by rw [HWQ.out]; simp [World.drewN, Nat.add_assoc], HO2.out⟩, by simp [intOf]; omega⟩ | (simp [intOf]; omega)
          · have hBad := bad_mark hkl hk4 (Bool.eq_false_iff.2 fun h => (HM.out.1 h).elim h1 h2) lm lb
            have HBE := Lib.hid hBad.1
            have HBN := Lib.hid hBad.2
            have h3 : ¬ (X : Int) = c1 := by omega
            have h4 : ¬ (X : Int) = c2 := by omega
            have h5 : ((X : Int) != (c1 : Int)) = true := by simpa using h3
            have h6 : ((X : Int) != (c2 : Int)) = true := by simpa using h4
            clear hBad
            go_wp2_with fail
            go_quiet (fail)
            go_wp2_with fail
            go_ret2
            exact ⟨by rw [HBE.out, HBN.out]; rfl, by rw [HWQ.out]; exact ⟨rfl, rfl, rfl, Nat.le_refl _, fun _ _ => rfl⟩⟩
      · have hkE : k = bs.length := by omega
        subst hkE
        have hE := HE0.out (HO.out.mark (.inr (Nat.le_refl _)))
        have HE1 := Lib.hid hE.1
        have HN1 := Lib.hid hE.2
        have HWQ := Lib.hid hwq
        clear hwq hE
        go_wp2_with fail
        go_ret2
        exact ⟨by rw [HE1.out, HN1.out]; rfl, by rw [HWQ.out]; exact below_drewN _ _⟩
  · have hl5 : 4 < bs.length := by omega
    go_enter Try.func50, Try.ntmps50
    go_wp2_with fail
    go_loopw [15] (fun i wr => ∃ k q : Nat, k ≤ 4 ∧ i = .int .i64 k ∧ wr = w.drewN q ∧ OkTo bs k) (fun i _ => 4 - (intOf i).toNat)
    case atStart => exact ⟨0, 0, by omega, rfl, rfl, fun i hi h => by omega⟩
    case round =>
      obtain ⟨k, qq, hk, rfl, hwq, hO⟩ := hrel
      have HO := Lib.hid hO
      clear hO
      by_cases hlt : k < 4
      · have hk4 : k < 4 := by omega
        have hkl : k < bs.length := by omega
        have i1 := fun wx => index1 hk4 wx
        have i2 := fun wx => index2 hk4 wx
        have HM := Lib.hid (okM_iff hk4 (bs[k]))
        obtain ⟨b, off, rfl, _, e0⟩ := hr.at hkl
        have er : wr.cell? ⟨b, off + k, none⟩ = some (.int .u8 ((bs[k]).toNat : Int)) := by rw [hwq]; exact e0
        have HWQ := Lib.hid hwq
        clear hwq e0
        obtain ⟨X, hX⟩ : ∃ X : Nat, X = (bs[k]).toNat := ⟨_, rfl⟩
        obtain ⟨c1, hc1⟩ : ∃ c : Nat, c = m1 k := ⟨_, rfl⟩
        obtain ⟨c2, hc2⟩ : ∃ c : Nat, c = m2 k := ⟨_, rfl⟩
        rw [← hX] at er HM
        rw [← hc1] at i1 HM
        rw [← hc2] at i2 HM
        clear hX hc1 hc2
        by_cases h1 : X = c1
        · have hO2 := HO.out.succ hkl (HM.out.2 (.inl h1))
          have HO2 := Lib.hid hO2
          subst h1
          clear hO2
          go_wp2_with fail
          go_quiet (fail)
          go_wp2_with fail
          go_roundw
          case rel => exact ⟨k + 1, qq + nq, by omega, by go_num, by rw [HWQ.out]; simp [World.drewN, Nat.add_assoc], HO2.out⟩
          case measure => simp [intOf]; omega
        · by_cases h2 : X = c2
          · have hO2 := HO.out.succ hkl (HM.out.2 (.inr h2))
            have HO2 := Lib.hid hO2
            subst h2
            have h3 : ¬ (X : Int) = c1 := by omega
            clear hO2
            go_wp2_with fail
            go_quiet (fail)
            go_wp2_with fail
            all_goals go_roundw
            all_goals first | exact ⟨k + 1, qq + nq, by omega, by go_num, by rw [HWQ.out]; simp [World.drewN, Nat.add_assoc], HO2.out⟩ | exact ⟨⟨k + 1, qq + nq, by omega, by go_num, by rw [HWQ.out]; simp [World.drewN, Nat.add_assoc], HO2.out⟩, by simp [intOf]; omega⟩ | (simp [intOf]; omega)
          · have hBad := bad_mark hkl hk4 (Bool.eq_false_iff.2 fun h => (HM.out.1 h).elim h1 h2) lm lb
            have HBE := Lib.hid hBad.1
            have HBN := Lib.hid hBad.2
            have h3 : ¬ (X : Int) = c1 := by omega
            have h4 : ¬ (X : Int) = c2 := by omega
            have h5 : ((X : Int) != (c1 : Int)) = true := by simpa using h3
            have h6 : ((X : Int) != (c2 : Int)) = true := by simpa using h4
            clear hBad
            go_wp2_with fail
            go_quiet (fail)
            go_wp2_with fail
            go_ret2
            exact ⟨by rw [HBE.out, HBN.out]; rfl, by rw [HWQ.out]; exact ⟨rfl, rfl, rfl, Nat.le_refl _, fun _ _ => rfl⟩⟩
      · have hkE : k = 4 := by omega
        subst hkE
        have hM := HO.out.mark (.inl (Nat.le_refl _))
        have HWQ := Lib.hid hwq
        have HM := Lib.hid hM
        clear hwq hM
        by_cases hl16 : bs.length < 16
        · have hE : lookE bs lm lb = 0 := by rw [lookE, if_neg (by rw [HM.out]; simp), if_pos hl16]
          have hN : lookN bs lm lb = 0 := by rw [lookN, if_neg (by omega)]
          have HE1 := Lib.hid hE
          have HN1 := Lib.hid hN
          clear hE hN
          go_wp2_with fail
          go_ret2
          exact ⟨by rw [HE1.out, HN1.out]; rfl, by rw [HWQ.out]; exact below_drewN _ _⟩
        · have d0 : wr.cell? ⟨rb, 0, none⟩ = some (.int .i64 lm) := by rw [HWQ.out]; exact c0
          have d1 : wr.cell? ⟨rb, 1, none⟩ = some (.int .i64 lb) := by rw [HWQ.out]; exact c1
          have hr1 : Rd L c wr 1 (.slice q bs.length cap) bs.length (bs.map byt) := by rw [HWQ.out]; exact hr.drewN qq
          have hB1 : Below w.heap.size w wr := by rw [HWQ.out]; exact below_drewN _ _
          clear HWQ
          go_wp2_with fail
          obtain ⟨b, off, hq, _, _⟩ := hr1.at (show 0 < bs.length by omega)
          subst hq
          have hcap : 16 ≤ cap := by omega
          have k4 : (4 : Int) ≤ (cap : Int) := by omega
          have k8 : (8 : Int) ≤ (cap : Int) := by omega
          have k12 : (12 : Int) ≤ (cap : Int) := by omega
          have k16 : (16 : Int) ≤ (cap : Int) := by omega
          have z4 : ¬ cap = 4 := by omega
          have z8 : ¬ cap = 8 := by omega
          have z12 : ¬ cap = 12 := by omega
          refine Late.region (fun _ => True) (fun _ => false) (by kernel_rfl) ?_
          refine Late.take (i := 0) (v := ?_) rfl (by kernel_rfl) (by kernel_rfl) (by kernel_rfl) (by kernel_rfl) (fun _ _ _ h => h) (Or.inl ⟨by rfl, ?_⟩) trivial ?_
          rotate_left
          · intro w' hS
            go_simp
            rfl
          refine Late.take (i := 1) (v := ?_) rfl (by kernel_rfl) (by kernel_rfl) (by kernel_rfl) (by kernel_rfl) (fun _ _ _ h => h) (Or.inl ⟨by rfl, ?_⟩) trivial ?_
          rotate_left
          · intro w' hS
            go_simp
            rfl
          refine Late.take (i := 3) (v := ?_) rfl (by kernel_rfl) (by kernel_rfl) (by kernel_rfl) (by kernel_rfl) (fun _ _ _ h => h) (Or.inl ⟨by rfl, ?_⟩) trivial ?_
          rotate_left
          · intro w' hS
            go_simp
            rfl
          refine Late.take (i := 4) (v := ?_) rfl (by kernel_rfl) (by kernel_rfl) (by kernel_rfl) (by kernel_rfl) (fun _ _ _ h => h) (Or.inl ⟨by rfl, ?_⟩) trivial ?_
          rotate_left
          · intro w' hS
            go_simp
            rfl
          refine Late.one (i := 2) (by kernel_rfl) rfl (fun K hK => ?_)
          go_simp
          refine ((LookSt.mk hB1 d0 d1 hr1).drew.num (a := 4) (by omega) rfl (by omega) (by omega)).mono ?_; rintro e w2 ⟨rfl, hS2⟩
          refine hK _ _ (fun _ => trivial) ?_
          clear hK K d0 d1 hr1 hB1
          refine Late.one (i := 5) (by kernel_rfl) rfl (fun K hK => ?_)
          go_simp
          refine (hS2.num (a := 8) (by omega) rfl (by omega) (by omega)).mono ?_; rintro e w3 ⟨rfl, hS3⟩
          refine hK _ _ (fun _ => trivial) ?_
          clear hK K hS2
          refine Late.take (i := 6) (v := ?_) rfl (by kernel_rfl) (by kernel_rfl) (by kernel_rfl) (by kernel_rfl) (fun _ _ _ h => h) (Or.inl ⟨by rfl, ?_⟩) trivial ?_
          rotate_left
          · intro w' hS
            go_simp
            rfl
          refine Late.take (i := 7) (v := ?_) rfl (by kernel_rfl) (by kernel_rfl) (by kernel_rfl) (by kernel_rfl) (fun _ _ _ h => h) (Or.inl ⟨by rfl, ?_⟩) trivial ?_
          rotate_left
          · intro w' hS
            go_simp
            rfl
          refine Late.done (by kernel_rfl) ?_ _
          obtain ⟨M, hM⟩ : ∃ x : Nat, x = n4 bs 4 := ⟨_, rfl⟩
          obtain ⟨N, hN⟩ : ∃ x : Nat, x = n4 bs 8 := ⟨_, rfl⟩
          have hMl : M < 4294967296 := by rw [hM]; exact n4_lt _ _
          have hNl : N < 4294967296 := by rw [hN]; exact n4_lt _ _
          rw [← hM, ← hN]
          have HMM := Lib.hid hM
          have HNN := Lib.hid hN
          clear hM hN
          obtain ⟨S, hS⟩ : ∃ S : ByteArray, S = ⟨(seg bs 0 4).toArray⟩ := ⟨_, rfl⟩
          have hcv : (convert 23 9 (.slice (some ⟨b, off, none⟩) 4 cap)).run Try.prog w3 = .ok (.string S) w3 := by
            have hl : (seg bs 0 4).length = 4 := by simp [seg]; omega
            have h4 := Rd.sub hS3.read (a := 0) (m := 4) (by omega) cap (by omega) (by unfold maxLen; omega)
            rw [Nat.add_zero] at h4
            have h5 : Rd (ext (ext L wr.drew.heap.size 0) w2.heap.size 0) c w3 1 (.slice (some ⟨b, off, none⟩) (seg bs 0 4).length cap) (seg bs 0 4).length ((seg bs 0 4).map byt) := by rw [hl]; exact h4
            have := run_toString (P := Try.prog) h5 (src := 23) (e := 5) (dst := 9) Try.underlying23 Try.underlying5 Try.underlying9
            rw [hl] at this
            rw [hS]; exact this
          have HS := Lib.hid hS
          clear hS
          obtain ⟨EB, hEB⟩ : ∃ e : Bool, e = (S.toList == [67, 79, 76, 48]) := ⟨_, rfl⟩
          have heb := hEB.symm
          have HEB := Lib.hid hEB
          clear hEB
          go_wp2_with fail
          clear heb hcv
          generalize ext (ext L wr.drew.heap.size 0) w2.heap.size 0 = L3 at *
          refine Late.region (fun _ => True) (fun _ => false) (by kernel_rfl) ?_
          refine Late.take (i := 0) (v := ?_) rfl (by kernel_rfl) (by kernel_rfl) (by kernel_rfl) (by kernel_rfl) (fun _ _ _ h => h) (Or.inl ⟨by rfl, ?_⟩) trivial ?_
          rotate_left
          · intro w' hS
            go_simp
            rfl
          refine Late.take (i := 1) (v := ?_) rfl (by kernel_rfl) (by kernel_rfl) (by kernel_rfl) (by kernel_rfl) (fun _ _ _ h => h) (Or.inl ⟨by rfl, ?_⟩) trivial ?_
          rotate_left
          · intro w' hS
            go_simp
            rfl
          refine Late.take (i := 3) (v := ?_) rfl (by kernel_rfl) (by kernel_rfl) (by kernel_rfl) (by kernel_rfl) (fun _ _ _ h => h) (Or.inl ⟨by rfl, ?_⟩) trivial ?_
          rotate_left
          · intro w' hS
            go_simp
            rfl
          refine Late.take (i := 4) (v := ?_) rfl (by kernel_rfl) (by kernel_rfl) (by kernel_rfl) (by kernel_rfl) (fun _ _ _ h => h) (Or.inl ⟨by rfl, ?_⟩) trivial ?_
          rotate_left
          · intro w' hS
            go_simp
            rfl
          refine Late.one (i := 2) (by kernel_rfl) rfl (fun K hK => ?_)
          go_simp
          refine (hS3.drew.num (a := 12) (by omega) rfl (by omega) (by omega)).mono ?_; rintro e w4 ⟨rfl, hS4⟩
          refine hK _ _ (fun _ => trivial) ?_
          clear hK K hS3
          generalize ext L3 w3.drew.heap.size 0 = L4 at *
          refine Late.one (i := 5) (by kernel_rfl) rfl (fun K hK => ?_)
          go_simp
          refine (hS4.sum (a := 0) (m := 12) (by omega) rfl (by omega) (by omega) 2166136261 (by decide)).mono ?_; rintro e w5 ⟨rfl, rfl⟩
          refine hK _ _ (fun _ => trivial) ?_
          clear hK K
          obtain ⟨X, hX⟩ : ∃ x : Nat, x = n4 bs 12 := ⟨_, rfl⟩
          obtain ⟨Y, hY⟩ : ∃ x : Nat, x = sumV 2166136261 (seg bs 0 12) := ⟨_, rfl⟩
          have hYl : Y < 4294967296 := by rw [hY]; exact sumV_lt (by decide) _
          rw [← hX, ← hY]
          have hYw : IntKind.i64.wrap (Y : Int) = (Y : Int) := IntWalk.i64_in _ (by omega)
          have HX := Lib.hid hX
          have HY := Lib.hid hY
          clear hX hY
          refine Late.take (i := 6) (v := ?_) rfl (by kernel_rfl) (by kernel_rfl) (by kernel_rfl) (by kernel_rfl) (fun _ _ _ h => h) (Or.inl ⟨by rfl, ?_⟩) trivial ?_
          rotate_left
          · intro w' hS
            go_simp
            rfl
          refine Late.take (i := 7) (v := ?_) rfl (by kernel_rfl) (by kernel_rfl) (by kernel_rfl) (by kernel_rfl) (fun _ _ _ h => h) (Or.inl ⟨by rfl, ?_⟩) trivial ?_
          rotate_left
          · intro w' hS
            go_simp
            rfl
          refine Late.take (i := 8) (v := ?_) rfl (by kernel_rfl) (by kernel_rfl) (by kernel_rfl) (by kernel_rfl) (fun _ _ _ h => h) (Or.inl ⟨by rfl, ?_⟩) trivial ?_
          rotate_left
          · intro w' hS
            go_simp
            rfl
          refine Late.done (by kernel_rfl) ?_ _
          have HBel := Lib.hid hS4.below
          by_cases hXY : X = Y
          · have z1 : ((X : Int) != (Y : Int)) = false := by simp; omega
            have hXY2 := Lib.hid hXY
            have d0 := hS4.lim0
            have d1 := hS4.lim1
            clear hXY
            by_cases hl1 : lm < M
            · have z2 : decide ((lm : Int) < M) = true := by simp; omega
              have hE : lookE bs lm lb = 71 := by
                rw [lookE, if_neg (by rw [HM.out]; simp), if_neg hl16, if_neg (by rw [← HX.out]; intro h; exact h (hXY2.out.trans HY.out)), if_pos (by rw [← HMM.out]; exact .inl hl1)]
              have hN : lookN bs lm lb = 0 := by rw [lookN, if_neg (by rw [hE]; simp)]
              have HE1 := Lib.hid hE
              have HN1 := Lib.hid hN
              clear hS4
              clear hE hN
              go_wp2_with fail
              go_ret2
              exact ⟨by rw [HE1.out, HN1.out]; rfl, HBel.out⟩
            · by_cases hl2 : lb < N
              · have z2 : decide ((lb : Int) < N) = true := by simp; omega
                have z3 : decide ((lm : Int) < M) = false := by simp; omega
                have hE : lookE bs lm lb = 71 := by
                  rw [lookE, if_neg (by rw [HM.out]; simp), if_neg hl16, if_neg (by rw [← HX.out]; intro h; exact h (hXY2.out.trans HY.out)), if_pos (by rw [← HNN.out]; exact .inr hl2)]
                have hN : lookN bs lm lb = 0 := by rw [lookN, if_neg (by rw [hE]; simp)]
                have HE1 := Lib.hid hE
                have HN1 := Lib.hid hN
                clear hS4
                clear hE hN
                go_wp2_with fail
                go_ret2
                exact ⟨by rw [HE1.out, HN1.out]; rfl, HBel.out⟩
              · have z2 : decide ((lb : Int) < N) = false := by simp; omega
                have z3 : decide ((lm : Int) < M) = false := by simp; omega
                have HEBd := Lib.hid (HEB.out.trans ((congrArg (fun s : ByteArray => s.toList == [67, 79, 76, 48]) HS.out).trans (eb_is (by omega) HM.out)))
                by_cases hF : EB = true ∧ (M ≠ 0 ∨ N ≠ 0)
                · obtain ⟨hF1, hF2⟩ := hF
                  have hb3 : bs[3]? = some 48 := of_decide_eq_true (HEBd.out.symm.trans hF1)
                  have Hb3 := Lib.hid hb3
                  subst hF1
                  clear hb3
                  by_cases hM0 : M = 0
                  · have z4 : ((M : Int) != 0) = false := by simp; omega
                    have z5 : ((N : Int) != 0) = true := by simp; omega
                    have hE : lookE bs lm lb = 8 := by
                      rw [lookE, if_neg (by rw [HM.out]; simp), if_neg hl16, if_neg (by rw [← HX.out]; intro h; exact h (hXY2.out.trans HY.out)), if_neg (by rw [← HMM.out, ← HNN.out]; omega), if_pos ⟨Hb3.out, by rw [← HMM.out, ← HNN.out]; exact hF2⟩]
                    have hN : lookN bs lm lb = 0 := by rw [lookN, if_neg (by rw [hE]; simp)]
                    have HE1 := Lib.hid hE
                    have HN1 := Lib.hid hN
                    clear hS4
                    clear hE hN
                    go_wp2_with fail
                    go_ret2
                    exact ⟨by rw [HE1.out, HN1.out]; rfl, HBel.out⟩
                  · have z4 : ((M : Int) != 0) = true := by simp; omega
                    have hE : lookE bs lm lb = 8 := by
                      rw [lookE, if_neg (by rw [HM.out]; simp), if_neg hl16, if_neg (by rw [← HX.out]; intro h; exact h (hXY2.out.trans HY.out)), if_neg (by rw [← HMM.out, ← HNN.out]; omega), if_pos ⟨Hb3.out, by rw [← HMM.out, ← HNN.out]; exact hF2⟩]
                    have hN : lookN bs lm lb = 0 := by rw [lookN, if_neg (by rw [hE]; simp)]
                    have HE1 := Lib.hid hE
                    have HN1 := Lib.hid hN
                    clear hS4
                    clear hE hN
                    go_wp2_with fail
                    go_ret2
                    exact ⟨by rw [HE1.out, HN1.out]; rfl, HBel.out⟩
                · have hF2 : ¬ (bs[3]? = some 48 ∧ (n4 bs 4 ≠ 0 ∨ n4 bs 8 ≠ 0)) := by
                    rintro ⟨h1, h2⟩
                    rw [← HMM.out, ← HNN.out] at h2
                    exact hF ⟨HEBd.out.trans (decide_eq_true h1), h2⟩
                  have HF2 := Lib.hid hF2
                  clear hF2
                  cases EB with
                  | false =>
                    clear hF
                    go_wp2_with fail
                    refine (padded_calls (M : Int) (by omega) (by omega) _).mono ?_; rintro e w6 ⟨rfl, rfl⟩
                    rw [pad_int]
                    obtain ⟨U, hU⟩ : ∃ U, U = padU M := ⟨_, rfl⟩
                    have hUb : M ≤ U ∧ U < M + 8 := by rw [hU]; exact padU_ge _
                    rw [← hU]
                    have HU := Lib.hid hU
                    clear hU
                    obtain ⟨F, hF2⟩ : ∃ F, F = 24 + U := ⟨_, rfl⟩
                    have HF := Lib.hid hF2
                    have hFb : 24 ≤ F ∧ F ≤ 65568 := by omega
                    clear hF2
                    go_wp2_with fail
                    rw [show (24 : Int) + (U : Int) = (F : Int) from by have := HF.out; omega]
                    refine (padded_calls (N : Int) (by omega) (by omega) _).mono ?_; rintro e w6 ⟨rfl, rfl⟩
                    rw [pad_int]
                    obtain ⟨V, hV⟩ : ∃ V, V = padU N := ⟨_, rfl⟩
                    have hVb : N ≤ V ∧ V < N + 8 := by rw [hV]; exact padU_ge _
                    rw [← hV]
                    have HV := Lib.hid hV
                    clear hV
                    go_wp2_with fail
                    refine (empty_calls hS4.read 20 24 (by omega) (by omega)).mono ?_; rintro e w6 ⟨rfl, rfl⟩
                    obtain ⟨Z1, hZ1⟩ : ∃ z, z = zerosB bs (20) (24) := ⟨_, rfl⟩
                    rw [← hZ1]
                    have HZ1 := Lib.hid hZ1
                    clear hZ1
                    cases Z1 with
                    | false =>
                      have hE : lookE bs lm lb = 8 := by
                        rw [lookE, if_neg (by rw [HM.out]; simp), if_neg hl16, if_neg (by rw [← HX.out]; intro h; exact h (hXY2.out.trans HY.out)), if_neg (by rw [← HMM.out, ← HNN.out]; omega), if_neg HF2.out, if_pos (by unfold sizeV fromV; rw [← HMM.out, ← HNN.out, ← HU.out, ← HV.out, ← HF.out]; exact .inl HZ1.out.symm)]
                      have hN : lookN bs lm lb = 0 := by rw [lookN, if_neg (by rw [hE]; simp)]
                      have HE1 := Lib.hid hE
                      have HN1 := Lib.hid hN
                      clear hS4
                      clear hE hN
                      go_wp2_with fail
                      go_ret2
                      exact ⟨by rw [HE1.out, HN1.out]; rfl, HBel.out⟩
                    | true =>
                      go_wp2_with fail
                      refine (empty_calls hS4.read (24 + M) F (by omega) (by omega)).mono ?_; rintro e w6 ⟨rfl, rfl⟩
                      obtain ⟨Z2, hZ2⟩ : ∃ z, z = zerosB bs (24 + M) F := ⟨_, rfl⟩
                      rw [← hZ2]
                      have HZ2 := Lib.hid hZ2
                      clear hZ2
                      cases Z2 with
                      | false =>
                        have hE : lookE bs lm lb = 8 := by
                          rw [lookE, if_neg (by rw [HM.out]; simp), if_neg hl16, if_neg (by rw [← HX.out]; intro h; exact h (hXY2.out.trans HY.out)), if_neg (by rw [← HMM.out, ← HNN.out]; omega), if_neg HF2.out, if_pos (by unfold sizeV fromV; rw [← HMM.out, ← HNN.out, ← HU.out, ← HV.out, ← HF.out]; exact .inr (.inl HZ2.out.symm))]
                        have hN : lookN bs lm lb = 0 := by rw [lookN, if_neg (by rw [hE]; simp)]
                        have HE1 := Lib.hid hE
                        have HN1 := Lib.hid hN
                        clear hS4
                        clear hE hN
                        go_wp2_with fail
                        go_ret2
                        exact ⟨by rw [HE1.out, HN1.out]; rfl, HBel.out⟩
                      | true =>
                        go_wp2_with fail
                        refine (empty_calls hS4.read (F + N) (F + V) (by omega) (by omega)).mono ?_; rintro e w6 ⟨rfl, rfl⟩
                        obtain ⟨Z3, hZ3⟩ : ∃ z, z = zerosB bs (F + N) (F + V) := ⟨_, rfl⟩
                        rw [← hZ3]
                        have HZ3 := Lib.hid hZ3
                        clear hZ3
                        cases Z3 with
                        | false =>
                          have hE : lookE bs lm lb = 8 := by
                            rw [lookE, if_neg (by rw [HM.out]; simp), if_neg hl16, if_neg (by rw [← HX.out]; intro h; exact h (hXY2.out.trans HY.out)), if_neg (by rw [← HMM.out, ← HNN.out]; omega), if_neg HF2.out, if_pos (by unfold sizeV fromV; rw [← HMM.out, ← HNN.out, ← HU.out, ← HV.out, ← HF.out]; exact .inr (.inr HZ3.out.symm))]
                          have hN : lookN bs lm lb = 0 := by rw [lookN, if_neg (by rw [hE]; simp)]
                          have HE1 := Lib.hid hE
                          have HN1 := Lib.hid hN
                          clear hS4
                          clear hE hN
                          go_wp2_with fail
                          go_ret2
                          exact ⟨by rw [HE1.out, HN1.out]; rfl, HBel.out⟩
                        | true =>
                          have hZ : ¬ (zerosB bs 20 24 = false ∨ zerosB bs (24 + n4 bs 4) (fromV bs) = false ∨ zerosB bs (fromV bs + n4 bs 8) (sizeV bs) = false) := by
                            unfold sizeV fromV
                            rw [← HMM.out, ← HNN.out, ← HU.out, ← HV.out, ← HF.out, ← HZ1.out, ← HZ2.out, ← HZ3.out]
                            simp
                          have HZ := Lib.hid hZ
                          clear hZ
                          go_wp2_with fail
                          by_cases hge : F + V ≤ bs.length
                          · have hgi : (F : Int) + V ≤ bs.length := by omega
                            obtain ⟨e1, he1⟩ : ∃ e, e = 24 + M := ⟨_, rfl⟩
                            obtain ⟨e2, he2⟩ : ∃ e, e = F + N := ⟨_, rfl⟩
                            have w1 : IntKind.i64.wrap (24 + (M : Int)) = (e1 : Int) := by rw [IntWalk.i64_in _ (by omega)]; omega
                            have w2 : IntKind.i64.wrap ((F : Int) + (N : Int)) = (e2 : Int) := by rw [IntWalk.i64_in _ (by omega)]; omega
                            have x1 : e1 ≤ cap := by have := HF.out; omega
                            have x2 : (24 : Int) ≤ (e1 : Int) := by omega
                            have x3 : e2 ≤ cap := by omega
                            have x4 : F ≤ e2 := by omega
                            have x5 : e1 - 24 = M := by omega
                            have x6 : e2 - F = N := by omega
                            have x7 : 24 ≤ e1 := by omega
                            have kz : ¬ cap = 16 := by omega
                            have k20 : (20 : Int) ≤ cap := by omega
                            have HE1e := Lib.hid he1
                            have HE2e := Lib.hid he2
                            clear d0 d1 he1 he2
                            refine Late.region (fun _ => True) (fun _ => false) (by kernel_rfl) ?_
                            refine Late.take (i := 0) (v := ?_) rfl (by kernel_rfl) (by kernel_rfl) (by kernel_rfl) (by kernel_rfl) (fun _ _ _ h => h) (Or.inl ⟨by kernel_rfl, ?_⟩) trivial ?_
                            rotate_left
                            · intro w' hS
                              go_simp
                              rfl
                            refine Late.take (i := 1) (v := ?_) rfl (by kernel_rfl) (by kernel_rfl) (by kernel_rfl) (by kernel_rfl) (fun _ _ _ h => h) (Or.inl ⟨by kernel_rfl, ?_⟩) trivial ?_
                            rotate_left
                            · intro w' hS
                              go_simp
                              rfl
                            refine Late.take (i := 2) (v := ?_) rfl (by kernel_rfl) (by kernel_rfl) (by kernel_rfl) (by kernel_rfl) (fun _ _ _ h => h) (Or.inl ⟨by kernel_rfl, ?_⟩) trivial ?_
                            rotate_left
                            · intro w' hS
                              go_simp
                              rfl
                            refine Late.take (i := 3) (v := ?_) rfl (by kernel_rfl) (by kernel_rfl) (by kernel_rfl) (by kernel_rfl) (fun _ _ _ h => h) (Or.inl ⟨by kernel_rfl, ?_⟩) trivial ?_
                            rotate_left
                            · intro w' hS
                              go_simp
                              rfl
                            refine Late.take (i := 4) (v := ?_) rfl (by kernel_rfl) (by kernel_rfl) (by kernel_rfl) (by kernel_rfl) (fun _ _ _ h => h) (Or.inl ⟨by kernel_rfl, ?_⟩) trivial ?_
                            rotate_left
                            · intro w' hS
                              go_simp
                              rfl
                            refine Late.take (i := 5) (v := ?_) rfl (by kernel_rfl) (by kernel_rfl) (by kernel_rfl) (by kernel_rfl) (fun _ _ _ h => h) (Or.inl ⟨by kernel_rfl, ?_⟩) trivial ?_
                            rotate_left
                            · intro w' hS
                              go_simp
                              rfl
                            refine Late.take (i := 6) (v := ?_) rfl (by kernel_rfl) (by kernel_rfl) (by kernel_rfl) (by kernel_rfl) (fun _ _ _ h => h) (Or.inl ⟨by kernel_rfl, ?_⟩) trivial ?_
                            rotate_left
                            · intro w' hS
                              go_simp
                              rfl
                            refine Late.take (i := 8) (v := ?_) rfl (by kernel_rfl) (by kernel_rfl) (by kernel_rfl) (by kernel_rfl) (fun _ _ _ h => h) (Or.inl ⟨by kernel_rfl, ?_⟩) trivial ?_
                            rotate_left
                            · intro w' hS
                              go_simp
                              rfl
                            refine Late.take (i := 9) (v := ?_) rfl (by kernel_rfl) (by kernel_rfl) (by kernel_rfl) (by kernel_rfl) (fun _ _ _ h => h) (Or.inl ⟨by kernel_rfl, ?_⟩) trivial ?_
                            rotate_left
                            · intro w' hS
                              go_simp
                              rfl
                            refine Late.take (i := 10) (v := ?_) rfl (by kernel_rfl) (by kernel_rfl) (by kernel_rfl) (by kernel_rfl) (fun _ _ _ h => h) (Or.inl ⟨by kernel_rfl, ?_⟩) trivial ?_
                            rotate_left
                            · intro w' hS
                              go_simp
                              rfl
                            refine Late.take (i := 11) (v := ?_) rfl (by kernel_rfl) (by kernel_rfl) (by kernel_rfl) (by kernel_rfl) (fun _ _ _ h => h) (Or.inl ⟨by kernel_rfl, ?_⟩) trivial ?_
                            rotate_left
                            · intro w' hS
                              go_simp
                              rfl
                            refine Late.take (i := 13) (v := ?_) rfl (by kernel_rfl) (by kernel_rfl) (by kernel_rfl) (by kernel_rfl) (fun _ _ _ h => h) (Or.inl ⟨by kernel_rfl, ?_⟩) trivial ?_
                            rotate_left
                            · intro w' hS
                              go_simp
                              rfl
                            refine Late.take (i := 14) (v := ?_) rfl (by kernel_rfl) (by kernel_rfl) (by kernel_rfl) (by kernel_rfl) (fun _ _ _ h => h) (Or.inl ⟨by kernel_rfl, ?_⟩) trivial ?_
                            rotate_left
                            · intro w' hS
                              go_simp
                              rfl
                            refine Late.take (i := 15) (v := ?_) rfl (by kernel_rfl) (by kernel_rfl) (by kernel_rfl) (by kernel_rfl) (fun _ _ _ h => h) (Or.inl ⟨by kernel_rfl, ?_⟩) trivial ?_
                            rotate_left
                            · intro w' hS
                              go_simp
                              rfl
                            refine Late.take (i := 16) (v := ?_) rfl (by kernel_rfl) (by kernel_rfl) (by kernel_rfl) (by kernel_rfl) (fun _ _ _ h => h) (Or.inl ⟨by kernel_rfl, ?_⟩) trivial ?_
                            rotate_left
                            · intro w' hS
                              go_simp
                              rfl
                            refine Late.take (i := 17) (v := ?_) rfl (by kernel_rfl) (by kernel_rfl) (by kernel_rfl) (by kernel_rfl) (fun _ _ _ h => h) (Or.inl ⟨by kernel_rfl, ?_⟩) trivial ?_
                            rotate_left
                            · intro w' hS
                              go_simp
                              rfl
                            refine Late.take (i := 18) (v := ?_) rfl (by kernel_rfl) (by kernel_rfl) (by kernel_rfl) (by kernel_rfl) (fun _ _ _ h => h) (Or.inl ⟨by kernel_rfl, ?_⟩) trivial ?_
                            rotate_left
                            · intro w' hS
                              go_simp
                              rfl
                            refine Late.one (i := 7) (by kernel_rfl) rfl (fun K hK => ?_)
                            go_simp
                            refine (hS4.drew.num (a := 16) (by omega) rfl (by omega) (by omega)).mono ?_; rintro e w7 ⟨rfl, hS7⟩
                            refine hK _ _ (fun _ => trivial) ?_
                            clear hK K hS4
                            generalize ext L4 w4.drew.heap.size 0 = L7 at *
                            refine Late.one (i := 12) (by kernel_rfl) rfl (fun K hK => ?_)
                            go_simp
                            refine (hS7.sum2 (a := 24) (m := M) (by have := HF.out; omega) 2166136261 (by decide)).mono ?_; rintro e w8 ⟨rfl, rfl⟩
                            refine hK _ _ (fun _ => trivial) ?_
                            clear hK K
                            obtain ⟨P1, hP1⟩ : ∃ x : Nat, x = sumV 2166136261 (seg bs 24 M) := ⟨_, rfl⟩
                            have hP1l : P1 < 4294967296 := by rw [hP1]; exact sumV_lt (by decide) _
                            rw [← hP1]
                            have HP1 := Lib.hid hP1
                            clear hP1
                            refine Late.one (i := 19) (by kernel_rfl) rfl (fun K hK => ?_)
                            go_simp
                            refine (hS7.sum2 (a := F) (m := N) (by omega) P1 hP1l).mono ?_; rintro e w9 ⟨rfl, rfl⟩
                            refine hK _ _ (fun _ => trivial) ?_
                            clear hK K
                            obtain ⟨X2, hX2⟩ : ∃ x : Nat, x = n4 bs 16 := ⟨_, rfl⟩
                            obtain ⟨Y2, hY2⟩ : ∃ x : Nat, x = sumV P1 (seg bs F N) := ⟨_, rfl⟩
                            have hY2l : Y2 < 4294967296 := by rw [hY2]; exact sumV_lt hP1l _
                            rw [← hX2, ← hY2]
                            have hYw2 : IntKind.i64.wrap (Y2 : Int) = (Y2 : Int) := IntWalk.i64_in _ (by omega)
                            have HX2 := Lib.hid hX2
                            have HY2 := Lib.hid hY2
                            clear hX2 hY2
                            have HBel2 := Lib.hid hS7.below
                            have hSz : sizeV bs = F + V := by unfold sizeV fromV; rw [← HMM.out, ← HNN.out, ← HU.out, ← HV.out, ← HF.out]
                            have HSz := Lib.hid hSz
                            have hSum : sumV (sumV firstV (seg bs 24 (n4 bs 4))) (seg bs (fromV bs) (n4 bs 8)) = Y2 := by
                              unfold fromV
                              rw [← HMM.out, ← HNN.out, ← HU.out, ← HF.out, HY2.out, HP1.out]; rfl
                            have HSum := Lib.hid hSum
                            clear hSz hSum hS7
                            by_cases hXY3 : X2 = Y2
                            · have y1 : ((X2 : Int) != (Y2 : Int)) = false := by simp; omega
                              have HXY3 := Lib.hid hXY3
                              clear hXY3
                              refine Late.take (i := 20) (v := ?_) rfl (by kernel_rfl) (by kernel_rfl) (by kernel_rfl) (by kernel_rfl) (fun _ _ _ h => h) (Or.inl ⟨by kernel_rfl, ?_⟩) trivial ?_
                              rotate_left
                              · intro w' hS
                                go_simp
                                rfl
                              refine Late.take (i := 21) (v := ?_) rfl (by kernel_rfl) (by kernel_rfl) (by kernel_rfl) (by kernel_rfl) (fun _ _ _ h => h) (Or.inl ⟨by kernel_rfl, ?_⟩) trivial ?_
                              rotate_left
                              · intro w' hS
                                go_simp
                                rfl
                              refine Late.take (i := 22) (v := ?_) rfl (by kernel_rfl) (by kernel_rfl) (by kernel_rfl) (by kernel_rfl) (fun _ _ _ h => h) (Or.inl ⟨by kernel_rfl, ?_⟩) trivial ?_
                              rotate_left
                              · intro w' hS
                                go_simp
                                rfl
                              refine Late.done (by kernel_rfl) ?_ _
                              have hE : lookE bs lm lb = 0 := by
                                rw [lookE, if_neg (by rw [HM.out]; simp), if_neg hl16, if_neg (by rw [← HX.out]; intro h; exact h (hXY2.out.trans HY.out)), if_neg (by rw [← HMM.out, ← HNN.out]; omega), if_neg HF2.out, if_neg HZ.out, if_neg (by rw [HSum.out, ← HX2.out]; intro h; exact h.2 HXY3.out)]
                              have hN : lookN bs lm lb = F + V := by rw [lookN, if_pos ⟨hE, by omega⟩]; exact HSz.out
                              have HE1 := Lib.hid hE
                              have HN1 := Lib.hid hN
                              clear hE hN
                              go_wp2_with fail
                              all_goals go_ret2
                              all_goals exact ⟨by rw [HE1.out, HN1.out]; rfl, HBel2.out⟩
                            · have y1 : ((X2 : Int) != (Y2 : Int)) = true := by simp; omega
                              refine Late.take (i := 20) (v := ?_) rfl (by kernel_rfl) (by kernel_rfl) (by kernel_rfl) (by kernel_rfl) (fun _ _ _ h => h) (Or.inl ⟨by kernel_rfl, ?_⟩) trivial ?_
                              rotate_left
                              · intro w' hS
                                go_simp
                                rfl
                              refine Late.take (i := 21) (v := ?_) rfl (by kernel_rfl) (by kernel_rfl) (by kernel_rfl) (by kernel_rfl) (fun _ _ _ h => h) (Or.inl ⟨by kernel_rfl, ?_⟩) trivial ?_
                              rotate_left
                              · intro w' hS
                                go_simp
                                rfl
                              refine Late.take (i := 22) (v := ?_) rfl (by kernel_rfl) (by kernel_rfl) (by kernel_rfl) (by kernel_rfl) (fun _ _ _ h => h) (Or.inl ⟨by kernel_rfl, ?_⟩) trivial ?_
                              rotate_left
                              · intro w' hS
                                go_simp
                                rfl
                              refine Late.done (by kernel_rfl) ?_ _
                              have hE : lookE bs lm lb = 72 := by
                                rw [lookE, if_neg (by rw [HM.out]; simp), if_neg hl16, if_neg (by rw [← HX.out]; intro h; exact h (hXY2.out.trans HY.out)), if_neg (by rw [← HMM.out, ← HNN.out]; omega), if_neg HF2.out, if_neg HZ.out, if_pos ⟨by rw [HSz.out]; exact hge, by rw [HSum.out, ← HX2.out]; exact hXY3⟩]
                              have hN : lookN bs lm lb = 0 := by rw [lookN, if_neg (by rw [hE]; simp)]
                              have HE1 := Lib.hid hE
                              have HN1 := Lib.hid hN
                              clear hE hN
                              go_wp2_with fail
                              all_goals go_ret2
                              all_goals exact ⟨by rw [HE1.out, HN1.out]; rfl, HBel2.out⟩
                          · have hgi : ¬ ((F : Int) + V ≤ bs.length) := by omega
                            have hSz : sizeV bs = F + V := by unfold sizeV fromV; rw [← HMM.out, ← HNN.out, ← HU.out, ← HV.out, ← HF.out]
                            have HSz := Lib.hid hSz
                            have HBel2 := Lib.hid hS4.drew.below
                            have hBd : ∀ nq, Below w.heap.size w (w4.drewN nq) := fun nq => hS4.below.trans ⟨rfl, rfl, rfl, Nat.le_refl _, fun _ _ => rfl⟩
                            have HBd := Lib.hid hBd
                            clear hSz hS4 hBd
                            have hE : lookE bs lm lb = 0 := by
                              rw [lookE, if_neg (by rw [HM.out]; simp), if_neg hl16, if_neg (by rw [← HX.out]; intro h; exact h (hXY2.out.trans HY.out)), if_neg (by rw [← HMM.out, ← HNN.out]; omega), if_neg HF2.out, if_neg HZ.out, if_neg (by rw [HSz.out]; intro h; exact hge h.1)]
                            have hN : lookN bs lm lb = F + V := by rw [lookN, if_pos ⟨hE, by omega⟩]; exact HSz.out
                            have HE1 := Lib.hid hE
                            have HN1 := Lib.hid hN
                            clear hE hN d0 d1
                            go_quiet (fail)
                            go_wp2_with fail
                            go_ret2
                            exact ⟨by rw [HE1.out, HN1.out]; rfl, HBd.out _⟩
                  | true =>
                    have hM0 : M = 0 := by
                      rcases Nat.eq_zero_or_pos M with h | h
                      · exact h
                      · exact absurd ⟨rfl, .inl (by omega)⟩ hF
                    have hN0 : N = 0 := by
                      rcases Nat.eq_zero_or_pos N with h | h
                      · exact h
                      · exact absurd ⟨rfl, .inr (by omega)⟩ hF
                    have z4 : ((M : Int) != 0) = false := by simp; omega
                    have z5 : ((N : Int) != 0) = false := by simp; omega
                    clear hF hM0 hN0
                    go_wp2_with fail
                    refine (padded_calls (M : Int) (by omega) (by omega) _).mono ?_; rintro e w6 ⟨rfl, rfl⟩
                    rw [pad_int]
                    obtain ⟨U, hU⟩ : ∃ U, U = padU M := ⟨_, rfl⟩
                    have hUb : M ≤ U ∧ U < M + 8 := by rw [hU]; exact padU_ge _
                    rw [← hU]
                    have HU := Lib.hid hU
                    clear hU
                    obtain ⟨F, hF2⟩ : ∃ F, F = 24 + U := ⟨_, rfl⟩
                    have HF := Lib.hid hF2
                    have hFb : 24 ≤ F ∧ F ≤ 65568 := by omega
                    clear hF2
                    go_wp2_with fail
                    rw [show (24 : Int) + (U : Int) = (F : Int) from by have := HF.out; omega]
                    refine (padded_calls (N : Int) (by omega) (by omega) _).mono ?_; rintro e w6 ⟨rfl, rfl⟩
                    rw [pad_int]
                    obtain ⟨V, hV⟩ : ∃ V, V = padU N := ⟨_, rfl⟩
                    have hVb : N ≤ V ∧ V < N + 8 := by rw [hV]; exact padU_ge _
                    rw [← hV]
                    have HV := Lib.hid hV
                    clear hV
                    go_wp2_with fail
                    refine (empty_calls hS4.read 20 24 (by omega) (by omega)).mono ?_; rintro e w6 ⟨rfl, rfl⟩
                    obtain ⟨Z1, hZ1⟩ : ∃ z, z = zerosB bs (20) (24) := ⟨_, rfl⟩
                    rw [← hZ1]
                    have HZ1 := Lib.hid hZ1
                    clear hZ1
                    cases Z1 with
                    | false =>
                      have hE : lookE bs lm lb = 8 := by
                        rw [lookE, if_neg (by rw [HM.out]; simp), if_neg hl16, if_neg (by rw [← HX.out]; intro h; exact h (hXY2.out.trans HY.out)), if_neg (by rw [← HMM.out, ← HNN.out]; omega), if_neg HF2.out, if_pos (by unfold sizeV fromV; rw [← HMM.out, ← HNN.out, ← HU.out, ← HV.out, ← HF.out]; exact .inl HZ1.out.symm)]
                      have hN : lookN bs lm lb = 0 := by rw [lookN, if_neg (by rw [hE]; simp)]
                      have HE1 := Lib.hid hE
                      have HN1 := Lib.hid hN
                      clear hS4
                      clear hE hN
                      go_wp2_with fail
                      go_ret2
                      exact ⟨by rw [HE1.out, HN1.out]; rfl, HBel.out⟩
                    | true =>
                      go_wp2_with fail
                      refine (empty_calls hS4.read (24 + M) F (by omega) (by omega)).mono ?_; rintro e w6 ⟨rfl, rfl⟩
                      obtain ⟨Z2, hZ2⟩ : ∃ z, z = zerosB bs (24 + M) F := ⟨_, rfl⟩
                      rw [← hZ2]
                      have HZ2 := Lib.hid hZ2
                      clear hZ2
                      cases Z2 with
                      | false =>
                        have hE : lookE bs lm lb = 8 := by
                          rw [lookE, if_neg (by rw [HM.out]; simp), if_neg hl16, if_neg (by rw [← HX.out]; intro h; exact h (hXY2.out.trans HY.out)), if_neg (by rw [← HMM.out, ← HNN.out]; omega), if_neg HF2.out, if_pos (by unfold sizeV fromV; rw [← HMM.out, ← HNN.out, ← HU.out, ← HV.out, ← HF.out]; exact .inr (.inl HZ2.out.symm))]
                        have hN : lookN bs lm lb = 0 := by rw [lookN, if_neg (by rw [hE]; simp)]
                        have HE1 := Lib.hid hE
                        have HN1 := Lib.hid hN
                        clear hS4
                        clear hE hN
                        go_wp2_with fail
                        go_ret2
                        exact ⟨by rw [HE1.out, HN1.out]; rfl, HBel.out⟩
                      | true =>
                        go_wp2_with fail
                        refine (empty_calls hS4.read (F + N) (F + V) (by omega) (by omega)).mono ?_; rintro e w6 ⟨rfl, rfl⟩
                        obtain ⟨Z3, hZ3⟩ : ∃ z, z = zerosB bs (F + N) (F + V) := ⟨_, rfl⟩
                        rw [← hZ3]
                        have HZ3 := Lib.hid hZ3
                        clear hZ3
                        cases Z3 with
                        | false =>
                          have hE : lookE bs lm lb = 8 := by
                            rw [lookE, if_neg (by rw [HM.out]; simp), if_neg hl16, if_neg (by rw [← HX.out]; intro h; exact h (hXY2.out.trans HY.out)), if_neg (by rw [← HMM.out, ← HNN.out]; omega), if_neg HF2.out, if_pos (by unfold sizeV fromV; rw [← HMM.out, ← HNN.out, ← HU.out, ← HV.out, ← HF.out]; exact .inr (.inr HZ3.out.symm))]
                          have hN : lookN bs lm lb = 0 := by rw [lookN, if_neg (by rw [hE]; simp)]
                          have HE1 := Lib.hid hE
                          have HN1 := Lib.hid hN
                          clear hS4
                          clear hE hN
                          go_wp2_with fail
                          go_ret2
                          exact ⟨by rw [HE1.out, HN1.out]; rfl, HBel.out⟩
                        | true =>
                          have hZ : ¬ (zerosB bs 20 24 = false ∨ zerosB bs (24 + n4 bs 4) (fromV bs) = false ∨ zerosB bs (fromV bs + n4 bs 8) (sizeV bs) = false) := by
                            unfold sizeV fromV
                            rw [← HMM.out, ← HNN.out, ← HU.out, ← HV.out, ← HF.out, ← HZ1.out, ← HZ2.out, ← HZ3.out]
                            simp
                          have HZ := Lib.hid hZ
                          clear hZ
                          go_wp2_with fail
                          by_cases hge : F + V ≤ bs.length
                          · have hgi : (F : Int) + V ≤ bs.length := by omega
                            obtain ⟨e1, he1⟩ : ∃ e, e = 24 + M := ⟨_, rfl⟩
                            obtain ⟨e2, he2⟩ : ∃ e, e = F + N := ⟨_, rfl⟩
                            have w1 : IntKind.i64.wrap (24 + (M : Int)) = (e1 : Int) := by rw [IntWalk.i64_in _ (by omega)]; omega
                            have w2 : IntKind.i64.wrap ((F : Int) + (N : Int)) = (e2 : Int) := by rw [IntWalk.i64_in _ (by omega)]; omega
                            have x1 : e1 ≤ cap := by have := HF.out; omega
                            have x2 : (24 : Int) ≤ (e1 : Int) := by omega
                            have x3 : e2 ≤ cap := by omega
                            have x4 : F ≤ e2 := by omega
                            have x5 : e1 - 24 = M := by omega
                            have x6 : e2 - F = N := by omega
                            have x7 : 24 ≤ e1 := by omega
                            have kz : ¬ cap = 16 := by omega
                            have k20 : (20 : Int) ≤ cap := by omega
                            have HE1e := Lib.hid he1
                            have HE2e := Lib.hid he2
                            clear d0 d1 he1 he2
                            refine Late.region (fun _ => True) (fun _ => false) (by kernel_rfl) ?_
                            refine Late.take (i := 0) (v := ?_) rfl (by kernel_rfl) (by kernel_rfl) (by kernel_rfl) (by kernel_rfl) (fun _ _ _ h => h) (Or.inl ⟨by kernel_rfl, ?_⟩) trivial ?_
                            rotate_left
                            · intro w' hS
                              go_simp
                              rfl
                            refine Late.take (i := 1) (v := ?_) rfl (by kernel_rfl) (by kernel_rfl) (by kernel_rfl) (by kernel_rfl) (fun _ _ _ h => h) (Or.inl ⟨by kernel_rfl, ?_⟩) trivial ?_
                            rotate_left
                            · intro w' hS
                              go_simp
                              rfl
                            refine Late.take (i := 2) (v := ?_) rfl (by kernel_rfl) (by kernel_rfl) (by kernel_rfl) (by kernel_rfl) (fun _ _ _ h => h) (Or.inl ⟨by kernel_rfl, ?_⟩) trivial ?_
                            rotate_left
                            · intro w' hS
                              go_simp
                              rfl
                            refine Late.take (i := 3) (v := ?_) rfl (by kernel_rfl) (by kernel_rfl) (by kernel_rfl) (by kernel_rfl) (fun _ _ _ h => h) (Or.inl ⟨by kernel_rfl, ?_⟩) trivial ?_
                            rotate_left
                            · intro w' hS
                              go_simp
                              rfl
                            refine Late.take (i := 4) (v := ?_) rfl (by kernel_rfl) (by kernel_rfl) (by kernel_rfl) (by kernel_rfl) (fun _ _ _ h => h) (Or.inl ⟨by kernel_rfl, ?_⟩) trivial ?_
                            rotate_left
                            · intro w' hS
                              go_simp
                              rfl
                            refine Late.take (i := 5) (v := ?_) rfl (by kernel_rfl) (by kernel_rfl) (by kernel_rfl) (by kernel_rfl) (fun _ _ _ h => h) (Or.inl ⟨by kernel_rfl, ?_⟩) trivial ?_
                            rotate_left
                            · intro w' hS
                              go_simp
                              rfl
                            refine Late.take (i := 6) (v := ?_) rfl (by kernel_rfl) (by kernel_rfl) (by kernel_rfl) (by kernel_rfl) (fun _ _ _ h => h) (Or.inl ⟨by kernel_rfl, ?_⟩) trivial ?_
                            rotate_left
                            · intro w' hS
                              go_simp
                              rfl
                            refine Late.take (i := 8) (v := ?_) rfl (by kernel_rfl) (by kernel_rfl) (by kernel_rfl) (by kernel_rfl) (fun _ _ _ h => h) (Or.inl ⟨by kernel_rfl, ?_⟩) trivial ?_
                            rotate_left
                            · intro w' hS
                              go_simp
                              rfl
                            refine Late.take (i := 9) (v := ?_) rfl (by kernel_rfl) (by kernel_rfl) (by kernel_rfl) (by kernel_rfl) (fun _ _ _ h => h) (Or.inl ⟨by kernel_rfl, ?_⟩) trivial ?_
                            rotate_left
                            · intro w' hS
                              go_simp
                              rfl
                            refine Late.take (i := 10) (v := ?_) rfl (by kernel_rfl) (by kernel_rfl) (by kernel_rfl) (by kernel_rfl) (fun _ _ _ h => h) (Or.inl ⟨by kernel_rfl, ?_⟩) trivial ?_
                            rotate_left
                            · intro w' hS
                              go_simp
                              rfl
                            refine Late.take (i := 11) (v := ?_) rfl (by kernel_rfl) (by kernel_rfl) (by kernel_rfl) (by kernel_rfl) (fun _ _ _ h => h) (Or.inl ⟨by kernel_rfl, ?_⟩) trivial ?_
                            rotate_left
                            · intro w' hS
                              go_simp
                              rfl
                            refine Late.take (i := 13) (v := ?_) rfl (by kernel_rfl) (by kernel_rfl) (by kernel_rfl) (by kernel_rfl) (fun _ _ _ h => h) (Or.inl ⟨by kernel_rfl, ?_⟩) trivial ?_
                            rotate_left
                            · intro w' hS
                              go_simp
                              rfl
                            refine Late.take (i := 14) (v := ?_) rfl (by kernel_rfl) (by kernel_rfl) (by kernel_rfl) (by kernel_rfl) (fun _ _ _ h => h) (Or.inl ⟨by kernel_rfl, ?_⟩) trivial ?_
                            rotate_left
                            · intro w' hS
                              go_simp
                              rfl
                            refine Late.take (i := 15) (v := ?_) rfl (by kernel_rfl) (by kernel_rfl) (by kernel_rfl) (by kernel_rfl) (fun _ _ _ h => h) (Or.inl ⟨by kernel_rfl, ?_⟩) trivial ?_
                            rotate_left
                            · intro w' hS
                              go_simp
                              rfl
                            refine Late.take (i := 16) (v := ?_) rfl (by kernel_rfl) (by kernel_rfl) (by kernel_rfl) (by kernel_rfl) (fun _ _ _ h => h) (Or.inl ⟨by kernel_rfl, ?_⟩) trivial ?_
                            rotate_left
                            · intro w' hS
                              go_simp
                              rfl
                            refine Late.take (i := 17) (v := ?_) rfl (by kernel_rfl) (by kernel_rfl) (by kernel_rfl) (by kernel_rfl) (fun _ _ _ h => h) (Or.inl ⟨by kernel_rfl, ?_⟩) trivial ?_
                            rotate_left
                            · intro w' hS
                              go_simp
                              rfl
                            refine Late.take (i := 18) (v := ?_) rfl (by kernel_rfl) (by kernel_rfl) (by kernel_rfl) (by kernel_rfl) (fun _ _ _ h => h) (Or.inl ⟨by kernel_rfl, ?_⟩) trivial ?_
                            rotate_left
                            · intro w' hS
                              go_simp
                              rfl
                            refine Late.one (i := 7) (by kernel_rfl) rfl (fun K hK => ?_)
                            go_simp
                            refine (hS4.drew.num (a := 16) (by omega) rfl (by omega) (by omega)).mono ?_; rintro e w7 ⟨rfl, hS7⟩
                            refine hK _ _ (fun _ => trivial) ?_
                            clear hK K hS4
                            generalize ext L4 w4.drew.heap.size 0 = L7 at *
                            refine Late.one (i := 12) (by kernel_rfl) rfl (fun K hK => ?_)
                            go_simp
                            refine (hS7.sum2 (a := 24) (m := M) (by have := HF.out; omega) 2166136261 (by decide)).mono ?_; rintro e w8 ⟨rfl, rfl⟩
                            refine hK _ _ (fun _ => trivial) ?_
                            clear hK K
                            obtain ⟨P1, hP1⟩ : ∃ x : Nat, x = sumV 2166136261 (seg bs 24 M) := ⟨_, rfl⟩
                            have hP1l : P1 < 4294967296 := by rw [hP1]; exact sumV_lt (by decide) _
                            rw [← hP1]
                            have HP1 := Lib.hid hP1
                            clear hP1
                            refine Late.one (i := 19) (by kernel_rfl) rfl (fun K hK => ?_)
                            go_simp
                            refine (hS7.sum2 (a := F) (m := N) (by omega) P1 hP1l).mono ?_; rintro e w9 ⟨rfl, rfl⟩
                            refine hK _ _ (fun _ => trivial) ?_
                            clear hK K
                            obtain ⟨X2, hX2⟩ : ∃ x : Nat, x = n4 bs 16 := ⟨_, rfl⟩
                            obtain ⟨Y2, hY2⟩ : ∃ x : Nat, x = sumV P1 (seg bs F N) := ⟨_, rfl⟩
                            have hY2l : Y2 < 4294967296 := by rw [hY2]; exact sumV_lt hP1l _
                            rw [← hX2, ← hY2]
                            have hYw2 : IntKind.i64.wrap (Y2 : Int) = (Y2 : Int) := IntWalk.i64_in _ (by omega)
                            have HX2 := Lib.hid hX2
                            have HY2 := Lib.hid hY2
                            clear hX2 hY2
                            have HBel2 := Lib.hid hS7.below
                            have hSz : sizeV bs = F + V := by unfold sizeV fromV; rw [← HMM.out, ← HNN.out, ← HU.out, ← HV.out, ← HF.out]
                            have HSz := Lib.hid hSz
                            have hSum : sumV (sumV firstV (seg bs 24 (n4 bs 4))) (seg bs (fromV bs) (n4 bs 8)) = Y2 := by
                              unfold fromV
                              rw [← HMM.out, ← HNN.out, ← HU.out, ← HF.out, HY2.out, HP1.out]; rfl
                            have HSum := Lib.hid hSum
                            clear hSz hSum hS7
                            by_cases hXY3 : X2 = Y2
                            · have y1 : ((X2 : Int) != (Y2 : Int)) = false := by simp; omega
                              have HXY3 := Lib.hid hXY3
                              clear hXY3
                              refine Late.take (i := 20) (v := ?_) rfl (by kernel_rfl) (by kernel_rfl) (by kernel_rfl) (by kernel_rfl) (fun _ _ _ h => h) (Or.inl ⟨by kernel_rfl, ?_⟩) trivial ?_
                              rotate_left
                              · intro w' hS
                                go_simp
                                rfl
                              refine Late.take (i := 21) (v := ?_) rfl (by kernel_rfl) (by kernel_rfl) (by kernel_rfl) (by kernel_rfl) (fun _ _ _ h => h) (Or.inl ⟨by kernel_rfl, ?_⟩) trivial ?_
                              rotate_left
                              · intro w' hS
                                go_simp
                                rfl
                              refine Late.take (i := 22) (v := ?_) rfl (by kernel_rfl) (by kernel_rfl) (by kernel_rfl) (by kernel_rfl) (fun _ _ _ h => h) (Or.inl ⟨by kernel_rfl, ?_⟩) trivial ?_
                              rotate_left
                              · intro w' hS
                                go_simp
                                rfl
                              refine Late.done (by kernel_rfl) ?_ _
                              have hE : lookE bs lm lb = 0 := by
                                rw [lookE, if_neg (by rw [HM.out]; simp), if_neg hl16, if_neg (by rw [← HX.out]; intro h; exact h (hXY2.out.trans HY.out)), if_neg (by rw [← HMM.out, ← HNN.out]; omega), if_neg HF2.out, if_neg HZ.out, if_neg (by rw [HSum.out, ← HX2.out]; intro h; exact h.2 HXY3.out)]
                              have hN : lookN bs lm lb = F + V := by rw [lookN, if_pos ⟨hE, by omega⟩]; exact HSz.out
                              have HE1 := Lib.hid hE
                              have HN1 := Lib.hid hN
                              clear hE hN
                              go_wp2_with fail
                              all_goals go_ret2
                              all_goals exact ⟨by rw [HE1.out, HN1.out]; rfl, HBel2.out⟩
                            · have y1 : ((X2 : Int) != (Y2 : Int)) = true := by simp; omega
                              refine Late.take (i := 20) (v := ?_) rfl (by kernel_rfl) (by kernel_rfl) (by kernel_rfl) (by kernel_rfl) (fun _ _ _ h => h) (Or.inl ⟨by kernel_rfl, ?_⟩) trivial ?_
                              rotate_left
                              · intro w' hS
                                go_simp
                                rfl
                              refine Late.take (i := 21) (v := ?_) rfl (by kernel_rfl) (by kernel_rfl) (by kernel_rfl) (by kernel_rfl) (fun _ _ _ h => h) (Or.inl ⟨by kernel_rfl, ?_⟩) trivial ?_
                              rotate_left
                              · intro w' hS
                                go_simp
                                rfl
                              refine Late.take (i := 22) (v := ?_) rfl (by kernel_rfl) (by kernel_rfl) (by kernel_rfl) (by kernel_rfl) (fun _ _ _ h => h) (Or.inl ⟨by kernel_rfl, ?_⟩) trivial ?_
                              rotate_left
                              · intro w' hS
                                go_simp
                                rfl
                              refine Late.done (by kernel_rfl) ?_ _
                              have hE : lookE bs lm lb = 72 := by
                                rw [lookE, if_neg (by rw [HM.out]; simp), if_neg hl16, if_neg (by rw [← HX.out]; intro h; exact h (hXY2.out.trans HY.out)), if_neg (by rw [← HMM.out, ← HNN.out]; omega), if_neg HF2.out, if_neg HZ.out, if_pos ⟨by rw [HSz.out]; exact hge, by rw [HSum.out, ← HX2.out]; exact hXY3⟩]
                              have hN : lookN bs lm lb = 0 := by rw [lookN, if_neg (by rw [hE]; simp)]
                              have HE1 := Lib.hid hE
                              have HN1 := Lib.hid hN
                              clear hE hN
                              go_wp2_with fail
                              all_goals go_ret2
                              all_goals exact ⟨by rw [HE1.out, HN1.out]; rfl, HBel2.out⟩
                          · have hgi : ¬ ((F : Int) + V ≤ bs.length) := by omega
                            have hSz : sizeV bs = F + V := by unfold sizeV fromV; rw [← HMM.out, ← HNN.out, ← HU.out, ← HV.out, ← HF.out]
                            have HSz := Lib.hid hSz
                            have HBel2 := Lib.hid hS4.drew.below
                            have hBd : ∀ nq, Below w.heap.size w (w4.drewN nq) := fun nq => hS4.below.trans ⟨rfl, rfl, rfl, Nat.le_refl _, fun _ _ => rfl⟩
                            have HBd := Lib.hid hBd
                            clear hSz hS4 hBd
                            have hE : lookE bs lm lb = 0 := by
                              rw [lookE, if_neg (by rw [HM.out]; simp), if_neg hl16, if_neg (by rw [← HX.out]; intro h; exact h (hXY2.out.trans HY.out)), if_neg (by rw [← HMM.out, ← HNN.out]; omega), if_neg HF2.out, if_neg HZ.out, if_neg (by rw [HSz.out]; intro h; exact hge h.1)]
                            have hN : lookN bs lm lb = F + V := by rw [lookN, if_pos ⟨hE, by omega⟩]; exact HSz.out
                            have HE1 := Lib.hid hE
                            have HN1 := Lib.hid hN
                            clear hE hN d0 d1
                            go_quiet (fail)
                            go_wp2_with fail
                            go_ret2
                            exact ⟨by rw [HE1.out, HN1.out]; rfl, HBd.out _⟩
          · have z1 : ((X : Int) != (Y : Int)) = true := by simp; omega
            have z2 : ((X : Int) == (Y : Int)) = false := by simp; omega
            have hE : lookE bs lm lb = 72 := by
              rw [lookE, if_neg (by rw [HM.out]; simp), if_neg hl16, if_pos (by rw [← HX.out]; intro h; exact hXY (h.trans HY.out.symm))]
            have hN : lookN bs lm lb = 0 := by rw [lookN, if_neg (by rw [hE]; simp)]
            have HE1 := Lib.hid hE
            have HN1 := Lib.hid hN
            clear hS4
            clear hE hN
            go_wp2_with fail
            go_ret2
            exact ⟨by rw [HE1.out, HN1.out]; rfl, HBel.out⟩

end Go.Proofs.Ytcebdodogbpglaa.Rdr
