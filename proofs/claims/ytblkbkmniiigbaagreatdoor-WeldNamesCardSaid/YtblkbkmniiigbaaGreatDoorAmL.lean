import Derived.Test.YtblkbkmniiigbaaGreatDoorAmK
import Derived.Deep.AppendSrc
set_option linter.unusedVariables false
set_option linter.unusedSimpArgs false
/-!
  THE ABSTRACT MACHINE, part L: append.
-/
namespace Go.Am
open Go Go.RowKit

/-- What the second argument of an append yields. -/
def srcA (P : Program) (s : St) (tx : TypeId) (size : Nat) (y : AV) : Option (Nat × List AV) :=
  match P.underlying tx with
  | some (.slice _) => match y with
    | .val (.slice none 0 _) => some (0, [])
    | .imm n cs _ => if Nat.beq cs.length (n * size) then some (n, cs) else none
    | .mut i off n _ => match s.row i with
      | some cs => if Nat.ble (off + n * size) cs.length then some (n, (cs.drop off).take (n * size)) else none
      | none => none
    | .own i n => match s.row i with
      | some cs => if Nat.ble (0 + n * size) cs.length then some (n, (cs.drop 0).take (n * size)) else none
      | none => none
    | _ => none
  | some .string => match y with
    | .val (.string b) => if Nat.beq size 1 then some (b.size, (byteCells b).map .val) else none
    | _ => none
  | _ => none

theorem src_sound {P : Program} {g : Gh} {s : St} {w : World} {tx : TypeId} {size k : Nat} {y : AV} {ys : List AV} {v : Value} (h : srcA P s tx size y = some (k, ys)) (rel : Rel g s w) (hy : Rep g w y v) (h1 : oneAll ys = true) :
    ∃ news, Src P size tx v k news w ∧ RepAll g w ys news := by
  unfold srcA at h
  split at h
  · rename_i e hu
    split at h
    · cases h
      simp only [Rep] at hy
      subst hy
      exact ⟨[], Src.ofNil w hu _, by simp [RepAll]⟩
    · rename_i n cs c
      split at h
      · rename_i hl
        cases h
        have hl := Nat.eq_of_beq_eq_true hl
        simp only [Rep] at hy
        obtain ⟨b, o, cap, vs, rfl, _, _, h3, h4, _⟩ := hy
        refine ⟨vs, Src.ofSlice w hu _ _ _ vs (by rw [h3.length]; exact hl) (fun j u hj => ?_) (oneAll_of h1 h3), h3⟩
        rw [Addr.add_lit]; exact (h4 j u hj).1
      · cases h
    · rename_i i off n cap
      split at h
      · rename_i cs hi
        split at h
        · rename_i hle
          cases h
          have hle := Nat.le_of_ble_eq_true hle
          simp only [Rep] at hy
          obtain ⟨_, rfl, _⟩ := hy
          obtain ⟨vs, hvs, hb⟩ := rel.row hi
          have hr := (hvs.drop off).take (k * size)
          have hlen : ((vs.drop off).take (k * size)).length = k * size := by rw [List.length_take, List.length_drop, hvs.length]; omega
          refine ⟨(vs.drop off).take (k * size), Src.ofSlice w hu _ _ _ _ hlen (fun j u hj => ?_) (oneAll_of h1 hr), hr⟩
          rw [Addr.add_lit]
          rw [List.getElem?_take] at hj
          split at hj
          · rw [List.getElem?_drop] at hj
            have := hb _ _ hj
            simpa using this
          · cases hj
        · cases h
      · cases h
    · rename_i i n
      split at h
      · rename_i cs hi
        split at h
        · rename_i hle
          cases h
          have hle := Nat.le_of_ble_eq_true hle
          simp only [Rep] at hy
          obtain ⟨_, rfl, _⟩ := hy
          obtain ⟨vs, hvs, hb⟩ := rel.row hi
          have hr := (hvs.drop 0).take (k * size)
          have hlen : ((vs.drop 0).take (k * size)).length = k * size := by rw [List.length_take, List.length_drop, hvs.length]; omega
          refine ⟨(vs.drop 0).take (k * size), Src.ofSlice w hu _ _ _ _ hlen (fun j u hj => ?_) (oneAll_of h1 hr), hr⟩
          rw [Addr.add_lit]
          rw [List.getElem?_take] at hj
          split at hj
          · rw [List.getElem?_drop] at hj
            have := hb _ _ hj
            simpa using this
          · cases hj
        · cases h
      · cases h
    · cases h
  · rename_i hu
    split at h
    · rename_i b
      split at h
      · rename_i hs
        cases h
        have hs := Nat.eq_of_beq_eq_true hs
        subst hs
        simp only [Rep] at hy
        subst hy
        exact ⟨byteCells b, Src.ofString w hu b, repAll_vals _⟩
      · cases h
    · cases h
  · cases h

/-- Does a list of so many elements fit? -/
def fitsA (n bytes : Nat) : Bool := if Nat.ble (n * bytes) 140737488355328 then Nat.ble n maxLen else false
theorem fitsA_of {n bytes : Nat} (h : fitsA n bytes = true) : n * bytes ≤ 140737488355328 ∧ n ≤ maxLen := by
  unfold fitsA at h
  split at h
  · rename_i h1; exact ⟨Nat.le_of_ble_eq_true h1, Nat.le_of_ble_eq_true h⟩
  · cases h

/-- 'append(x, y...)' whose list may be written. -/
def appendO (s : St) (i : Nat) (e : TypeId) (ie : TypeInfo) (k : Nat) (ys : List AV) (x : AV) : Option (AV × St) :=
  match k with
  | 0 => match x with
    | .val (.slice none 0 0) => some (x, s)
    | .imm _ _ _ => some (x, s)
    | .mut _ _ _ _ => some (x, s)
    | .own _ _ => some (x, s)
    | _ => none
  | k + 1 => match x with
    | .val (.slice none 0 0) => if fitsA (0 + (k + 1)) ie.bytes then (if isNone (s.get i) then some (.own i (0 + (k + 1)), s.add i (.own i ([] ++ ys) e ie.size)) else none) else none
    | .imm n cs .exact => if fitsA (n + (k + 1)) ie.bytes then (if Nat.beq cs.length (n * ie.size) then (if isNone (s.get i) then some (.own i (n + (k + 1)), s.add i (.own i (cs ++ ys) e ie.size)) else none) else none) else none
    | .mut j off n c => if Nat.ble (n + (k + 1)) c then (match s.get j with
        | some (.cells cs ty) => if Nat.ble (off + n * ie.size + ys.length) cs.length then some (.mut j off (n + (k + 1)) c, s.put j (.cells (setAt cs (off + n * ie.size) ys) ty)) else none
        | _ => none) else (match s.row j with
        | some cs => if fitsA (n + (k + 1)) ie.bytes then (if Nat.ble (off + n * ie.size) cs.length then (if isNone (s.get i) then some (.own i (n + (k + 1)), s.add i (.own i ((cs.drop off).take (n * ie.size) ++ ys) e ie.size)) else none) else none) else none
        | none => none)
    | .own j n => match s.get j with
      | some (.own j' cs ty sz) => if Nat.beq j' j then (if Nat.beq sz ie.size then (if Nat.beq ty e then (if fitsA (n + (k + 1)) ie.bytes then (if Nat.beq cs.length (n * ie.size) then (if isNone (s.get i) then some (.own i (n + (k + 1)), (s.put j .gone).add i (.own i (cs ++ ys) e ie.size)) else none) else none) else none) else none) else none) else none
      | _ => none
    | _ => none

/-- 'append(x, y...)'. -/
def appendA (P : Program) (s : St) (i : Nat) (ts : List TypeId) (x y : AV) : Option (AV × St) :=
  match ts with
  | [t, tx] => match P.underlying t with
    | some (.slice e) => match P.info? e with
      | some ie => match ie.zero with
        | some z => match srcA P s tx ie.size y with
          | some (k, ys) => if oneAll ys then (if Nat.beq z.cells.size ie.size then if rowT t then appendO s i e ie k ys x else
              match x with
              | .val (.slice none 0 0) => match k with
                | 0 => some (x, s)
                | k + 1 => if Nat.ble ((k + 1) * ie.bytes) 140737488355328 then (if Nat.ble (k + 1) maxLen then
                    (if isNone (s.tok i) then some (.imm (k + 1) ys (.grow i), s.addT i (k + 1)) else none) else none) else none
              | .imm n cs c => match k with
                | 0 => some (x, s)
                | k + 1 => if Nat.ble ((n + (k + 1)) * ie.bytes) 140737488355328 then (if Nat.ble (n + (k + 1)) maxLen then (if Nat.beq cs.length (n * ie.size) then
                    match c with
                    | .exact => if isNone (s.tok i) then some (.imm (n + (k + 1)) (cs ++ ys) (.grow i), s.addT i (n + (k + 1))) else none
                    | .grow t => match s.tok t with
                      | some m => if Nat.beq m n then (if Nat.blt 0 n then some (.imm (n + (k + 1)) (cs ++ ys) (.grow t), s.putT t (n + (k + 1))) else none) else none
                      | none => none
                    | .unk => none
                  else none) else none) else none
              | _ => none
            else none) else none
          | none => none
        | none => none
      | none => none
    | _ => none
  | _ => none

theorem append_none {P : Program} {w : World} {t tx ty e : TypeId} {i : TypeInfo} (ht : P.underlying t = some (.slice e)) (hi : P.info? e = some i) {b o n cap : Nat} {x : Value} {news : List Value} (hs : Src P i.size tx x 0 news w) (hn : n ≤ cap) :
    (Builtin.append_ #[t, tx] ty #[.slice (some ⟨b, o, none⟩) n cap, x]).run P w = .ok (.slice (some ⟨b, o, none⟩) n cap) w := by
  have hl : news = [] := List.eq_nil_of_length_eq_zero (by rw [hs.newsLen]; omega)
  have := run_append_room_src w t tx ty e i ht hi b o n cap x 0 news hs (by omega) (by intro j hj; rw [hl] at hj; simp at hj) (by intro j hj; rw [hl] at hj; simp at hj)
  rw [this, hl]
  rfl
theorem append_none_nil {P : Program} {w : World} {t tx ty e : TypeId} {i : TypeInfo} (ht : P.underlying t = some (.slice e)) (hi : P.info? e = some i) {x : Value} {news : List Value} (hs : Src P i.size tx x 0 news w) :
    (Builtin.append_ #[t, tx] ty #[.slice none 0 0, x]).run P w = .ok (.slice none 0 0) w := by
  rcases hs.kind with ⟨e', hk⟩ | hk <;> simp [Builtin.append_, run_underlying ht, run_underlying hk, sizeOf, typeInfo, hi, hs.len, hs.cells]

theorem zeroCells_length (z : Array Value) (n : Nat) : (Builtin.zeroCells z n).toList.length = n * z.size := by simp [Builtin.zeroCells]

theorem same_drew (w : World) : Same w w.drew := ⟨rfl, rfl, rfl, rfl⟩

/-- A new row for what grows: from nothing, or from a list without room. -/
theorem append_fresh {P : Program} {g : Gh} {s : St} {w : World} {t tx ty e : TypeId} {ie : TypeInfo} {z : Value} (ht : P.underlying t = some (.slice e)) (hi : P.info? e = some ie) (hz : ie.zero = some z) (hzs : z.cells.size = ie.size)
    {base : Option Addr} {n k tk : Nat} {cs ys : List AV} {olds news : List Value} {x : Value} (hold : (Builtin.firstCells ie.size n (.slice base n n)).run P w.drew = .ok olds.toArray w.drew) (hs : Src P ie.size tx x (k + 1) news w)
    (hb : (n + (k + 1)) * ie.bytes ≤ 140737488355328) (hm : n + (k + 1) ≤ maxLen) (hlen : olds.length = n * ie.size) (rel : Rel g s w) (htk : s.tok tk = none) (ro : RepAll g w cs olds) (rn : RepAll g w ys news) :
    Does P g w (Builtin.append_ #[t, tx] ty #[.slice base n n, x]) (s.addT tk (n + (k + 1))) (fun g' w' v => Rep g' w' (.imm (n + (k + 1)) (cs ++ ys) (.grow tk)) v) := by
  have hlt : n < n + (k + 1) := by omega
  have hrun := run_append_grow_src (P := P) w t tx ty e ie z ht hi hz base n n olds hold x (k + 1) news hs hlt (by simp only [maxLen] at hm; omega) (growslice_fits hlt hb)
  obtain ⟨cap, hcap⟩ : ∃ cap, cap = grownCap w (n + (k + 1)) n e := ⟨_, rfl⟩
  have h1 := grownCap_ge w (n + (k + 1)) n e
  have h2 := grownCap_le_maxLen w (n + (k + 1)) n e hm
  rw [← hcap] at hrun h1 h2
  have harr : (olds ++ news).toArray ++ Builtin.zeroCells z.cells (cap - (n + (k + 1))) = ((olds ++ news) ++ (Builtin.zeroCells z.cells (cap - (n + (k + 1)))).toList).toArray := by
    apply Array.ext'; simp
  rw [harr] at hrun
  have p : Push (.cells ((olds ++ news) ++ (Builtin.zeroCells z.cells (cap - (n + (k + 1)))).toList).toArray e (0, 0)) w (w.drew.alloc (.cells ((olds ++ news) ++ (Builtin.zeroCells z.cells (cap - (n + (k + 1)))).toList).toArray e)) :=
    Push.of (same_drew w) rfl
  have hl : (olds ++ news).length = (n + (k + 1)) * ie.size := by rw [List.length_append, hlen, hs.newsLen, Nat.add_mul n (k + 1)]
  obtain ⟨g', ext, rel', row, ht', htok⟩ := rel.fresh htk p hl (by rw [List.length_append, hl, zeroCells_length, hzs, ← Nat.add_mul]; congr 1; omega) h1 h2
  refine ⟨_, _, g', hrun, ext, rel', ?_⟩
  have hr := RepAll.ext ext (ro.append rn)
  simp only [Rep]
  refine ⟨w.heap.size, 0, cap, olds ++ news, rfl, h1, h2, hr, row, ht', .inr ?_⟩
  rw [htok]
  refine ⟨rfl, rfl, rfl, rfl, ?_⟩
  have := (ro.append rn).length
  rw [← this, hl]

theorem Row.append {g : Gh} {w : World} {b o : Nat} {vs us : List Value} (h : Row g w b o vs) (k : Row g w b (o + vs.length) us) : Row g w b o (vs ++ us) := fun j u hj => by
  rw [List.getElem?_append] at hj
  split at hj
  · exact h j u hj
  · rename_i hlt
    have := k _ _ hj
    have e : o + vs.length + (j - vs.length) = o + j := by omega
    rwa [e] at this

theorem append_tok {P : Program} {g : Gh} {s : St} {w : World} {t tx ty e : TypeId} {ie : TypeInfo} {z : Value} (ht : P.underlying t = some (.slice e)) (hi : P.info? e = some ie) (hz : ie.zero = some z) (hzs : z.cells.size = ie.size)
    {b o cap n k tk : Nat} {cs ys : List AV} {olds news : List Value} {x : Value} (hs : Src P ie.size tx x (k + 1) news w)
    (hb : (n + (k + 1)) * ie.bytes ≤ 140737488355328) (hm : n + (k + 1) ≤ maxLen) (h0 : 0 < n) (hlen : olds.length = n * ie.size) (rel : Rel g s w) (htk : s.tok tk = some n) (ro : RepAll g w cs olds) (rn : RepAll g w ys news) (row : Row g w b o olds)
    (hn : n ≤ cap) (hc : CapOk g (.grow tk) b o n cap cs.length) :
    Does P g w (Builtin.append_ #[t, tx] ty #[.slice (some ⟨b, o, none⟩) n cap, x]) (s.putT tk (n + (k + 1))) (fun g' w' v => Rep g' w' (.imm (n + (k + 1)) (cs ++ ys) (.grow tk)) v) := by
  obtain ⟨hu, hn', hok⟩ := rel.toks tk n htk
  obtain ⟨_, hc⟩ := hc
  have hc := hc.resolve_left (by omega)
  obtain ⟨c1, c2, c3, c4, c5⟩ := hc
  obtain ⟨C, T, hC, hCs⟩ := hok.cells
  have hS : (g.tok tk).size = ie.size := by
    rw [← ro.length, hlen] at c5
    exact (Nat.eq_of_mul_eq_mul_left h0 c5).symm
  have hadd : (n + (k + 1)) * ie.size = n * ie.size + (k + 1) * ie.size := Nat.add_mul n (k + 1) _
  have hadd1 : (k + 1) * ie.size = k * ie.size + ie.size := Nat.succ_mul k _
  have hall := (ro.append rn).length
  have hall2 : (olds ++ news).length = (n + (k + 1)) * ie.size := by rw [List.length_append, hlen, hs.newsLen, hadd]
  by_cases hroom : n + (k + 1) ≤ cap
  · have hmul : (n + (k + 1)) * ie.size ≤ cap * ie.size := Nat.mul_le_mul_right _ hroom
    have hsize : o + n * ie.size + news.length ≤ C.size := by rw [hCs, hS, ← c3, ← c4, hs.newsLen]; omega
    rw [← c2] at hC
    have hrun := run_append_room_src (P := P) w t tx ty e ie ht hi b o n cap x (k + 1) news hs hroom (fun j hj => by
        have hlt : o + n * ie.size + j < C.size := by omega
        simp [World.cell?, hC, hlt]) (fun j hj => by simp [World.frozen?, hC])
    obtain ⟨C', hC', hl'⟩ := setCells_row (o := o + n * ie.size) (vs := news) hC hsize
    have hCl : C'.size = C.size := by
      have : C'.toList.length = C.toList.length := by
        rw [hl']
        simp only [List.length_append, List.length_take, List.length_drop, Array.length_toList]
        omega
      simpa using this
    have hget : ∀ j : Nat, C'[j]? = C'.toList[j]? := fun j => by simp
    have hgetC : ∀ j : Nat, C[j]? = C.toList[j]? := fun j => by simp
    obtain ⟨g', ext, rel', row', ht', htok⟩ := rel.growIn (us := news) (k := k + 1) hu (by rw [← c2]; exact hC) (by rw [← c2]; exact setCells_but b news (o + n * ie.size) w) (by rw [← c2]; exact hC') hCl
      (by rw [hS]; exact hs.newsLen) (by rw [hn', ← c4]; exact hroom) (by omega)
      (fun j hj => by
        rw [hS, hn', ← c3] at hj
        rw [hget, hgetC, hl']
        have hl1 : (C.toList.take (o + n * ie.size)).length = o + n * ie.size := by rw [List.length_take, Array.length_toList]; omega
        rw [List.append_assoc, List.getElem?_append_left (by rw [hl1]; exact hj), List.getElem?_take, if_pos hj])
      (fun j u hj => by
        have hlt := (List.getElem?_eq_some_iff.1 hj).1
        rw [hS, hn', ← c3, hget, hl']
        have hl1 : (C.toList.take (o + n * ie.size)).length = o + n * ie.size := by rw [List.length_take, Array.length_toList]; omega
        rw [List.append_assoc, List.getElem?_append_right (by rw [hl1]; omega), hl1]
        have e1 : o + n * ie.size + j - (o + n * ie.size) = j := by omega
        rw [e1, List.getElem?_append_left hlt]
        exact hj)
    rw [hn'] at rel' htok
    refine ⟨_, _, g', hrun, ext, rel', ?_⟩
    simp only [Rep]
    refine ⟨b, o, cap, olds ++ news, rfl, hroom, by rw [c4]; exact hok.most, RepAll.ext ext (ro.append rn), (row.ext ext).append ?_, ht', .inr ?_⟩
    · rw [hlen]
      rw [hS, hn', ← c2, ← c3] at row'
      exact row'
    · rw [htok]
      exact ⟨rfl, c2, c3, c4, by rw [← hall, hall2, hS]⟩
  · have hg : cap < n + (k + 1) := by omega
    have hold := run_firstCells_some (P := P) w.drew ie.size n ⟨b, o, none⟩ n cap olds hlen (fun j u hj => by rw [Addr.add_lit]; simpa using (row j u hj).1)
    have hrun := run_append_grow_src (P := P) w t tx ty e ie z ht hi hz (some ⟨b, o, none⟩) n cap olds hold x (k + 1) news hs hg (by simp only [maxLen] at hm; omega) (growslice_fits hg hb)
    obtain ⟨cap', hcap⟩ : ∃ cap', cap' = grownCap w (n + (k + 1)) cap e := ⟨_, rfl⟩
    have h1 := grownCap_ge w (n + (k + 1)) cap e
    have h2 := grownCap_le_maxLen w (n + (k + 1)) cap e hm
    rw [← hcap] at hrun h1 h2
    have harr : (olds ++ news).toArray ++ Builtin.zeroCells z.cells (cap' - (n + (k + 1))) = ((olds ++ news) ++ (Builtin.zeroCells z.cells (cap' - (n + (k + 1)))).toList).toArray := by
      apply Array.ext'; simp
    rw [harr] at hrun
    have p : Push (.cells ((olds ++ news) ++ (Builtin.zeroCells z.cells (cap' - (n + (k + 1)))).toList).toArray e (0, 0)) w (w.drew.alloc (.cells ((olds ++ news) ++ (Builtin.zeroCells z.cells (cap' - (n + (k + 1)))).toList).toArray e)) :=
      Push.of (same_drew w) rfl
    obtain ⟨g', ext, rel', row', ht', htok⟩ := rel.growOut (k := k + 1) (cap := cap') hu p (by rw [hn', hS]; exact hlen) (by rw [hS]; exact hs.newsLen)
      (by rw [List.length_append, hall2, zeroCells_length, hzs, hS, ← Nat.add_mul]; congr 1; omega) (by rw [hn']; exact h1) h2 (by omega)
    rw [hn'] at rel' htok
    refine ⟨_, _, g', hrun, ext, rel', ?_⟩
    simp only [Rep]
    refine ⟨w.heap.size, 0, cap', olds ++ news, rfl, h1, h2, RepAll.ext ext (ro.append rn), row', ht', .inr ?_⟩
    rw [htok]
    exact ⟨rfl, rfl, rfl, rfl, by rw [← hall, hall2, hS]⟩

/-- A new list that may be written. -/
theorem append_own {P : Program} {g : Gh} {s : St} {w : World} {t tx ty e : TypeId} {ie : TypeInfo} {z : Value} (ht : P.underlying t = some (.slice e)) (hi : P.info? e = some ie) (hz : ie.zero = some z) (hzs : z.cells.size = ie.size)
    {base : Option Addr} {n cap0 k i : Nat} {cs ys : List AV} {olds news : List Value} {x : Value} (hold : (Builtin.firstCells ie.size n (.slice base n cap0)).run P w.drew = .ok olds.toArray w.drew) (hs : Src P ie.size tx x (k + 1) news w) (hg : cap0 < n + (k + 1))
    (hb : (n + (k + 1)) * ie.bytes ≤ 140737488355328) (hm : n + (k + 1) ≤ maxLen) (hlen : olds.length = n * ie.size) (rel : Rel g s w) (hin : s.get i = none) (ro : RepAll g w cs olds) (rn : RepAll g w ys news) :
    Does P g w (Builtin.append_ #[t, tx] ty #[.slice base n cap0, x]) (s.add i (.own i (cs ++ ys) e ie.size)) (fun g' w' v => Rep g' w' (.own i (n + (k + 1))) v) := by
  have hrun := run_append_grow_src (P := P) w t tx ty e ie z ht hi hz base n cap0 olds hold x (k + 1) news hs hg (by simp only [maxLen] at hm; omega) (growslice_fits hg hb)
  obtain ⟨cap, hcap⟩ : ∃ cap, cap = grownCap w (n + (k + 1)) cap0 e := ⟨_, rfl⟩
  have h1 := grownCap_ge w (n + (k + 1)) cap0 e
  have h2 := grownCap_le_maxLen w (n + (k + 1)) cap0 e hm
  rw [← hcap] at hrun h1 h2
  have harr : (olds ++ news).toArray ++ Builtin.zeroCells z.cells (cap - (n + (k + 1))) = ((olds ++ news) ++ (Builtin.zeroCells z.cells (cap - (n + (k + 1)))).toList).toArray := by
    apply Array.ext'; simp
  rw [harr] at hrun
  have p : Push (.cells ((olds ++ news) ++ (Builtin.zeroCells z.cells (cap - (n + (k + 1)))).toList).toArray e (0, 0)) w (w.drew.alloc (.cells ((olds ++ news) ++ (Builtin.zeroCells z.cells (cap - (n + (k + 1)))).toList).toArray e)) :=
    Push.of (same_drew w) rfl
  have hl : (olds ++ news).length = (n + (k + 1)) * ie.size := by rw [List.length_append, hlen, hs.newsLen, Nat.add_mul n (k + 1)]
  have hnu : ¬ g.use i := fun hu => by have := rel.used i hu; rw [hin] at this; cases this
  have hne : ∀ q, g.use q → q ≠ i := fun q hq e => hnu (e ▸ hq)
  have ext : Ext g w (g.addOwn i w.heap.size cap) (w.drew.alloc (.cells ((olds ++ news) ++ (Builtin.zeroCells z.cells (cap - (n + (k + 1)))).toList).toArray e)) :=
    rel.pushed p rfl (fun _ h => .inl h) (fun q hq => by simp [Gh.addOwn, hne q hq]) (fun _ _ _ => Iff.rfl) (fun _ h => h) (fun _ _ => rfl) (fun q hq => by simp [Gh.addOwn, hne q hq])
  have hoc : (g.addOwn i w.heap.size cap).oc i = cap := by simp [Gh.addOwn]
  obtain ⟨_, rel', hu, hbl⟩ := rel.newOwn (o := .own i (cs ++ ys) e ie.size) hin p (c := cap) ⟨.inr rfl, by rw [hoc]; exact h2, olds ++ news, _, rfl, RepAll.ext ext (ro.append rn), by
    rw [hl, zeroCells_length, hzs, ← Nat.add_mul, hoc]; congr 1; omega⟩
  refine ⟨_, _, _, hrun, ext, rel', ?_⟩
  simp only [Rep]
  exact ⟨hu, by rw [hbl, hoc], by rw [hoc]; exact h1, by rw [hoc]; exact h2⟩

theorem putL_putL {α : Type} (i : Nat) (a b : α) : ∀ (l : List (Nat × α)), putL i b (putL i a l) = putL i b l
  | [] => rfl
  | (j, x) :: r => by
    simp only [putL]
    by_cases h : Nat.beq i j = true
    · rw [if_pos h, if_pos h]
      simp only [putL, h, if_true]
    · rw [if_neg h, if_neg h]
      simp only [putL, h, Bool.false_eq_true, if_false]
      rw [putL_putL i a b r]

theorem appendO_sound {P : Program} {g : Gh} {s s' : St} {w : World} {t tx ty e : TypeId} {ie : TypeInfo} {z : Value} (ht : P.underlying t = some (.slice e)) (hi : P.info? e = some ie) (hz : ie.zero = some z) (hzs : z.cells.size = ie.size)
    {k i : Nat} {ys : List AV} {news : List Value} {x r : AV} {u v : Value} (h : appendO s i e ie k ys x = some (r, s')) (rel : Rel g s w) (hx : Rep g w x u) (hs : Src P ie.size tx v k news w) (rn : RepAll g w ys news) :
    Does P g w (Builtin.append_ #[t, tx] ty #[u, v]) s' (fun g' w' v => Rep g' w' r v) := by
  unfold appendO at h
  split at h
  · split at h
    · cases h
      simp only [Rep] at hx
      subst hx
      exact ⟨_, w, g, append_none_nil ht hi hs, Ext.refl g w, rel, by simp [Rep]⟩
    · cases h
      simp only [Rep] at hx
      obtain ⟨b, o, cap, vs, rfl, k1, k2, k3, k4, k5⟩ := hx
      exact ⟨_, w, g, append_none ht hi hs k1, Ext.refl g w, rel, by simp only [Rep]; exact ⟨b, o, cap, vs, rfl, k1, k2, k3, k4, k5⟩⟩
    · cases h
      simp only [Rep] at hx
      obtain ⟨k1, rfl, k2, k3⟩ := hx
      exact ⟨_, w, g, append_none ht hi hs k2, Ext.refl g w, rel, by simp only [Rep]; exact ⟨k1, trivial, k2, k3⟩⟩
    · cases h
      simp only [Rep] at hx
      obtain ⟨k1, rfl, k2, k3⟩ := hx
      exact ⟨_, w, g, append_none ht hi hs k2, Ext.refl g w, rel, by simp only [Rep]; exact ⟨k1, trivial, k2, k3⟩⟩
    · cases h
  · rename_i k
    split at h
    · split at h
      · rename_i h1
        obtain ⟨h1, h2⟩ := fitsA_of h1
        split at h
        · rename_i h3
          cases h
          simp only [Rep] at hx
          subst hx
          exact append_own (n := 0) (cap0 := 0) (olds := []) (cs := []) ht hi hz hzs (run_firstCells_none w.drew ie.size 0 0 0) hs (by omega) h1 h2 (by simp) rel (isNone_of h3) (by simp [RepAll]) rn
        · cases h
      · cases h
    · rename_i n cs
      simp only [Rep] at hx
      obtain ⟨b, o, cap, vs, rfl, k1, k2, k3, k4, k5⟩ := hx
      split at h
      · rename_i h1
        obtain ⟨h1, h2⟩ := fitsA_of h1
        split at h
        · rename_i h3
          have h3 := Nat.eq_of_beq_eq_true h3
          split at h
          · rename_i h4
            cases h
            have k5 : cap = n := k5
            subst k5
            have hlen : vs.length = cap * ie.size := by rw [k3.length]; exact h3
            exact append_own ht hi hz hzs (run_firstCells_some (P := P) w.drew ie.size cap ⟨b, o, none⟩ cap cap vs hlen (fun j u hj => by rw [Addr.add_lit]; simpa using (k4 j u hj).1)) hs (by omega) h1 h2 hlen rel (isNone_of h4) k3 rn
          · cases h
        · cases h
      · cases h
    · rename_i j off n c
      simp only [Rep] at hx
      obtain ⟨k1, rfl, k2, k3⟩ := hx
      split at h
      · rename_i hroom
        have hroom := Nat.le_of_ble_eq_true hroom
        split at h
        · rename_i cs ty' hj
          split at h
          · rename_i hle
            have hle := Nat.le_of_ble_eq_true hle
            cases h
            obtain ⟨_, _, vs, hb, hvs⟩ := rel.objs j _ hj
            have hnl : news.length = ys.length := rn.length
            have hvl : vs.length = cs.length := hvs.length
            have hrun := run_append_room_src (P := P) w t tx ty e ie ht hi (g.blk j) off n c v (k + 1) news hs hroom (fun q hq => by
                simp [World.cell?, hb]; omega) (fun q hq => by simp [World.frozen?, hb])
            obtain ⟨C', hb', hC'⟩ := setCells_row (w := w) (b := g.blk j) (o := off + n * ie.size) (C := vs.toArray) (vs := news) hb (by simp only [List.size_toArray]; omega)
            obtain ⟨ext, rel'⟩ := rel.write (o' := .cells (setAt cs (off + n * ie.size) ys) ty') hj rfl (setCells_but (g.blk j) news (off + n * ie.size) w) ⟨C'.toList, by simpa using hb', by rw [hC']; exact setAt_rep hvs rn _⟩
            exact ⟨_, _, g, hrun, ext, rel', by simp only [Rep]; exact ⟨k1, trivial, hroom, k3⟩⟩
          · cases h
        · cases h
      · rename_i hroom
        have hroom : c < n + (k + 1) := by
          rcases Nat.lt_or_ge c (n + (k + 1)) with h1 | h1
          · exact h1
          · exact absurd (Nat.ble_eq_true_of_le h1) hroom
        split at h
        · rename_i cs hj
          split at h
          · rename_i h1
            obtain ⟨h1, h2⟩ := fitsA_of h1
            split at h
            · rename_i h3
              have h3 := Nat.le_of_ble_eq_true h3
              split at h
              · rename_i h4
                cases h
                obtain ⟨vs, hvs, hb⟩ := rel.row hj
                have hvl : vs.length = cs.length := hvs.length
                have hlen : ((vs.drop off).take (n * ie.size)).length = n * ie.size := by rw [List.length_take, List.length_drop]; omega
                exact append_own ht hi hz hzs (run_firstCells_some (P := P) w.drew ie.size n ⟨g.blk j, off, none⟩ n c ((vs.drop off).take (n * ie.size)) hlen (fun q u hq => by
                  rw [Addr.add_lit]
                  rw [List.getElem?_take] at hq
                  split at hq
                  · rw [List.getElem?_drop] at hq
                    have := hb _ _ hq
                    simpa using this
                  · cases hq)) hs hroom h1 h2 hlen rel (isNone_of h4) ((hvs.drop off).take _) rn
              · cases h
            · cases h
          · cases h
        · cases h
    · rename_i j n
      simp only [Rep] at hx
      obtain ⟨k1, rfl, k2, k3⟩ := hx
      split at h
      · rename_i j' cs ty' sz hj
        split at h
        · rename_i e1
          have e1 := Nat.eq_of_beq_eq_true e1
          subst e1
          split at h
          · rename_i e2
            have e2 := Nat.eq_of_beq_eq_true e2
            subst e2
            split at h
            · rename_i e3
              have e3 := Nat.eq_of_beq_eq_true e3
              subst e3
              split at h
              · rename_i h1
                obtain ⟨h1, h2⟩ := fitsA_of h1
                split at h
                · rename_i h3
                  have h3 := Nat.eq_of_beq_eq_true h3
                  split at h
                  · rename_i h4
                    have h4 := isNone_of h4
                    cases h
                    obtain ⟨_, _, u1, u2, vs, rest, hb, hvs, hl⟩ := rel.objs j' _ hj
                    have hvl : vs.length = n * ie.size := by rw [hvs.length]; exact h3
                    have hij : i ≠ j' := fun e => by rw [e, hj] at h4; cases h4
                    have hnl := hs.newsLen
                    by_cases hroom : n + (k + 1) ≤ g.oc j'
                    · have hmul : (n + (k + 1)) * ie.size ≤ g.oc j' * ie.size := Nat.mul_le_mul_right _ hroom
                      have hadd : (n + (k + 1)) * ie.size = n * ie.size + (k + 1) * ie.size := Nat.add_mul n (k + 1) _
                      have hfit : vs.length + news.length ≤ vs.length + rest.length := by rw [hl, hvl, hnl, ← hadd]; exact hmul
                      have hfit2 : news.length ≤ rest.length := by omega
                      have hvl2 : 0 + n * ie.size = vs.length := by rw [Nat.zero_add]; exact hvl.symm
                      clear hmul hadd hnl
                      have hrun := run_append_room_src (P := P) w t tx ty ty' ie ht hi (g.blk j') 0 n (g.oc j') v (k + 1) news hs hroom (fun q hq => by
                          rw [hvl2]; simp [World.cell?, hb]; omega) (fun q hq => by simp [World.frozen?, hb])
                      obtain ⟨C', hb', hC'⟩ := setCells_row (w := w) (b := g.blk j') (o := 0 + n * ie.size) (C := (vs ++ rest).toArray) (vs := news) hb (by simp only [List.size_toArray, List.length_append]; rw [hvl2]; omega)
                      have hC2 : C' = ((vs ++ news) ++ rest.drop news.length).toArray := by
                        apply Array.ext'
                        rw [hC']
                        simp only []
                        rw [Nat.zero_add, ← hvl, List.take_left', List.drop_append]
                        · have e5 : vs.length + news.length - vs.length = news.length := by omega
                          rw [e5, List.drop_eq_nil_of_le (by omega)]
                          simp
                        · rfl
                      have hbut := setCells_but (g.blk j') news (0 + n * ie.size) w
                      have hr2 := hvs.append rn
                      obtain ⟨ext, rel'⟩ := rel.write (o' := .own j' (cs ++ ys) ty' ie.size) hj rfl hbut ⟨u1, u2, vs ++ news, rest.drop news.length, by rw [hb', hC2], hr2, by
                        rw [List.length_append, List.length_drop]; omega⟩
                      have hget : (s.put j' (.own j' (cs ++ ys) ty' ie.size)).get j' = some (.own j' (cs ++ ys) ty' ie.size) := by
                        have e5 : (s.put j' (.own j' (cs ++ ys) ty' ie.size)).get j' = if j' = j' then some (.own j' (cs ++ ys) ty' ie.size) else s.get j' := lookL_putL hj j'
                        simpa using e5
                      have hgeti : (s.put j' (.own j' (cs ++ ys) ty' ie.size)).get i = none := by
                        have e5 : (s.put j' (.own j' (cs ++ ys) ty' ie.size)).get i = if i = j' then some (.own j' (cs ++ ys) ty' ie.size) else s.get i := lookL_putL hj i
                        rw [e5, if_neg hij]; exact h4
                      have hnu : ¬ g.use i := fun hu => by have := rel.used i hu; rw [h4] at this; cases this
                      have hne : ∀ q, g.use q → q ≠ i := fun q hq e => hnu (e ▸ hq)
                      have ext2 : Ext g (w.setCells (g.blk j') (0 + n * ie.size) news) (g.addOwn i (g.blk j') (g.oc j')) (w.setCells (g.blk j') (0 + n * ie.size) news) :=
                        ⟨rfl, Below.refl _ _, fun _ h => .inl h, fun q hq => by simp [Gh.addOwn, hne q hq], fun _ _ h => h, fun _ _ _ h => h, fun _ _ _ => rfl, fun _ h => h, fun _ _ => .inl rfl, fun q hq => by simp [Gh.addOwn, hne q hq]⟩
                      have hoc : (g.addOwn i (g.blk j') (g.oc j')).oc i = g.oc j' := by simp [Gh.addOwn]
                      obtain ⟨ext3, rel3⟩ := rel'.rename (i := i) (c := g.oc j') (o' := .own i (cs ++ ys) ty' ie.size) hget rfl hgeti ⟨.inr rfl, by rw [hoc]; exact u2, vs ++ news, rest.drop news.length, by rw [hb', hC2], RepAll.ext (ext.trans ext2) hr2, by
                        rw [hoc, List.length_append, List.length_drop]; omega⟩
                      have est : (s.put j' (.own j' (cs ++ ys) ty' ie.size)).put j' .gone = s.put j' .gone := by
                        simp only [St.put, putL_putL]
                      rw [est] at rel3
                      refine ⟨_, _, _, hrun, ext.trans ext3, rel3, ?_⟩
                      simp only [Rep]
                      exact ⟨.inr rfl, by rw [hoc]; simp [Gh.addOwn], by rw [hoc]; exact hroom, by rw [hoc]; exact u2⟩
                    · have hg : g.oc j' < n + (k + 1) := by omega
                      have hgeti : (s.put j' .gone).get i = none := by
                        have e5 : (s.put j' .gone).get i = if i = j' then some .gone else s.get i := lookL_putL hj i
                        rw [e5, if_neg hij]; exact h4
                      exact append_own ht hi hz hzs (run_firstCells_some (P := P) w.drew ie.size n ⟨g.blk j', 0, none⟩ n (g.oc j') vs hvl (fun q u hq => by
                        rw [Addr.add_lit]
                        have hlt := (List.getElem?_eq_some_iff.1 hq).1
                        have := cells_row hb q u (by rw [List.getElem?_append_left hlt]; exact hq)
                        simpa using this)) hs hg h1 h2 hvl (rel.kill hj) hgeti hvs rn
                  · cases h
                · cases h
              · cases h
            · cases h
          · cases h
        · cases h
      · cases h
    · cases h

theorem append_sound {P : Program} {g : Gh} {s s' : St} {w : World} {i : Nat} {ts : Array TypeId} {ty : TypeId} {x y r : AV} {u v : Value} (h : appendA P s i ts.toList x y = some (r, s')) (rel : Rel g s w) (hx : Rep g w x u) (hy : Rep g w y v) :
    Does P g w (Builtin.append_ ts ty #[u, v]) s' (fun g' w' v => Rep g' w' r v) := by
  unfold appendA at h
  split at h
  · rename_i t tx hts
    have hts' : ts = #[t, tx] := by rw [← hts]
    subst hts'
    split at h
    · rename_i e hu
      split at h
      · rename_i ie hie
        split at h
        · rename_i z hz
          split at h
          · rename_i k ys hsrc
            split at h
            · rename_i hone
              split at h
              · rename_i hzs
                have hzs := Nat.eq_of_beq_eq_true hzs
                obtain ⟨news, hs, rn⟩ := src_sound hsrc rel hy hone
                split at h
                · exact appendO_sound hu hie hz hzs h rel hx hs rn
                split at h
                · split at h
                  · cases h
                    simp only [Rep] at hx
                    subst hx
                    exact ⟨_, w, g, append_none_nil hu hie hs, Ext.refl g w, rel, by simp [Rep]⟩
                  · split at h
                    · rename_i h1
                      split at h
                      · rename_i h2
                        split at h
                        · rename_i h3
                          cases h
                          have h1 := Nat.le_of_ble_eq_true h1
                          have h2 := Nat.le_of_ble_eq_true h2
                          simp only [Rep] at hx
                          subst hx
                          rename_i k'
                          have := append_fresh (n := 0) (olds := []) (cs := []) (ty := ty) (tk := i) hu hie hz hzs (run_firstCells_none w.drew ie.size 0 0 0) hs (by rw [Nat.zero_add]; exact h1) (by rw [Nat.zero_add]; exact h2) (by simp) rel (isNone_of h3) (by simp [RepAll]) rn
                          simpa using this
                        · cases h
                      · cases h
                    · cases h
                · rename_i n cs c
                  simp only [Rep] at hx
                  obtain ⟨b, o, cap, vs, rfl, k1, k2, k3, k4, k5⟩ := hx
                  split at h
                  · cases h
                    exact ⟨_, w, g, append_none hu hie hs k1, Ext.refl g w, rel, by simp only [Rep]; exact ⟨b, o, cap, vs, rfl, k1, k2, k3, k4, k5⟩⟩
                  · split at h
                    · rename_i h1
                      split at h
                      · rename_i h2
                        split at h
                        · rename_i h3
                          have h1 := Nat.le_of_ble_eq_true h1
                          have h2 := Nat.le_of_ble_eq_true h2
                          have h3 := Nat.eq_of_beq_eq_true h3
                          have hlen : vs.length = n * ie.size := by rw [k3.length]; exact h3
                          split at h
                          · split at h
                            · rename_i h4
                              cases h
                              have k5 : cap = n := k5
                              subst k5
                              exact append_fresh hu hie hz hzs (run_firstCells_some (P := P) w.drew ie.size cap ⟨b, o, none⟩ cap cap vs hlen (fun j u hj => by rw [Addr.add_lit]; simpa using (k4 j u hj).1)) hs h1 h2 hlen rel (isNone_of h4) k3 rn
                            · cases h
                          · rename_i tk
                            split at h
                            · rename_i m hm
                              split at h
                              · rename_i h4
                                have h4 := Nat.eq_of_beq_eq_true h4
                                subst h4
                                split at h
                                · rename_i h5
                                  cases h
                                  exact append_tok hu hie hz hzs hs h1 h2 (blt_lt h5) hlen rel hm k3 rn k4 k1 k5
                                · cases h
                              · cases h
                            · cases h
                          · cases h
                        · cases h
                      · cases h
                    · cases h
                · cases h
              · cases h
            · cases h
          · cases h
        · cases h
      · cases h
    · cases h
  · cases h

end Go.Am
