import Derived.Test.YtcllfbhlnjgomaaGreatDoorAmK
import Derived.Deep.AppendSrc
set_option linter.unusedVariables false
set_option linter.unusedSimpArgs false
/-!
  THE ABSTRACT MACHINE, part L: append.
-/
namespace Go.Am
open Go Go.RowKit

/-- What the second argument of an append yields. -/
def srcA (P : Program) (s : St) (tx : TypeId) (size : Nat) (y : AV) : Option (Nat × List AV) :=
  match P.underlying tx with
  | some (.slice _) => match y with
    | .val (.slice none 0 _) => some (0, [])
    | .imm n cs _ => if Nat.beq cs.length (n * size) then some (n, cs) else none
    | .mut i off n _ => match s.get i with
      | some (.cells cs _) => if Nat.ble (off + n * size) cs.length then some (n, (cs.drop off).take (n * size)) else none
      | _ => none
    | _ => none
  | some .string => match y with
    | .val (.string b) => if Nat.beq size 1 then some (b.size, (byteCells b).map .val) else none
    | _ => none
  | _ => none

theorem src_sound {P : Program} {g : Gh} {s : St} {w : World} {tx : TypeId} {size k : Nat} {y : AV} {ys : List AV} {v : Value} (h : srcA P s tx size y = some (k, ys)) (rel : Rel g s w) (hy : Rep g w y v) (h1 : oneAll ys = true) :
    ∃ news, Src P size tx v k news w ∧ RepAll g w ys news := by
  unfold srcA at h
  split at h
  · rename_i e hu
    split at h
    · cases h
      simp only [Rep] at hy
      subst hy
      exact ⟨[], Src.ofNil w hu _, by simp [RepAll]⟩
    · rename_i n cs c
      split at h
      · rename_i hl
        cases h
        have hl := Nat.eq_of_beq_eq_true hl
        simp only [Rep] at hy
        obtain ⟨b, o, cap, vs, rfl, _, _, h3, h4, _⟩ := hy
        refine ⟨vs, Src.ofSlice w hu _ _ _ vs (by rw [h3.length]; exact hl) (fun j u hj => ?_) (oneAll_of h1 h3), h3⟩
        rw [Addr.add_lit]; exact (h4 j u hj).1
      · cases h
    · rename_i i off n cap
      split at h
      · rename_i cs ty hi
        split at h
        · rename_i hle
          cases h
          have hle := Nat.le_of_ble_eq_true hle
          simp only [Rep] at hy
          obtain ⟨_, rfl, _⟩ := hy
          obtain ⟨_, _, vs, hb, hvs⟩ := rel.objs i _ hi
          have hr := (hvs.drop off).take (k * size)
          have hlen : ((vs.drop off).take (k * size)).length = k * size := by rw [List.length_take, List.length_drop, hvs.length]; omega
          refine ⟨(vs.drop off).take (k * size), Src.ofSlice w hu _ _ _ _ hlen (fun j u hj => ?_) (oneAll_of h1 hr), hr⟩
          rw [Addr.add_lit]
          rw [List.getElem?_take] at hj
          split at hj
          · rw [List.getElem?_drop] at hj
            have := cells_row hb _ _ hj
            simpa using this
          · cases hj
        · cases h
      · cases h
    · cases h
  · rename_i hu
    split at h
    · rename_i b
      split at h
      · rename_i hs
        cases h
        have hs := Nat.eq_of_beq_eq_true hs
        subst hs
        simp only [Rep] at hy
        subst hy
        exact ⟨byteCells b, Src.ofString w hu b, repAll_vals _⟩
      · cases h
    · cases h
  · cases h

/-- 'append(x, y...)'. -/
def appendA (P : Program) (s : St) (i : Nat) (ts : List TypeId) (x y : AV) : Option (AV × St) :=
  match ts with
  | [t, tx] => match P.underlying t with
    | some (.slice e) => match P.info? e with
      | some ie => match ie.zero with
        | some z => match srcA P s tx ie.size y with
          | some (k, ys) => if oneAll ys then (if Nat.beq z.cells.size ie.size then
              match x with
              | .val (.slice none 0 0) => match k with
                | 0 => some (x, s)
                | k + 1 => if Nat.ble ((k + 1) * ie.bytes) 140737488355328 then (if Nat.ble (k + 1) maxLen then
                    (if isNone (s.tok i) then some (.imm (k + 1) ys (.grow i), s.addT i (k + 1)) else none) else none) else none
              | .imm n cs c => match k with
                | 0 => some (x, s)
                | k + 1 => if Nat.ble ((n + (k + 1)) * ie.bytes) 140737488355328 then (if Nat.ble (n + (k + 1)) maxLen then (if Nat.beq cs.length (n * ie.size) then
                    match c with
                    | .exact => if isNone (s.tok i) then some (.imm (n + (k + 1)) (cs ++ ys) (.grow i), s.addT i (n + (k + 1))) else none
                    | .grow t => match s.tok t with
                      | some m => if Nat.beq m n then (if Nat.blt 0 n then some (.imm (n + (k + 1)) (cs ++ ys) (.grow t), s.putT t (n + (k + 1))) else none) else none
                      | none => none
                    | .unk => none
                  else none) else none) else none
              | _ => none
            else none) else none
          | none => none
        | none => none
      | none => none
    | _ => none
  | _ => none

theorem append_none {P : Program} {w : World} {t tx ty e : TypeId} {i : TypeInfo} (ht : P.underlying t = some (.slice e)) (hi : P.info? e = some i) {b o n cap : Nat} {x : Value} {news : List Value} (hs : Src P i.size tx x 0 news w) (hn : n ≤ cap) :
    (Builtin.append_ #[t, tx] ty #[.slice (some ⟨b, o, none⟩) n cap, x]).run P w = .ok (.slice (some ⟨b, o, none⟩) n cap) w := by
  have hl : news = [] := List.eq_nil_of_length_eq_zero (by rw [hs.newsLen]; omega)
  have := run_append_room_src w t tx ty e i ht hi b o n cap x 0 news hs (by omega) (by intro j hj; rw [hl] at hj; simp at hj) (by intro j hj; rw [hl] at hj; simp at hj)
  rw [this, hl]
  rfl
theorem append_none_nil {P : Program} {w : World} {t tx ty e : TypeId} {i : TypeInfo} (ht : P.underlying t = some (.slice e)) (hi : P.info? e = some i) {x : Value} {news : List Value} (hs : Src P i.size tx x 0 news w) :
    (Builtin.append_ #[t, tx] ty #[.slice none 0 0, x]).run P w = .ok (.slice none 0 0) w := by
  rcases hs.kind with ⟨e', hk⟩ | hk <;> simp [Builtin.append_, run_underlying ht, run_underlying hk, sizeOf, typeInfo, hi, hs.len, hs.cells]

theorem zeroCells_length (z : Array Value) (n : Nat) : (Builtin.zeroCells z n).toList.length = n * z.size := by simp [Builtin.zeroCells]

theorem same_drew (w : World) : Same w w.drew := ⟨rfl, rfl, rfl, rfl⟩

/-- A new row for what grows: from nothing, or from a list without room. -/
theorem append_fresh {P : Program} {g : Gh} {s : St} {w : World} {t tx ty e : TypeId} {ie : TypeInfo} {z : Value} (ht : P.underlying t = some (.slice e)) (hi : P.info? e = some ie) (hz : ie.zero = some z) (hzs : z.cells.size = ie.size)
    {base : Option Addr} {n k tk : Nat} {cs ys : List AV} {olds news : List Value} {x : Value} (hold : (Builtin.firstCells ie.size n (.slice base n n)).run P w.drew = .ok olds.toArray w.drew) (hs : Src P ie.size tx x (k + 1) news w)
    (hb : (n + (k + 1)) * ie.bytes ≤ 140737488355328) (hm : n + (k + 1) ≤ maxLen) (hlen : olds.length = n * ie.size) (rel : Rel g s w) (htk : s.tok tk = none) (ro : RepAll g w cs olds) (rn : RepAll g w ys news) :
    Does P g w (Builtin.append_ #[t, tx] ty #[.slice base n n, x]) (s.addT tk (n + (k + 1))) (fun g' w' v => Rep g' w' (.imm (n + (k + 1)) (cs ++ ys) (.grow tk)) v) := by
  have hlt : n < n + (k + 1) := by omega
  have hrun := run_append_grow_src (P := P) w t tx ty e ie z ht hi hz base n n olds hold x (k + 1) news hs hlt (by simp only [maxLen] at hm; omega) (growslice_fits hlt hb)
  obtain ⟨cap, hcap⟩ : ∃ cap, cap = grownCap w (n + (k + 1)) n e := ⟨_, rfl⟩
  have h1 := grownCap_ge w (n + (k + 1)) n e
  have h2 := grownCap_le_maxLen w (n + (k + 1)) n e hm
  rw [← hcap] at hrun h1 h2
  have harr : (olds ++ news).toArray ++ Builtin.zeroCells z.cells (cap - (n + (k + 1))) = ((olds ++ news) ++ (Builtin.zeroCells z.cells (cap - (n + (k + 1)))).toList).toArray := by
    apply Array.ext'; simp
  rw [harr] at hrun
  have p : Push (.cells ((olds ++ news) ++ (Builtin.zeroCells z.cells (cap - (n + (k + 1)))).toList).toArray e (0, 0)) w (w.drew.alloc (.cells ((olds ++ news) ++ (Builtin.zeroCells z.cells (cap - (n + (k + 1)))).toList).toArray e)) :=
    Push.of (same_drew w) rfl
  have hl : (olds ++ news).length = (n + (k + 1)) * ie.size := by rw [List.length_append, hlen, hs.newsLen, Nat.add_mul n (k + 1)]
  obtain ⟨g', ext, rel', row, ht', htok⟩ := rel.fresh htk p hl (by rw [List.length_append, hl, zeroCells_length, hzs, ← Nat.add_mul]; congr 1; omega) h1 h2
  refine ⟨_, _, g', hrun, ext, rel', ?_⟩
  have hr := RepAll.ext ext (ro.append rn)
  simp only [Rep]
  refine ⟨w.heap.size, 0, cap, olds ++ news, rfl, h1, h2, hr, row, ht', .inr ?_⟩
  rw [htok]
  refine ⟨rfl, rfl, rfl, rfl, ?_⟩
  have := (ro.append rn).length
  rw [← this, hl]

theorem Row.append {g : Gh} {w : World} {b o : Nat} {vs us : List Value} (h : Row g w b o vs) (k : Row g w b (o + vs.length) us) : Row g w b o (vs ++ us) := fun j u hj => by
  rw [List.getElem?_append] at hj
  split at hj
  · exact h j u hj
  · rename_i hlt
    have := k _ _ hj
    have e : o + vs.length + (j - vs.length) = o + j := by omega
    rwa [e] at this

theorem append_tok {P : Program} {g : Gh} {s : St} {w : World} {t tx ty e : TypeId} {ie : TypeInfo} {z : Value} (ht : P.underlying t = some (.slice e)) (hi : P.info? e = some ie) (hz : ie.zero = some z) (hzs : z.cells.size = ie.size)
    {b o cap n k tk : Nat} {cs ys : List AV} {olds news : List Value} {x : Value} (hs : Src P ie.size tx x (k + 1) news w)
    (hb : (n + (k + 1)) * ie.bytes ≤ 140737488355328) (hm : n + (k + 1) ≤ maxLen) (h0 : 0 < n) (hlen : olds.length = n * ie.size) (rel : Rel g s w) (htk : s.tok tk = some n) (ro : RepAll g w cs olds) (rn : RepAll g w ys news) (row : Row g w b o olds)
    (hn : n ≤ cap) (hc : CapOk g (.grow tk) b o n cap cs.length) :
    Does P g w (Builtin.append_ #[t, tx] ty #[.slice (some ⟨b, o, none⟩) n cap, x]) (s.putT tk (n + (k + 1))) (fun g' w' v => Rep g' w' (.imm (n + (k + 1)) (cs ++ ys) (.grow tk)) v) := by
  obtain ⟨hu, hn', hok⟩ := rel.toks tk n htk
  obtain ⟨_, hc⟩ := hc
  have hc := hc.resolve_left (by omega)
  obtain ⟨c1, c2, c3, c4, c5⟩ := hc
  obtain ⟨C, T, hC, hCs⟩ := hok.cells
  have hS : (g.tok tk).size = ie.size := by
    rw [← ro.length, hlen] at c5
    exact (Nat.eq_of_mul_eq_mul_left h0 c5).symm
  have hadd : (n + (k + 1)) * ie.size = n * ie.size + (k + 1) * ie.size := Nat.add_mul n (k + 1) _
  have hadd1 : (k + 1) * ie.size = k * ie.size + ie.size := Nat.succ_mul k _
  have hall := (ro.append rn).length
  have hall2 : (olds ++ news).length = (n + (k + 1)) * ie.size := by rw [List.length_append, hlen, hs.newsLen, hadd]
  by_cases hroom : n + (k + 1) ≤ cap
  · have hmul : (n + (k + 1)) * ie.size ≤ cap * ie.size := Nat.mul_le_mul_right _ hroom
    have hsize : o + n * ie.size + news.length ≤ C.size := by rw [hCs, hS, ← c3, ← c4, hs.newsLen]; omega
    rw [← c2] at hC
    have hrun := run_append_room_src (P := P) w t tx ty e ie ht hi b o n cap x (k + 1) news hs hroom (fun j hj => by
        have hlt : o + n * ie.size + j < C.size := by omega
        simp [World.cell?, hC, hlt]) (fun j hj => by simp [World.frozen?, hC])
    obtain ⟨C', hC', hl'⟩ := setCells_row (o := o + n * ie.size) (vs := news) hC hsize
    have hCl : C'.size = C.size := by
      have : C'.toList.length = C.toList.length := by
        rw [hl']
        simp only [List.length_append, List.length_take, List.length_drop, Array.length_toList]
        omega
      simpa using this
    have hget : ∀ j : Nat, C'[j]? = C'.toList[j]? := fun j => by simp
    have hgetC : ∀ j : Nat, C[j]? = C.toList[j]? := fun j => by simp
    obtain ⟨g', ext, rel', row', ht', htok⟩ := rel.growIn (us := news) (k := k + 1) hu (by rw [← c2]; exact hC) (by rw [← c2]; exact setCells_but b news (o + n * ie.size) w) (by rw [← c2]; exact hC') hCl
      (by rw [hS]; exact hs.newsLen) (by rw [hn', ← c4]; exact hroom) (by omega)
      (fun j hj => by
        rw [hS, hn', ← c3] at hj
        rw [hget, hgetC, hl']
        have hl1 : (C.toList.take (o + n * ie.size)).length = o + n * ie.size := by rw [List.length_take, Array.length_toList]; omega
        rw [List.append_assoc, List.getElem?_append_left (by rw [hl1]; exact hj), List.getElem?_take, if_pos hj])
      (fun j u hj => by
        have hlt := (List.getElem?_eq_some_iff.1 hj).1
        rw [hS, hn', ← c3, hget, hl']
        have hl1 : (C.toList.take (o + n * ie.size)).length = o + n * ie.size := by rw [List.length_take, Array.length_toList]; omega
        rw [List.append_assoc, List.getElem?_append_right (by rw [hl1]; omega), hl1]
        have e1 : o + n * ie.size + j - (o + n * ie.size) = j := by omega
        rw [e1, List.getElem?_append_left hlt]
        exact hj)
    rw [hn'] at rel' htok
    refine ⟨_, _, g', hrun, ext, rel', ?_⟩
    simp only [Rep]
    refine ⟨b, o, cap, olds ++ news, rfl, hroom, by rw [c4]; exact hok.most, RepAll.ext ext (ro.append rn), (row.ext ext).append ?_, ht', .inr ?_⟩
    · rw [hlen]
      rw [hS, hn', ← c2, ← c3] at row'
      exact row'
    · rw [htok]
      exact ⟨rfl, c2, c3, c4, by rw [← hall, hall2, hS]⟩
  · have hg : cap < n + (k + 1) := by omega
    have hold := run_firstCells_some (P := P) w.drew ie.size n ⟨b, o, none⟩ n cap olds hlen (fun j u hj => by rw [Addr.add_lit]; simpa using (row j u hj).1)
    have hrun := run_append_grow_src (P := P) w t tx ty e ie z ht hi hz (some ⟨b, o, none⟩) n cap olds hold x (k + 1) news hs hg (by simp only [maxLen] at hm; omega) (growslice_fits hg hb)
    obtain ⟨cap', hcap⟩ : ∃ cap', cap' = grownCap w (n + (k + 1)) cap e := ⟨_, rfl⟩
    have h1 := grownCap_ge w (n + (k + 1)) cap e
    have h2 := grownCap_le_maxLen w (n + (k + 1)) cap e hm
    rw [← hcap] at hrun h1 h2
    have harr : (olds ++ news).toArray ++ Builtin.zeroCells z.cells (cap' - (n + (k + 1))) = ((olds ++ news) ++ (Builtin.zeroCells z.cells (cap' - (n + (k + 1)))).toList).toArray := by
      apply Array.ext'; simp
    rw [harr] at hrun
    have p : Push (.cells ((olds ++ news) ++ (Builtin.zeroCells z.cells (cap' - (n + (k + 1)))).toList).toArray e (0, 0)) w (w.drew.alloc (.cells ((olds ++ news) ++ (Builtin.zeroCells z.cells (cap' - (n + (k + 1)))).toList).toArray e)) :=
      Push.of (same_drew w) rfl
    obtain ⟨g', ext, rel', row', ht', htok⟩ := rel.growOut (k := k + 1) (cap := cap') hu p (by rw [hn', hS]; exact hlen) (by rw [hS]; exact hs.newsLen)
      (by rw [List.length_append, hall2, zeroCells_length, hzs, hS, ← Nat.add_mul]; congr 1; omega) (by rw [hn']; exact h1) h2 (by omega)
    rw [hn'] at rel' htok
    refine ⟨_, _, g', hrun, ext, rel', ?_⟩
    simp only [Rep]
    refine ⟨w.heap.size, 0, cap', olds ++ news, rfl, h1, h2, RepAll.ext ext (ro.append rn), row', ht', .inr ?_⟩
    rw [htok]
    exact ⟨rfl, rfl, rfl, rfl, by rw [← hall, hall2, hS]⟩

theorem append_sound {P : Program} {g : Gh} {s s' : St} {w : World} {i : Nat} {ts : Array TypeId} {ty : TypeId} {x y r : AV} {u v : Value} (h : appendA P s i ts.toList x y = some (r, s')) (rel : Rel g s w) (hx : Rep g w x u) (hy : Rep g w y v) :
    Does P g w (Builtin.append_ ts ty #[u, v]) s' (fun g' w' v => Rep g' w' r v) := by
  unfold appendA at h
  split at h
  · rename_i t tx hts
    have hts' : ts = #[t, tx] := by rw [← hts]
    subst hts'
    split at h
    · rename_i e hu
      split at h
      · rename_i ie hie
        split at h
        · rename_i z hz
          split at h
          · rename_i k ys hsrc
            split at h
            · rename_i hone
              split at h
              · rename_i hzs
                have hzs := Nat.eq_of_beq_eq_true hzs
                obtain ⟨news, hs, rn⟩ := src_sound hsrc rel hy hone
                split at h
                · split at h
                  · cases h
                    simp only [Rep] at hx
                    subst hx
                    exact ⟨_, w, g, append_none_nil hu hie hs, Ext.refl g w, rel, by simp [Rep]⟩
                  · split at h
                    · rename_i h1
                      split at h
                      · rename_i h2
                        split at h
                        · rename_i h3
                          cases h
                          have h1 := Nat.le_of_ble_eq_true h1
                          have h2 := Nat.le_of_ble_eq_true h2
                          simp only [Rep] at hx
                          subst hx
                          rename_i k'
                          have := append_fresh (n := 0) (olds := []) (cs := []) (ty := ty) (tk := i) hu hie hz hzs (run_firstCells_none w.drew ie.size 0 0 0) hs (by rw [Nat.zero_add]; exact h1) (by rw [Nat.zero_add]; exact h2) (by simp) rel (isNone_of h3) (by simp [RepAll]) rn
                          simpa using this
                        · cases h
                      · cases h
                    · cases h
                · rename_i n cs c
                  simp only [Rep] at hx
                  obtain ⟨b, o, cap, vs, rfl, k1, k2, k3, k4, k5⟩ := hx
                  split at h
                  · cases h
                    exact ⟨_, w, g, append_none hu hie hs k1, Ext.refl g w, rel, by simp only [Rep]; exact ⟨b, o, cap, vs, rfl, k1, k2, k3, k4, k5⟩⟩
                  · split at h
                    · rename_i h1
                      split at h
                      · rename_i h2
                        split at h
                        · rename_i h3
                          have h1 := Nat.le_of_ble_eq_true h1
                          have h2 := Nat.le_of_ble_eq_true h2
                          have h3 := Nat.eq_of_beq_eq_true h3
                          have hlen : vs.length = n * ie.size := by rw [k3.length]; exact h3
                          split at h
                          · split at h
                            · rename_i h4
                              cases h
                              have k5 : cap = n := k5
                              subst k5
                              exact append_fresh hu hie hz hzs (run_firstCells_some (P := P) w.drew ie.size cap ⟨b, o, none⟩ cap cap vs hlen (fun j u hj => by rw [Addr.add_lit]; simpa using (k4 j u hj).1)) hs h1 h2 hlen rel (isNone_of h4) k3 rn
                            · cases h
                          · rename_i tk
                            split at h
                            · rename_i m hm
                              split at h
                              · rename_i h4
                                have h4 := Nat.eq_of_beq_eq_true h4
                                subst h4
                                split at h
                                · rename_i h5
                                  cases h
                                  exact append_tok hu hie hz hzs hs h1 h2 (blt_lt h5) hlen rel hm k3 rn k4 k1 k5
                                · cases h
                              · cases h
                            · cases h
                          · cases h
                        · cases h
                      · cases h
                    · cases h
                · cases h
              · cases h
            · cases h
          · cases h
        · cases h
      · cases h
    · cases h
  · cases h

end Go.Am
