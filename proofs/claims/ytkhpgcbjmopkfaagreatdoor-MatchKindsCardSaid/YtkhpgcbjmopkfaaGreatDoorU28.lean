import Derived.Test.YtkhpgcbjmopkfaaGreatDoorT00
import Derived.Test.YtkhpgcbjmopkfaaGreatDoorT08
import Derived.Test.YtkhpgcbjmopkfaaGreatDoorT27
import Derived.Maps.OwnOps
import Derived.Maps.Views
import Derived.Laws.AppendOwnNone
set_option linter.unusedVariables false
set_option linter.unusedSimpArgs false
set_option linter.unnecessarySimpa false
set_option maxRecDepth 100000
namespace Go.Fld
open Go Go.RowKit Go.Proofs Go.ChangeShapes Go.WideShapes Go.ChangeAt Go.Shelf Go.Fld.Late Go.Maps
def heldR (v : Value) : Option (DataW Value × List MemPlace) := some (.held v, [])
theorem und124 : Tryz.prog.underlying 124 = some (.map 128 130) := by kernel_rfl
theorem und128 : Tryz.prog.underlying 128 = some (.int .u64) := by kernel_rfl
theorem und118 : Tryz.prog.underlying 118 = some (.map 3 117) := by kernel_rfl
theorem und3' : Tryz.prog.underlying 3 = some (.int .i64) := by kernel_rfl
def MapF (w : World) (k : TypeId) (q : IntKind) (z : Value) (b n : Nat) (F : Int → Value) : Prop :=
 ∃ D : DataW Value, w.ownsMap Tryz.prog k heldR b n D ∧ IsMap D ∧ ∀ h, (Lit.int q h).wf = true → D.atKey (.int q h) (.held z) = .held (F h)
theorem MapF.made (w : World) (k : TypeId) (q : IntKind) (z : Value) : MapF (w.alloc (.map #[] 0)) k q z w.heap.size 0 (fun _ => z) := ⟨_, World.ownsMap_made w Tryz.prog k heldR, ⟨[], rfl⟩, fun _ _ => rfl⟩
theorem MapF.kept {w w' : World} {row : Option Nat} {k : TypeId} {q : IntKind} {z : Value} {b n : Nat} {F : Int → Value} (h : MapF w k q z b n F) (hg : w.grownBy w' row) (hne : some b ≠ row) : MapF w' k q z b n F := by
 obtain ⟨D, h1, h2⟩ := h; exact ⟨D, h1.kept hg hne, h2⟩
theorem MapF.below {w w' : World} {k : TypeId} {q : IntKind} {z : Value} {b n : Nat} {F : Int → Value} (h : MapF w k q z b n F) (hb : Below w.heap.size w w') : MapF w' k q z b n F := h.kept (row := none) (grown_of hb none) (by simp)
theorem MapF.look {w : World} {k : TypeId} {q : IntKind} {z : Value} {b n : Nat} {F : Int → Value} (h : MapF w k q z b n F) {t e : TypeId} (hk : Tryz.prog.underlying k = some (.int q)) (ht : Tryz.prog.underlying t = some (.map k e)) (hz : (zeroValue e).run Tryz.prog w = .ok z w) {x : Int} (hx : (Lit.int q x).wf = true) :
  (Instr.lookup t (.map (some b)) (.int q x) false).run Tryz.prog w = .ok (F x) w := by
 obtain ⟨D, h1, h2, h3⟩ := h
 obtain ⟨v, ps, hrun, hv⟩ := h1.lookup (int_keyed hk) ht hz (zd := .held z) (zp := []) rfl (keyOf_int_mk hk hx)
 rw [h3 x hx] at hv
 unfold heldR at hv
 injection hv with hv
 injection hv with hv
 injection hv with hv
 rw [hrun, hv]
theorem MapF.put {w : World} {k : TypeId} {q : IntKind} {z : Value} {b n : Nat} {F : Int → Value} (h : MapF w k q z b n F) {t e : TypeId} (hk : Tryz.prog.underlying k = some (.int q)) (ht : Tryz.prog.underlying t = some (.map k e)) (hn : n < maxLen) {x : Int} (hx : (Lit.int q x).wf = true) (v : Value) :
  ∃ w', (Instr.mapUpdate t (.map (some b)) (.int q x) v).run Tryz.prog w = .ok () w' ∧ MapF w' k q z b (n + 1) (fun y => if y = x then v else F y) ∧ w.grownBy w' (some b) := by
 obtain ⟨D, h1, h2, h3⟩ := h
 obtain ⟨w', hrun, g1, g2⟩ := h1.update (int_keyed hk) ht hn (keyOf_int_mk hk hx) (val := v) (d := .held v) (ps := []) rfl
 refine ⟨w', hrun, ⟨_, g1, ?_, fun y hy => ?_⟩, g2⟩
 ·obtain ⟨es, rfl⟩ := h2
  exact ⟨_, rfl⟩
 ·show _ = DataW.held (if y = x then v else F y)
  by_cases e : y = x
  ·subst e
   rw [if_pos rfl]
   exact atKey_put_same h2 (k := .int q y) (show True from trivial) _ _
  ·rw [if_neg e, atKey_put_other (fun e' => e (by injection e')) _ _]
   exact h3 y hy
def rowKn (x : Nat × List Vl) : List M := [.one (.int .i64 x.1), .many 4 (x.2.map vlR)]
def SF (base : Nat) (F : Int → Value) (b : Nat) : Prop := base ≤ b ∧ ∀ h, (F h).ownBlock ≠ some b
structure Groups (base : Nat) (w : World) (F : Int → Value) (G : Int → List (Nat × List Vl)) : Prop where
 at' : ∀ h, ∃ p c css, F h = .slice p (G h).length c ∧ GrowS (SF base F) 132 2 w base (F h) ((G h).map rowKn) css
 apart : ∀ h h', h ≠ h' → (F h).ownBlock = none ∨ (F h).ownBlock ≠ (F h').ownBlock
theorem Groups.nil (base : Nat) (w : World) : Groups base w (fun _ => .slice none 0 0) (fun _ => []) := ⟨fun h => ⟨none, 0, [], rfl, GrowS.nil _ _ _ _ _⟩, fun _ _ _ => .inl rfl⟩
theorem Groups.below {base : Nat} {w w' : World} {F : Int → Value} {G : Int → List (Nat × List Vl)} (h : Groups base w F G) (hb : Below w.heap.size w w') : Groups base w' F G :=
 ⟨fun x => by obtain ⟨p, c, css, h1, h2⟩ := h.at' x; exact ⟨p, c, css, h1, h2.below hb⟩, h.apart⟩
theorem GrowS.keep {S T : Nat → Prop} {e : TypeId} {sz : Nat} {W W' : World} {row : Option Nat} {base : Nat} {v : Value} {rows : List (List M)} {css : List (List Value)} (h : GrowS S e sz W base v rows css) (hg : W.grownBy W' row) (ho : v.ownBlock = none ∨ v.ownBlock ≠ row) (hS : ∀ b, S b → b < W.heap.size → some b ≠ row ∧ T b) : GrowS T e sz W' base v rows css := by
 refine ⟨⟨h.g.own.kept hg ?_, h.g.len, h.g.each, fun j h1 h2 => (h.s j h1 h2).keep (fun b hb hlt => ⟨hg.block b hlt (hS b hb.1 hlt).1, hb.2⟩)⟩, fun j h1 h2 => (h.s j h1 h2).keep (fun b hb hlt => ⟨hg.block b hlt (hS b hb.1 hlt).1, (hS b hb.1 hlt).2, hb.2⟩)⟩
 rcases ho with e | e
 ·rcases h.g.own.2 with ⟨e', _⟩ | ⟨g, c, cur, e', _⟩
  ·rw [e']; exact .inl rfl
  ·rw [e'] at e; cases e
 ·exact .inr e
theorem Groups.kept {base mb : Nat} {w w' : World} {F : Int → Value} {G : Int → List (Nat × List Vl)} (h : Groups base w F G) (hg : w.grownBy w' (some mb)) (hm : mb < base) : Groups base w' F G := by
 refine ⟨fun x => ?_, h.apart⟩
 obtain ⟨p, c, css, h1, h2⟩ := h.at' x
 refine ⟨p, c, css, h1, h2.keep hg ?_ (fun b hb _ => ⟨fun e => by injection e with e; have := hb.1; omega, hb⟩)⟩
 rcases hv : (F x).ownBlock with _ | g
 ·exact .inl rfl
 ·right
  intro e
  injection e with e
  have := (h2.g.own.lt g hv).1
  omega
theorem Groups.push {base : Nat} {w W1 : World} {F : Int → Value} {G : Int → List (Nat × List Vl)} (h : Groups base w F G) {x : Int} {i : Nat} {kk : List Vl} {cs : List Value} (hr : M.AtL (SF base F) w (rowKn (i, kk)) cs) (hcs : cs.length = 2) {css : List (List Value)} (hG : GrowS (SF base F) 132 2 w base (F x) ((G x).map rowKn) css)
  {gg cap1 : Nat} (hbase : base ≤ w.heap.size) (hown : W1.ownsRow base 132 2 (.slice (some ⟨gg, 0, none⟩) ((G x).length + 1) cap1) ((G x).length + 1) (css.flatMap id ++ cs)) (hgrow : w.grownBy W1 (F x).ownBlock) (hat : (F x).ownBlock = some gg ∨ gg = w.heap.size) :
  Groups base W1 (fun y => if y = x then .slice (some ⟨gg, 0, none⟩) ((G x).length + 1) cap1 else F y) (fun y => if y = x then G x ++ [(i, kk)] else G y) := by
 have hS : ∀ b, SF base F b → b < w.heap.size → SF base (fun y => if y = x then .slice (some ⟨gg, 0, none⟩) ((G x).length + 1) cap1 else F y) b := by
  intro b hb hlt
  refine ⟨hb.1, fun y => ?_⟩
  by_cases e : y = x
  ·simp only [e, if_true]
   intro e2
   simp [Value.ownBlock] at e2
   rcases hat with h | h
   ·exact hb.2 x (by rw [h, e2])
   ·omega
  ·simp only [e, if_false]
   exact hb.2 y
 refine ⟨fun y => ?_, fun y y' hne => ?_⟩
 ·by_cases e : y = x
  ·subst e
   simp only [if_true]
   refine ⟨_, _, css ++ [cs], by rw [List.length_append]; rfl, ?_⟩
   rw [List.map_append, List.map_cons, List.map_nil]
   have h0 := hG.keep (W' := w) (row := none) ⟨rfl, rfl, rfl, Nat.le_refl _, fun _ _ _ => rfl⟩ (by
    rcases hv : (F y).ownBlock with _ | g
    ·exact .inl rfl
    ·exact .inr (by simp)) (fun b hb hlt => ⟨by simp, hS b hb hlt⟩)
   exact h0.push (r := rowKn (i, kk)) (cs := cs) (M.AtL.keep (w' := w) (fun b hb hlt => ⟨rfl, hS b hb hlt, hb.2 y⟩) hr) hcs (by rw [List.length_map]) hown hgrow hat
  ·simp only [e, if_false]
   obtain ⟨p, c, css', h1, h2⟩ := h.at' y
   exact ⟨p, c, css', h1, h2.keep hgrow (h.apart y x e) (fun b hb hlt => ⟨fun e2 => hb.2 x e2.symm, hS b hb hlt⟩)⟩
 ·have far : ∀ z, z ≠ x → (F z).ownBlock ≠ some gg := by
   intro z hz e
   rcases hat with h1 | h1
   ·rcases h.apart z x hz with h2 | h2
    ·rw [h2] at e; cases e
    ·exact h2 (by rw [e, h1])
   ·obtain ⟨p, c, css', h3, h4⟩ := h.at' z
    have := (h4.g.own.lt gg e).2
    omega
  by_cases e : y = x
  ·have e' : y' ≠ x := fun e' => hne (by rw [e, e'])
   simp only [e, e', if_true, if_false]
   right
   simp only [Value.ownBlock]
   exact fun e2 => far y' e' e2.symm
  ·simp only [e, if_false]
   by_cases e' : y' = x
   ·simp only [e', if_true]
    right
    simp only [Value.ownBlock]
    exact far y e
   ·simp only [e', if_false]
    exact h.apart y y' hne
def groupsK (L : List Fd) (l : List Dt) (K : List Int) (k : Nat) (h : Int) : List (Nat × List Vl) := (List.range k).filterMap fun i => match keyA L l i [] K with
 | none => none
 | some kk => if h = hashL kk then some (i, kk) else none
theorem groupsK_none {L : List Fd} {l : List Dt} {K : List Int} {k : Nat} (h : keyA L l k [] K = none) : groupsK L l K (k + 1) = groupsK L l K k := by
 funext x
 unfold groupsK
 rw [List.range_succ, List.filterMap_append]
 simp [h]
theorem groupsK_some {L : List Fd} {l : List Dt} {K : List Int} {k : Nat} {kk : List Vl} (h : keyA L l k [] K = some kk) : groupsK L l K (k + 1) = fun x => if x = hashL kk then groupsK L l K k (hashL kk) ++ [(k, kk)] else groupsK L l K k x := by
 funext x
 by_cases e : x = hashL kk
 ·subst e
  unfold groupsK
  rw [List.range_succ, List.filterMap_append]
  simp [h]
 ·unfold groupsK
  rw [List.range_succ, List.filterMap_append]
  simp [h, e]
theorem groupsK_len (L : List Fd) (l : List Dt) (K : List Int) (k : Nat) (h : Int) : (groupsK L l K k h).length ≤ k := by
 unfold groupsK
 refine Nat.le_trans (List.length_filterMap_le _ _) (by simp)
theorem und130 : Tryz.prog.underlying 130 = some (.slice 132) := by kernel_rfl
theorem info132_parts : ∃ i z, Tryz.prog.info? 132 = some i ∧ i.zero = some z ∧ z.cells.size = 2 ∧ i.size = 2 ∧ i.bytes = 32 := ⟨_, _, rfl, rfl, rfl, rfl, rfl⟩
theorem numH_bound : ∀ (n : Nat) (h v : Int), 0 ≤ h ∧ h ≤ 18446744073709551615 → 0 ≤ numH n h v ∧ numH n h v ≤ 18446744073709551615
 | 0, h, v, hh => by rw [numH]; exact hh
 | n + 1, h, v, _ => by rw [numH]; exact numH_bound n _ _ (takeF_bound _ _)
theorem numH8_bound (h v : Int) : 0 ≤ numH 8 h v ∧ numH 8 h v ≤ 18446744073709551615 := by
 rw [show (8 : Nat) = 7 + 1 from rfl, numH]
 exact numH_bound 7 _ _ (takeF_bound _ _)
mutual
theorem valH_bound : ∀ (v : Vl) (h : Int), 0 ≤ valH v h ∧ valH v h ≤ 18446744073709551615
 | .mk nl num tx kids, h => by rw [valH]; exact valsH_bound kids _ (numH8_bound _ _)
theorem valsH_bound : ∀ (l : List Vl) (h : Int), 0 ≤ h ∧ h ≤ 18446744073709551615 → 0 ≤ valsH l h ∧ valsH l h ≤ 18446744073709551615
 | [], h, hh => by rw [valsH]; exact hh
 | v :: r, h, _ => by rw [valsH]; exact valsH_bound r _ (valH_bound v h)
end
theorem MapF.mono {w : World} {k : TypeId} {q : IntKind} {z : Value} {b n : Nat} {F : Int → Value} (h : MapF w k q z b n F) : MapF w k q z b (n + 1) F := by
 obtain ⟨D, h1, h2⟩ := h; exact ⟨D, h1.mono (Nat.le_succ _), h2⟩
theorem Groups.fresh {base : Nat} {w : World} {F : Int → Value} {G : Int → List (Nat × List Vl)} (h : Groups base w F G) {b : Nat} (hb : w.heap.size ≤ b) (hbase : base ≤ w.heap.size) : SF base F b :=
 ⟨by omega, fun x e => by obtain ⟨p, c, css, h1, h2⟩ := h.at' x; have := (h2.g.own.lt b e).2; omega⟩
theorem cellV_ok {L : List Fd} {l : List Dt} {n : Nat} (hR : SideR L l n) (c r : Nat) : VlOk (cellV L l c r) := by
 unfold cellV
 split
 ·rename_i h
  exact getA_ok (hR.well c h.1 h.2) _
 ·exact .mk (by show (0 : Nat) ≤ _; omega) (fun _ h => by cases h)
theorem keyA_ok' {L : List Fd} {l : List Dt} {n r : Nat} (hR : SideR L l n) : ∀ {K : List Int} {acc kk : List Vl}, (∀ v ∈ acc, VlOk v) → keyA L l r acc K = some kk → ∀ v ∈ kk, VlOk v
 | [], acc, kk, ha, h => by
  unfold keyA at h
  injection h with h
  rw [← h]; exact ha
 | c :: K, acc, kk, ha, h => by
  unfold keyA at h
  by_cases hn : (cellV L l c.toNat r).nl = true
  ·rw [if_pos hn] at h; cases h
  ·rw [if_neg hn] at h
   exact keyA_ok' hR (fun v hv => by
    rcases List.mem_append.1 hv with e | e
    ·exact ha v e
    ·rw [List.mem_singleton.1 e]; exact cellV_ok hR _ _) h
theorem keyA_ok {L : List Fd} {l : List Dt} {n r : Nat} (hR : SideR L l n) {K : List Int} {kk : List Vl} (h : keyA L l r [] K = some kk) : ∀ v ∈ kk, VlOk v := keyA_ok' hR (fun _ h => by cases h) h
def MeetsPost (w : World) (sx : Nat) (L : List Fd) (l : List Dt) (K : List Int) (n : Nat) (e : Ending) (w' : World) : Prop := ∃ b2 b5 mb base m F, e = .returned (.func (.func 71) #[] #[.pointer (some ⟨b2, 0, none⟩), .pointer (some ⟨b5, 0, none⟩)]) ∧
 BoxN w' b2 51 [.pointer (some ⟨sx, 0, none⟩)] ∧ BoxN w' b5 124 [.map (some mb)] ∧ MapF w' 128 .u64 (.slice none 0 0) mb m F ∧ Groups base w' F (groupsK L l K n) ∧ Below w.heap.size w w'
set_option maxHeartbeats 4000000 in
theorem meets_calls {w : World} {m0 base sy sx : Nat} {L : List Fd} {l : List Dt} {fv nv kv : Value} {K : List Int} {n : Nat} (hs : SideAt m0 base w sy L l fv nv kv n) (hK : IntsAt w K kv) (hR : SideR L l n) (hT : Lib.Utf8Tabs 1 2 w) (hin : ∀ c ∈ K, 0 ≤ c ∧ c < l.length) (hKl : K.length ≤ 1000000000) :
  Calls Tryz.prog 62 #[.pointer (some ⟨sx, 0, none⟩), .pointer (some ⟨sy, 0, none⟩)] w (MeetsPost w sx L l K n) := by
 have hmm := @run_makeMap Tryz.prog
 have hmf : ∀ (fn : Fn) (first cap : Array Value) (w : World), (Instr.makeFunc fn first cap).run Tryz.prog w = .ok (.func fn first cap) w := fun _ _ _ _ => rfl
 obtain ⟨i1, z1, hi1, hz1, hzc1, hsz1, hby1⟩ := info132_parts
 have hn := hR.few
 have HS := zh hs
 have HK := zh hK
 have HR := zh hR
 have HT := zh hT
 have HIN := zh (And.intro hin hKl)
 obtain ⟨nb, q0, cq, bs, -, hbx, -⟩ := hs.at'
 have y4 := hbx.row 4 _ rfl
 have hly := hbx.lt
 have hly1 : sy < w.heap.size + 1 := by omega
 have hly2 : sy < w.heap.size + 1 + 1 := by omega
 clear hs hK hR hT hin hKl hbx
 go_enter Tryz.func62, Tryz.ntmps62
 go_wp2_with fail
 clear y4 hly1 hly2
 obtain ⟨W0, hW0⟩ : ∃ W0, W0 = ((w.alloc (Obj.cells #[Value.pointer (some ⟨sx, 0, none⟩)] 51)).alloc (Obj.map #[] 0)).alloc (Obj.cells #[Value.map (some (w.heap.size + 1))] 124) := ⟨_, rfl⟩
 have HB0 : Hid (Below w.heap.size w W0) := zh (by rw [hW0]; exact (((Below.refl _ w).alloc (Nat.le_refl _) _).alloc (by rw [World.size_alloc]; omega) _).alloc (by rw [World.size_alloc, World.size_alloc]; omega) _)
 have hsz0 : W0.heap.size = w.heap.size + 3 := by rw [hW0, World.size_alloc, World.size_alloc, World.size_alloc]
 have X2 : Hid (BoxN W0 w.heap.size 51 [.pointer (some ⟨sx, 0, none⟩)]) := zh (by rw [hW0]; exact ((BoxN.new w 51 _).alloc _).alloc _)
 have X5 : Hid (BoxN W0 (w.heap.size + 1 + 1) 124 [.map (some (w.heap.size + 1))]) := zh (by rw [hW0]; exact BoxN.new' (by rw [World.size_alloc, World.size_alloc]) 124 _)
 have HM0 : Hid (MapF W0 128 .u64 (.slice none 0 0) (w.heap.size + 1) 0 (fun _ => .slice none 0 0)) := zh (by
  rw [hW0]
  have h := MapF.made (w.alloc (Obj.cells #[Value.pointer (some ⟨sx, 0, none⟩)] 51)) 128 .u64 (.slice none 0 0)
  rw [World.size_alloc] at h
  exact h.kept (World.grownBy_alloc _ _ none) (by simp))
 rw [← hW0]
 clear hW0
 obtain ⟨mb, hmb⟩ : ∃ mb, mb = w.heap.size + 1 := ⟨_, rfl⟩
 rw [← hmb] at X5 HM0 ⊢
 have hmb2 : mb < W0.heap.size := by omega
 have HMB := zh hmb
 clear hmb
 go_loopw [15] (fun i wr => ∃ (k : Nat) (F : Int → Value), k ≤ n ∧ i = .int .i64 k ∧ Hid (W0.grownBy wr (some mb)) ∧ Hid (MapF wr 128 .u64 (.slice none 0 0) mb k F) ∧ Hid (Groups W0.heap.size wr F (groupsK L l K k))) (fun i _ => n - (intOf i).toNat)
 case atStart => exact ⟨0, _, by omega, rfl, zh (World.grownBy.refl _ _), HM0, zh (by
  have : groupsK L l K 0 = fun _ => [] := rfl
  rw [this]; exact Groups.nil _ _)⟩
 case round =>
  obtain ⟨k, F, hk, rfl, HG, HF, HGR⟩ := hrel
  by_cases hlt : k < n
  ·have HBR : Hid (Below w.heap.size w wr) := zh (grown_base HB0.o HG.o (by have := HMB.o; omega))
   have HC := zh (key_calls (HS.o.below HBR.o) (HK.o.below HBR.o) HR.o (Utf8Tabs_below HT.o HBR.o) HIN.o.1 HIN.o.2 k hlt)
   obtain ⟨o, ho⟩ : ∃ o, o = keyA L l k [] K := ⟨_, rfl⟩
   rw [← ho] at HC
   have HO := zh ho
   clear ho
   go_wp2_with fail
   refine HC.o.mono ?_
   rintro e W2 ⟨hb2, ⟨rfl, rfl⟩ | ⟨kk, q, c, rfl, rfl, hat⟩⟩
   ·have HG2 := zh (grown_below HG.o hb2)
    have HF2 := zh (HF.o.below hb2)
    have HGR2 : Hid (Groups W0.heap.size W2 F (groupsK L l K (k + 1))) := zh (by rw [groupsK_none HO.o.symm]; exact HGR.o.below hb2)
    clear hb2
    go_wp2_with fail
    go_roundw
    case rel => exact ⟨k + 1, F, by omega, by go_num, HG2, zh HF2.o.mono, HGR2⟩
    case measure => simp [intOf]; omega
   ·have HB2 := zh hb2
    have HAT := zh hat
    have HH := zh (hashl_calls (w := W2) (keyA_ok HR.o HO.o.symm) (M.At.mono (fun _ _ => trivial) hat))
    obtain ⟨x, hx⟩ : ∃ x, x = hashL kk := ⟨_, rfl⟩
    rw [← hx] at HH
    have HX := zh hx
    clear hx hb2 hat
    go_wp2_with fail
    refine HH.o.mono ?_
    rintro e W3 ⟨rfl, hb3⟩
    have HB3 := zh (HB2.o.trans (hb3.mono HB2.o.size))
    have HAT3 := zh (M.At.below hb3 HAT.o)
    clear hb3
    go_wp2_with fail
    have hxb : 0 ≤ x ∧ x ≤ 18446744073709551615 := by rw [HX.o]; exact valH_bound _ _
    have HWF : Hid ((Lit.int IntKind.u64 x).wf = true) := zh (by simp [Lit.wf, IntKind.min, IntKind.max, IntKind.signed, IntKind.bits]; omega)
    obtain ⟨p, cp, css, hFx, hGx⟩ := HGR.o.at' x
    obtain ⟨g, hg⟩ : ∃ g, g = (groupsK L l K k x).length := ⟨_, rfl⟩
    have hgk : g ≤ 4096 := by rw [hg]; exact Nat.le_trans (groupsK_len L l K k x) (by omega)
    rw [← hg] at hFx
    have HFX := zh hFx
    have HGX := zh hGx
    have HGL := zh hg
    have HZ : Hid (∀ w : World, (zeroValue 130).run Tryz.prog w = .ok (.slice none 0 0) w) := zh (fun w => by kernel_rfl)
    clear hFx hGx hg hxb
    obtain ⟨Wd, hWd⟩ : ∃ Wd, Wd = W3.drew := ⟨_, rfl⟩
    have HS0 : Hid (Wd.cell? ⟨mb + 1, 0, none⟩ = some (.map (some mb)) ∧ MapF Wd 128 .u64 (.slice none 0 0) mb k F) := zh (by
     rw [hWd]
     exact ⟨cell_below (below_drew HB3.o) ((X5.o.kept HG.o (fun e => by injection e with e; omega)).row 0 _ rfl), HF.o.below (below_drew HB3.o)⟩)
    have HB3d : Hid (Below W3.heap.size W3 Wd) := zh (by rw [hWd]; exact below_drew (Below.refl _ _))
    have HBd : Hid (Below wr.heap.size wr Wd) := zh (by rw [hWd]; exact below_drew HB3.o)
    refine Late.region (fun w' => w'.cell? ⟨mb + 1, 0, none⟩ = some (.map (some mb)) ∧ MapF w' 128 .u64 (.slice none 0 0) mb k F) (fun i => i == 10) (by kernel_rfl) ?_
    rw [← hWd]
    clear hWd
    refine Late.tk (i := 0) (v := ?_) rfl (by kernel_rfl) ⟨by kernel_rfl, ?_⟩ HS0.o ?_
    rotate_left
    ·intro w' hS
     have q0 := hS.1; clear hS
     go_simp
     rfl
    refine Late.tk (i := 1) (v := ?_) rfl (by kernel_rfl) ⟨by kernel_rfl, ?_⟩ HS0.o ?_
    rotate_left
    ·intro w' hS
     clear hS
     go_simp
     rfl
    refine Late.tk (i := 2) (v := ?_) rfl (by kernel_rfl) ⟨by kernel_rfl, ?_⟩ HS0.o ?_
    rotate_left
    ·intro w' hS
     have q0 := hS.1; clear hS
     go_simp
     rfl
    refine Late.tk (i := 3) (v := ?_) rfl (by kernel_rfl) ⟨by kernel_rfl, ?_⟩ HS0.o ?_
    rotate_left
    ·intro w' hS
     clear hS
     go_simp
     rfl
    refine Late.tk (i := 4) (v := ?_) rfl (by kernel_rfl) ⟨by kernel_rfl, ?_⟩ HS0.o ?_
    rotate_left
    ·intro w' hS
     have hrun := hS.2.look und128 und124 (HZ.o w') HWF.o; rw [HFX.o] at hrun; clear hS
     go_simp
     rfl
    refine Late.tk (i := 5) (v := ?_) rfl (by kernel_rfl) ⟨by kernel_rfl, ?_⟩ HS0.o ?_
    rotate_left
    ·intro w' hS
     clear hS
     go_simp
     rfl
    refine Late.tk (i := 6) (v := ?_) rfl (by kernel_rfl) ⟨by kernel_rfl, ?_⟩ HS0.o ?_
    rotate_left
    ·intro w' hS
     clear hS
     go_simp
     rfl
    refine Late.tk (i := 7) (v := ?_) rfl (by kernel_rfl) ⟨by kernel_rfl, ?_⟩ HS0.o ?_
    rotate_left
    ·intro w' hS
     clear hS
     go_simp
     rfl
    refine Late.one (i := 8) (by kernel_rfl) rfl (fun K hK => ?_)
    go_simp
    obtain ⟨Z, hZ⟩ : ∃ Z, Z = Wd.alloc (Obj.cells #[Value.int IntKind.i64 k, Value.slice q kk.length c] 132) := ⟨_, rfl⟩
    have hbZ : Below Wd.heap.size Wd Z := by rw [hZ]; exact (Below.refl _ Wd).alloc (Nat.le_refl _) _
    have HZB : Hid (BoxN Z Wd.heap.size 132 [.int .i64 k, .slice q kk.length c]) := zh (by rw [hZ]; exact BoxN.new Wd 132 _)
    have HSZ : Hid (Z.cell? ⟨mb + 1, 0, none⟩ = some (.map (some mb)) ∧ MapF Z 128 .u64 (.slice none 0 0) mb k F) := zh ⟨cell_below hbZ HS0.o.1, HS0.o.2.below hbZ⟩
    have HBZ := zh (HBd.o.trans (hbZ.mono HBd.o.size))
    have HB3Z := zh (HB3d.o.trans (hbZ.mono HB3d.o.size))
    rw [← hZ]
    clear hZ hbZ
    refine hK _ _ (fun _ => HSZ.o) ?_
    clear hK K
    refine Late.one (i := 9) (by kernel_rfl) rfl (fun K hK => ?_)
    have hwr : W0.heap.size ≤ wr.heap.size := HG.o.size
    have hwz : W0.heap.size ≤ Z.heap.size := Nat.le_trans hwr HBZ.o.size
    have hown : Z.ownsRow W0.heap.size 132 2 (.slice p g cp) g (css.flatMap id) := by
     have h := (HGX.o.below HBZ.o).g.own
     rw [List.length_map, ← HGL.o, HFX.o] at h
     exact h
    have HOW := zh hown
    have HOFF := zh (fun b (e : (Value.slice p g cp).ownBlock = some b) => (hown.lt b e).1)
    clear hown
    refine step_append_lies _ (by rfl) _ _ _ (by rfl) W0.heap.size 132 i1 z1 2 32 und130 hi1 hz1 (by assumption) hby1 hzc1 (by decide) (.slice p g cp) g (css.flatMap id) (by rfl) HOW.o ⟨Wd.heap.size, 0, none⟩ 1 1 [.int .i64 k, .slice q kk.length c] (by rfl) rfl (World.news_of_block HZB.o) (by simp [Value.oneCell']) (by decide) (by unfold maxLen; omega) (by omega) (by omega) Z.heap.size rfl ?_
    intro gg cap1 w1 hown1 hgrow hat1 hlt1
    have hr : M.AtL (SF W0.heap.size F) Z (rowKn (k, kk)) [.int .i64 k, .slice q kk.length c] := M.AtL.cons M.At.one (M.AtL.cons (M.At.mono (fun b hb => HGR.o.fresh hb hwr) (M.At.below HB3Z.o HAT3.o)) M.AtL.nil)
    have hpush := (HGR.o.below HBZ.o).push (x := x) (i := k) (kk := kk) hr rfl (HGX.o.below HBZ.o) hwz (by rw [← HGL.o]; exact hown1) (by rw [HFX.o]; exact hgrow) (by rw [HFX.o]; exact hat1)
    have HPU := zh hpush
    have HC1 : Hid (w1.cell? ⟨mb + 1, 0, none⟩ = some (.map (some mb)) ∧ MapF w1 128 .u64 (.slice none 0 0) mb k F) := zh ⟨(((X5.o.kept HG.o (fun e => by injection e with e; omega)).below HBZ.o (by have := X5.o.lt; omega)).kept hgrow (fun e => by have := HOFF.o _ e.symm; have := X5.o.lt; omega)).row 0 _ rfl, HSZ.o.2.kept hgrow (fun e => by have := HOFF.o _ e.symm; omega)⟩
    have HG1 : Hid (W0.grownBy w1 (some mb)) := zh (grown_belowN (grown_below HG.o HBZ.o) ((Below.refl _ Z).grown hgrow hwz (fun b e => HOFF.o b e)))
    clear hown1 hgrow hat1 hlt1 hr hpush
    refine hK _ _ (fun _ => HC1.o) ?_
    clear hK K
    refine Late.one (i := 10) (by kernel_rfl) rfl (fun K hK => ?_)
    obtain ⟨w5, hrun5, hF5, hg5⟩ := HC1.o.2.put und128 und124 (by unfold maxLen; omega) HWF.o (.slice (some ⟨gg, 0, none⟩) (g + 1) cap1)
    have HF5 := zh hF5
    have HG5 := zh hg5
    clear hF5 hg5
    go_simp
    refine hK _ _ (fun h => absurd h (by decide)) ?_
    clear hK K hrun5
    refine Late.done (by kernel_rfl) ?_ _
    go_simp
    go_wp2_with fail
    go_roundw
    case rel =>
     refine ⟨k + 1, _, by omega, by go_num, zh (grown_trans HG1.o HG5.o), HF5, zh ?_⟩
     rw [groupsK_some HO.o.symm, ← HX.o, HGL.o]
     exact HPU.o.kept HG5.o hmb2
    case measure => simp [intOf]; omega
  ·have hkn : k = n := by omega
   subst hkn
   go_wp2_with fail
   go_ret
   exact ⟨w.heap.size, mb + 1, mb, W0.heap.size, k, F, rfl, X2.o.kept HG.o (fun e => by injection e with e; have := HMB.o; omega), X5.o.kept HG.o (fun e => by injection e with e; omega), HF.o, HGR.o, grown_base HB0.o HG.o (by have := HMB.o; omega)⟩
def sameR (kk : List Vl) (l : List (Nat × List Vl)) : List Nat := l.filterMap fun x => if sameK kk x.2 = true then some x.1 else none
theorem sameR_take {kk : List Vl} {l : List (Nat × List Vl)} {k : Nat} (h : k < l.length) : sameR kk (l.take (k + 1)) = if sameK kk l[k].2 = true then sameR kk (l.take k) ++ [l[k].1] else sameR kk (l.take k) := by
 unfold sameR
 rw [List.take_succ_eq_append_getElem h, List.filterMap_append]
 by_cases e : sameK kk l[k].2 = true
 ·simp [e]
 ·simp [e]
def natRow (x : Nat) : List M := [.one (.int .i64 (x : Int))]
def natsM (l : List Nat) : M := .many 1 (l.map natRow)
theorem kn_get {S : Nat → Prop} {w : World} {l : List (Nat × List Vl)} {p : Option Addr} {n cap : Nat} (h : M.At S w (.many 2 (l.map rowKn)) (.slice p n cap)) (i : Nat) (hi : i < l.length) : ∃ b o q c, p = some ⟨b, o, none⟩ ∧ S b ∧
  w.cell? ⟨b, o + i * 2, none⟩ = some (.int .i64 (l[i].1 : Int)) ∧ w.cell? ⟨b, o + i * 2 + 1, none⟩ = some (.slice q l[i].2.length c) ∧ M.At S w (.many 4 (l[i].2.map vlR)) (.slice q l[i].2.length c) := by
 obtain ⟨b, o, cs, rfl, hS, -, hc, hr⟩ := M.At.get h i (by simpa using hi)
 rw [List.getElem_map] at hr
 obtain ⟨_, rfl, h1⟩ := M.AtL.one hr
 obtain ⟨q, c, _, rfl, h2, h3⟩ := M.AtL.many h1
 cases M.AtL.end h3
 simp only [List.length_map] at h2 hc
 exact ⟨b, o, q, c, rfl, hS, hc 0 _ rfl, hc 1 _ rfl, h2⟩
def RowsPost (w : World) (l : List Nat) (e : Ending) (w' : World) : Prop := Below w.heap.size w w' ∧ ∃ q c, e = .returned (.slice q l.length c) ∧ M.At (fun b => w.heap.size ≤ b) w' (natsM l) (.slice q l.length c)
def meetO (G : Int → List (Nat × List Vl)) : Option (List Vl) → List Nat
 | none => []
 | some kk => sameR kk (G (hashL kk))
def meetR (L1 : List Fd) (l1 : List Dt) (K1 : List Int) (L2 : List Fd) (l2 : List Dt) (K2 : List Int) (n2 r : Nat) : List Nat := meetO (groupsK L2 l2 K2 n2) (keyA L1 l1 r [] K1)
set_option maxHeartbeats 4000000 in
theorem meet_calls {w : World} {m0 base sx b2 b5 mb m bG : Nat} {L1 : List Fd} {l1 : List Dt} {K1 : List Int} {fv nv kv : Value} {n1 : Nat} {F : Int → Value} {L2 : List Fd} {l2 : List Dt} {K2 : List Int} {n2 : Nat} (hs : SideAt m0 base w sx L1 l1 fv nv kv n1) (hK : IntsAt w K1 kv) (hR : SideR L1 l1 n1) (hT : Lib.Utf8Tabs 1 2 w) (hin : ∀ c ∈ K1, 0 ≤ c ∧ c < l1.length) (hKl : K1.length ≤ 1000000000)
  (h2 : BoxN w b2 51 [.pointer (some ⟨sx, 0, none⟩)]) (h5 : BoxN w b5 124 [.map (some mb)]) (hF : MapF w 128 .u64 (.slice none 0 0) mb m F) (hG : Groups bG w F (groupsK L2 l2 K2 n2)) (hn2 : n2 ≤ 4096) (r : Nat) (hr : r < n1) :
  Calls Tryz.prog 71 #[.int .i64 r, .pointer (some ⟨b2, 0, none⟩), .pointer (some ⟨b5, 0, none⟩)] w (RowsPost w (meetR L1 l1 K1 L2 l2 K2 n2 r)) := by
 have c2 := h2.row 0 _ rfl
 have hl2 := h2.lt
 have HC := zh (key_calls hs hK hR hT hin hKl r hr)
 have HR := zh hR
 have H5 := zh h5
 have HF := zh hF
 have HG := zh hG
 obtain ⟨o, ho⟩ : ∃ o, o = keyA L1 l1 r [] K1 := ⟨_, rfl⟩
 obtain ⟨RES, hres⟩ : ∃ RES, RES = meetR L1 l1 K1 L2 l2 K2 n2 r := ⟨_, rfl⟩
 have HE : Hid (RES = meetO (groupsK L2 l2 K2 n2) o) := zh (by rw [hres, ho]; rfl)
 rw [← ho] at HC
 rw [← hres]
 have HO := zh ho
 clear ho hres hs hK hR hT hin hKl h2 h5 hF hG
 go_enter Tryz.func71, Tryz.ntmps71
 go_wp2_with fail
 refine HC.o.mono ?_
 rintro e W1 ⟨hb1, ⟨rfl, rfl⟩ | ⟨kk, q, c, rfl, rfl, hat⟩⟩
 ·have HB1 := zh hb1
  have HE2 := zh (show RES = [] from HE.o)
  clear hb1 c2
  go_wp2_with fail
  rw [HE2.o]
  go_ret
  exact ⟨HB1.o, none, 0, rfl, M.At.nil _ _ 1⟩
 ·have HB1 := zh hb1
  have HAT := zh hat
  clear hb1 hat c2
  go_wp2_with fail
  obtain ⟨x, hx⟩ : ∃ x, x = hashL kk := ⟨_, rfl⟩
  have hxb : 0 ≤ x ∧ x ≤ 18446744073709551615 := by rw [hx]; exact valH_bound _ _
  have HWF : Hid ((Lit.int IntKind.u64 x).wf = true) := zh (by simp [Lit.wf, IntKind.min, IntKind.max, IntKind.signed, IntKind.bits]; omega)
  obtain ⟨p, cp, css, hFx, hGx⟩ := HG.o.at' x
  obtain ⟨G, hGd⟩ : ∃ G, G = groupsK L2 l2 K2 n2 x := ⟨_, rfl⟩
  have hgl : G.length ≤ 4096 := by rw [hGd]; exact Nat.le_trans (groupsK_len L2 l2 K2 n2 x) hn2
  rw [← hGd] at hFx hGx
  have HFX := zh hFx
  have HGX := zh hGx
  have HE2 : Hid (RES = sameR kk G) := zh (by rw [HE.o, hGd, hx]; rfl)
  have HOK := zh (keyA_ok HR.o HO.o.symm)
  have HZ : Hid (∀ w : World, (zeroValue 130).run Tryz.prog w = .ok (.slice none 0 0) w) := zh (fun w => by kernel_rfl)
  have HX := zh hx
  clear hFx hGx hGd hx hxb HE HG
  obtain ⟨Wd, hWd⟩ : ∃ Wd, Wd = W1.drew := ⟨_, rfl⟩
  have HBd : Hid (Below w.heap.size w Wd) := zh (by rw [hWd]; exact below_drew HB1.o)
  have HS0 : Hid (Wd.cell? ⟨b5, 0, none⟩ = some (.map (some mb)) ∧ MapF Wd 128 .u64 (.slice none 0 0) mb m F) := zh ⟨cell_below HBd.o (H5.o.row 0 _ rfl), HF.o.below HBd.o⟩
  have HATd : Hid (M.At (fun b => w.heap.size ≤ b) Wd (.many 4 (kk.map vlR)) (.slice q kk.length c)) := zh (by rw [hWd]; exact M.At.below (below_drew (Below.refl _ _)) HAT.o)
  refine Late.region (fun w' => w'.cell? ⟨b5, 0, none⟩ = some (.map (some mb)) ∧ MapF w' 128 .u64 (.slice none 0 0) mb m F) (fun _ => false) (by kernel_rfl) ?_
  rw [← hWd]
  clear hWd
  refine Late.tk (i := 0) (v := ?_) rfl (by kernel_rfl) ⟨by kernel_rfl, ?_⟩ HS0.o ?_
  rotate_left
  ·intro w' hS
   have q0 := hS.1; clear hS
   go_simp
   rfl
  refine Late.tk (i := 1) (v := ?_) rfl (by kernel_rfl) ⟨by kernel_rfl, ?_⟩ HS0.o ?_
  rotate_left
  ·intro w' hS
   clear hS
   go_simp
   rfl
  refine Late.tk (i := 5) (v := ?_) rfl (by kernel_rfl) ⟨by kernel_rfl, ?_⟩ HS0.o ?_
  rotate_left
  ·intro w' hS
   clear hS
   go_simp
   rfl
  refine Late.one (i := 2) (by kernel_rfl) rfl (fun K hK => ?_)
  go_simp
  refine (hashl_calls HOK.o (M.At.mono (fun _ _ => trivial) HATd.o)).mono ?_
  rintro e W2 ⟨rfl, hb2⟩
  rw [← HX.o]
  have HB2 := zh (HBd.o.trans (hb2.mono HBd.o.size))
  have HS2 := zh (And.intro (cell_below hb2 HS0.o.1) (HS0.o.2.below hb2))
  have HAT2 := zh (M.At.below hb2 HATd.o)
  clear hb2
  refine hK _ _ (fun _ => HS2.o) ?_
  clear hK K
  refine Late.tk (i := 3) (v := ?_) rfl (by kernel_rfl) ⟨by kernel_rfl, ?_⟩ HS2.o ?_
  rotate_left
  ·intro w' hS
   have hrun := hS.2.look und128 und124 (HZ.o w') HWF.o; rw [HFX.o] at hrun; clear hS
   go_simp
   rfl
  refine Late.tk (i := 4) (v := ?_) rfl (by kernel_rfl) ⟨by kernel_rfl, ?_⟩ HS2.o ?_
  rotate_left
  ·intro w' hS
   clear hS
   go_simp
   rfl
  refine Late.done (by kernel_rfl) ?_ _
  go_simp
  go_wp2_with fail
  obtain ⟨i1, z1, hi1, hz1, hzc1, hsz1, hby1⟩ := info3_parts
  have hlist : M.At (fun _ => True) w (.many 2 (G.map rowKn)) (.slice p G.length cp) := by
   have h := HGX.o
   rw [HFX.o] at h
   exact GrowS.list (by decide) (h.mono (T := fun _ => True) fun _ _ => trivial) (fun _ _ => trivial)
  have HLI := zh hlist
  obtain ⟨-, hp1, hp2⟩ := list_room hlist
  simp only [List.length_map] at hp1
  unfold maxLen at hp2
  clear hlist
  go_loopw [7, 23] (fun o i wr => ∃ (k j : Nat) (q' : Option Addr) (c' : Nat) (css : List (List Value)), k ≤ G.length ∧ j ≤ k ∧ o = .slice q' j c' ∧ i = .int .i64 k ∧ Hid ((sameR kk (G.take k)).length = j) ∧ Hid (GrowS (fun b => w.heap.size ≤ b) 3 1 wr W2.heap.size (.slice q' j c') ((sameR kk (G.take k)).map natRow) css) ∧ Hid (Below W2.heap.size W2 wr)) (fun _ i _ => G.length - (intOf i).toNat)
  case atStart => exact ⟨0, 0, none, 0, [], by omega, by omega, rfl, rfl, zh rfl, zh (GrowS.nil _ _ _ _ _), zh (Below.refl _ _)⟩
  case round =>
   obtain ⟨k, j, q', c', css', hk, hj, rfl, rfl, HJ, HR2, HBX⟩ := hrel
   have HB := zh (HB2.o.trans (HBX.o.mono HB2.o.size))
   have HA := zh (M.At.below HBX.o HAT2.o)
   by_cases hlt : k < G.length
   ·obtain ⟨xb, xo, yq, yc, rfl, -, s0, s1, hm⟩ := kn_get HLI.o k hlt
    have HN := zh (sameR_take (kk := kk) hlt)
    have r0 := cell_below HB.o s0
    have r1 := cell_below HB.o s1
    have HMM := zh hm
    clear s0 s1 hm
    generalize G[k] = en at *
    obtain ⟨ri, yk⟩ := en
    simp only at r0 r1 HMM HN
    obtain ⟨W3, hW3, a3, hb3⟩ := boxes1 wr 132 [.int .i64 ri, .slice yq yk.length yc]
    have HB3 := zh (HB.o.trans (hb3.mono HB.o.size))
    have HBX3 := zh (HBX.o.trans (hb3.mono HBX.o.size))
    have HA3 := zh (M.At.below hb3 HA.o)
    have HC2 := zh (equal_calls (M.At.mono (fun _ _ => trivial) HA3.o) (M.At.below HB3.o HMM.o))
    unfold sameFn at HC2
    have X3 := zh a3
    have HR3 := zh (HR2.o.below hb3)
    have HW3 := zh hW3
    clear hW3 a3 hb3
    go_wp2_with fail
    rw [← HW3.o]
    clear HW3
    refine HC2.o.mono ?_
    rintro e W4 ⟨rfl, hb4⟩
    have HB4 := zh (HB3.o.trans (hb4.mono HB3.o.size))
    have HBX4 := zh (HBX3.o.trans (hb4.mono HBX3.o.size))
    have HR4 := zh (HR3.o.below hb4)
    have x4 := X3.o.below hb4 X3.o.lt
    have e0 := x4.row 0 _ rfl
    have hlx := x4.lt
    clear x4 hb4 r0 r1
    cases hsv : sameK kk yk with
    | true =>
     have HN2 : Hid (sameR kk (G.take (k + 1)) = sameR kk (G.take k) ++ [ri]) := zh (by rw [HN.o, if_pos hsv])
     clear hsv
     have hown : W4.ownsRow W2.heap.size 3 1 (.slice q' j c') j (css'.flatMap id) := by have := HR4.o.g.own; rwa [List.length_map, HJ.o] at this
     have HOW := zh hown
     have HOFF := zh (fun b (e : (Value.slice q' j c').ownBlock = some b) => hown.lt b e)
     have HZB := zh (BoxN.new W4 3 [.int .i64 (ri : Int)])
     have HV4 : Hid (Below W4.heap.size W4 (W4.alloc (Obj.cells #[Value.int .i64 (ri : Int)] 3))) := zh ((Below.refl _ W4).alloc (Nat.le_refl _) _)
     have hsz4 := HBX4.o.size
     clear hown
     go_wp2_with (at_builtin; refine wpList_append_lies _ rfl _ _ 30 rfl W2.heap.size 3 i1 z1 1 8 und30 hi1 hz1 hsz1 hby1 hzc1 (by decide) (.slice q' j c') j (css'.flatMap id) rfl (HOW.o.alloc _) ⟨W4.heap.size, 0, none⟩ 1 1 [.int .i64 (ri : Int)] rfl rfl (World.news_of_block HZB.o) (by simp [Value.oneCell']) (by decide) (by unfold maxLen; omega) (by omega) (by simp; omega) (W4.heap.size + 1) (by simp) ?_; intro gg cc w2 hown2 hgrow2 hat2 hlt2; have HOW2 := zh hown2; have HGR2 := zh hgrow2; have HAT2' := zh hat2; clear hown2 hgrow2 hat2)
     refine ⟨⟨k + 1, j + 1, some ⟨gg, 0, none⟩, cc, css' ++ [[.int .i64 (ri : Int)]], by omega, by omega, rfl, by go_num, zh ?_, zh ?_, zh ?_⟩, by simp [intOf]; omega⟩
     ·rw [HN2.o, List.length_append, HJ.o]; rfl
     ·rw [HN2.o, List.map_append, List.map_cons, List.map_nil]
      refine (HR4.o.below HV4.o).push (M.AtL.cons M.At.one M.AtL.nil) rfl (by rw [List.length_map, HJ.o]) HOW2.o HGR2.o ?_
      rw [World.size_alloc]; exact HAT2'.o
     ·exact (HBX4.o.trans (HV4.o.mono HBX4.o.size)).grown HGR2.o (by simp; omega) (fun b e => (HOFF.o b e).1)
    | false =>
     have HN2 : Hid (sameR kk (G.take (k + 1)) = sameR kk (G.take k)) := zh (by rw [HN.o, if_neg (by rw [hsv]; decide)])
     clear hsv
     go_wp2_with fail
     go_roundw
     case rel => exact ⟨k + 1, j, q', c', css', by omega, by omega, rfl, by go_num, zh (by rw [HN2.o]; exact HJ.o), zh (by rw [HN2.o]; exact HR4.o), HBX4⟩
     case measure => simp [intOf]; omega
   ·have hkl : k = G.length := by omega
    have hj2 : (sameR kk G).length = j := by have := HJ.o; rwa [hkl, List.take_length] at this
    have hli := GrowS.list (by decide) HR2.o (fun b hb => Nat.le_trans HB2.o.size hb)
    rw [hkl, List.take_length] at hli
    have HJ2 := zh hj2
    have HLI2 := zh hli
    clear hkl hj2 hli
    go_wp2_with fail
    go_ret
    exact ⟨HB.o, q', c', by rw [HE2.o, HJ2.o]; rfl, by rw [HE2.o, HJ2.o]; exact HLI2.o⟩
def pairRow (x : Int × Int) : List M := [.one (.int .i64 x.1), .one (.int .i64 x.2)]
def pairsM (l : List (Int × Int)) : M := .many 2 (l.map pairRow)
def PairsPost (w : World) (l : List (Int × Int)) (e : Ending) (w' : World) : Prop := Below w.heap.size w w' ∧ ∃ q c, e = .returned (.slice q l.length c) ∧ M.At (fun b => w.heap.size ≤ b) w' (pairsM l) (.slice q l.length c) ∧ (l = [] → q = none ∧ c = 0)
theorem und40 : Tryz.prog.underlying 40 = some (.slice 44) := by kernel_rfl
theorem info44_parts : ∃ i z, Tryz.prog.info? 44 = some i ∧ i.zero = some z ∧ z.cells.size = 2 ∧ i.size = 2 ∧ i.bytes = 16 := ⟨_, _, rfl, rfl, rfl, rfl, rfl⟩
def innerW (r : Nat) (l : List Nat) : List (Int × Int) := l.map fun (x : Nat) => ((r : Int), (x : Int))
def leftW (r : Nat) (l : List Nat) : List (Int × Int) := if l.length = 0 then [((r : Int), -1)] else innerW r l
def someW (b : Bool) (r : Nat) (l : List Nat) : List (Int × Int) := if decide (0 < l.length) = b then [((r : Int), -1)] else []
theorem nat_get {S : Nat → Prop} {w : World} {l : List Nat} {p : Option Addr} {n cap : Nat} (h : M.At S w (natsM l) (.slice p n cap)) (i : Nat) (hi : i < l.length) : ∃ b o, p = some ⟨b, o, none⟩ ∧ S b ∧ w.cell? ⟨b, o + i, none⟩ = some (.int .i64 (l[i] : Int)) := by
 obtain ⟨b, o, cs, rfl, hS, -, hc, hr⟩ := M.At.get h i (by simpa using hi)
 rw [List.getElem_map] at hr
 obtain ⟨_, rfl, h1⟩ := M.AtL.one hr
 cases M.AtL.end h1
 exact ⟨b, o, rfl, hS, by have := hc 0 _ rfl; simpa using this⟩
theorem innerW_take {r : Nat} {l : List Nat} {k : Nat} (h : k < l.length) : innerW r (l.take (k + 1)) = innerW r (l.take k) ++ [((r : Int), (l[k] : Int))] := by
 unfold innerW
 rw [List.take_succ_eq_append_getElem h, List.map_append]; rfl
set_option maxHeartbeats 4000000 in
theorem inner_calls {w : World} {l : List Nat} {p : Option Addr} {c : Nat} (hl : M.At (fun _ => True) w (natsM l) (.slice p l.length c)) (hlen : l.length ≤ 1000000) (r : Nat) :
  Calls Tryz.prog 74 #[.int .i64 r, .slice p l.length c] w (PairsPost w (innerW r l)) := by
 obtain ⟨i1, z1, hi1, hz1, hzc1, hsz1, hby1⟩ := info44_parts
 obtain ⟨-, hp1, hp2⟩ := list_room hl
 simp only [List.length_map] at hp1
 unfold maxLen at hp2
 have HL := zh hl
 clear hl
 go_enter Tryz.func74, Tryz.ntmps74
 go_wp2_with fail
 go_loopw [5, 10] (fun o i wr => ∃ (k : Nat) (q : Option Addr) (c' : Nat) (css : List (List Value)), k ≤ l.length ∧ o = .slice q k c' ∧ i = .int .i64 k ∧ Hid (k = 0 → q = none ∧ c' = 0) ∧ Hid (GrowS (fun b => w.heap.size ≤ b) 44 2 wr w.heap.size (.slice q k c') ((innerW r (l.take k)).map pairRow) css) ∧ Hid (Below w.heap.size w wr)) (fun _ i _ => l.length - (intOf i).toNat)
 case atStart => exact ⟨0, none, 0, [], by omega, rfl, rfl, zh (fun _ => ⟨rfl, rfl⟩), zh (GrowS.nil _ _ _ _ _), zh (Below.refl _ _)⟩
 case round =>
  obtain ⟨k, q, c', css, hk, rfl, rfl, HQ, HG, HB⟩ := hrel
  by_cases hlt : k < l.length
  ·obtain ⟨xb, xo, rfl, -, s0⟩ := nat_get HL.o k hlt
   have HN := zh (innerW_take (r := r) hlt)
   have r0 := cell_below HB.o s0
   clear s0
   generalize l[k] = x at *
   have htk : ((innerW r (l.take k)).map pairRow).length = k := by unfold innerW; rw [List.length_map, List.length_map, List.length_take]; omega
   have HTK := zh htk
   have hown : wr.ownsRow w.heap.size 44 2 (.slice q k c') k (css.flatMap id) := by have := HG.o.g.own; rwa [htk] at this
   have HOW := zh hown
   have HOFF := zh (fun b (e : (Value.slice q k c').ownBlock = some b) => hown.lt b e)
   have HZB := zh (BoxN.new wr 44 [.int .i64 (r : Int), .int .i64 (x : Int)])
   have HV : Hid (Below wr.heap.size wr (wr.alloc (Obj.cells #[Value.int .i64 (r : Int), Value.int .i64 (x : Int)] 44))) := zh ((Below.refl _ wr).alloc (Nat.le_refl _) _)
   have hsz := HB.o.size
   clear hown htk
   go_wp2_with (at_builtin; refine wpList_append_lies _ rfl _ _ 40 rfl w.heap.size 44 i1 z1 2 16 und40 hi1 hz1 hsz1 hby1 hzc1 (by decide) (.slice q k c') k (css.flatMap id) rfl (HOW.o.alloc _) ⟨wr.heap.size, 0, none⟩ 1 1 [.int .i64 (r : Int), .int .i64 (x : Int)] rfl rfl (World.news_of_block HZB.o) (by simp [Value.oneCell']) (by decide) (by unfold maxLen; omega) (by omega) (by simp; omega) (wr.heap.size + 1) (by simp) ?_; intro gg cc w2 hown2 hgrow2 hat2 hlt2; have HOW2 := zh hown2; have HGR2 := zh hgrow2; have HAT2 := zh hat2; clear hown2 hgrow2 hat2)
   refine ⟨⟨k + 1, some ⟨gg, 0, none⟩, cc, css ++ [[.int .i64 (r : Int), .int .i64 (x : Int)]], by omega, rfl, by go_num, zh (fun e => by omega), zh ?_, zh ?_⟩, by simp [intOf]; omega⟩
   ·rw [HN.o, List.map_append, List.map_cons, List.map_nil]
    refine (HG.o.below HV.o).push (M.AtL.cons M.At.one (M.AtL.cons M.At.one M.AtL.nil)) rfl HTK.o HOW2.o HGR2.o ?_
    rw [World.size_alloc]; exact HAT2.o
   ·exact (HB.o.trans (HV.o.mono HB.o.size)).grown HGR2.o (by simp; omega) (fun b e => (HOFF.o b e).1)
  ·have hkl : k = l.length := by omega
   have hli := GrowS.list (by decide) HG.o (fun b hb => hb)
   rw [hkl, List.take_length] at hli
   have hkl2 : (innerW r l).length = k := by unfold innerW; rw [List.length_map]; omega
   have HLI : Hid (M.At (fun b => w.heap.size ≤ b) wr (pairsM (innerW r l)) (.slice q k c')) := zh (by rw [hkl]; exact hli)
   have HKL := zh hkl2
   clear hkl hkl2 hli
   go_wp2_with fail
   go_ret
   exact ⟨HB.o, q, c', by rw [HKL.o]; rfl, by rw [HKL.o]; exact HLI.o, fun e => HQ.o (by rw [← HKL.o, e]; rfl)⟩
theorem pair_new (w : World) (a b : Int) : M.At (fun x => w.heap.size ≤ x) (w.alloc (Obj.cells #[.int .i64 a, .int .i64 b] 44)) (pairsM [(a, b)]) (.slice (some ⟨w.heap.size, 0, none⟩) 1 1) := by
 have hb := BoxN.new w 44 [.int .i64 a, .int .i64 b]
 refine M.At.of (rows := [pairRow (a, b)]) ⟨Nat.le_refl _, by unfold maxLen; decide⟩ (M.RowsAt.mk (by decide) fun i hi => ?_)
 have : i = 0 := by simpa using hi
 subst this
 refine ⟨w.heap.size, 0, [.int .i64 a, .int .i64 b], rfl, Nat.le_refl _, rfl, fun j u hj => ?_, M.AtL.cons M.At.one (M.AtL.cons M.At.one M.AtL.nil)⟩
 have := hb.row j u hj
 simpa using this
def leftFn (b : Nat) : Value := .func (.func 75) #[] #[.pointer (some ⟨b, 0, none⟩)]
def someFn (b : Nat) : Value := .func (.func 77) #[] #[.pointer (some ⟨b, 0, none⟩)]
def innerFn : Value := .func (.func 74) #[] #[]
set_option maxHeartbeats 4000000 in
theorem left_calls {w : World} {b : Nat} {l : List Nat} {p : Option Addr} {c : Nat} (hb : BoxN w b 117 [.func (.func 74) #[] #[]]) (hl : M.At (fun _ => True) w (natsM l) (.slice p l.length c)) (hlen : l.length ≤ 1000000) (r : Nat) :
  Calls Tryz.prog 75 #[.int .i64 r, .slice p l.length c, .pointer (some ⟨b, 0, none⟩)] w (PairsPost w (leftW r l)) := by
 obtain ⟨RES, hres⟩ : ∃ RES, RES = leftW r l := ⟨_, rfl⟩
 rw [← hres]
 have HC := zh (inner_calls hl hlen r)
 have c0 := hb.row 0 _ rfl
 have hlt := hb.lt
 by_cases hz : l.length = 0
 ·have HE : Hid (RES = [((r : Int), -1)]) := zh (by rw [hres]; unfold leftW; rw [if_pos hz])
  have HN := zh (pair_new w r (-1))
  have HB : Hid (Below w.heap.size w (w.alloc (Obj.cells #[.int .i64 r, .int .i64 (-1)] 44))) := zh ((Below.refl _ w).alloc (Nat.le_refl _) _)
  generalize l.length = n at *
  subst hz
  clear hres hb hl hlen
  go_enter Tryz.func75, Tryz.ntmps75
  go_wp2_with fail
  rw [HE.o]
  go_ret
  exact ⟨HB.o, _, _, rfl, HN.o, fun e => by cases e⟩
 ·have HE : Hid (RES = innerW r l) := zh (by rw [hres]; unfold leftW; rw [if_neg hz])
  have hz2 : ((l.length : Int) == 0) = false := by simpa using hz
  have hpos : 0 < l.length := by omega
  clear hres hb hl
  go_enter Tryz.func75, Tryz.ntmps75
  go_wp2_with fail
  refine HC.o.mono ?_
  rintro e w1 ⟨hb1, q, c1, rfl, hat, hnil⟩
  have HAT := zh (And.intro hat hnil)
  have HB := zh hb1
  clear hat hb1 hnil
  go_wp2_with fail
  rw [HE.o]
  go_ret
  exact ⟨HB.o, _, _, rfl, HAT.o.1, HAT.o.2⟩
set_option maxHeartbeats 4000000 in
theorem some_calls {w : World} {b : Nat} {s : Bool} {l : List Nat} {p : Option Addr} {c : Nat} (hb : BoxN w b 4 [.bool s]) (hl : M.At (fun _ => True) w (natsM l) (.slice p l.length c)) (r : Nat) :
  Calls Tryz.prog 77 #[.int .i64 r, .slice p l.length c, .pointer (some ⟨b, 0, none⟩)] w (PairsPost w (someW s r l)) := by
 obtain ⟨RES, hres⟩ : ∃ RES, RES = someW s r l := ⟨_, rfl⟩
 rw [← hres]
 have c0 := hb.row 0 _ rfl
 have hlt := hb.lt
 have HN := zh (pair_new w r (-1))
 have HB : Hid (Below w.heap.size w (w.alloc (Obj.cells #[.int .i64 r, .int .i64 (-1)] 44))) := zh ((Below.refl _ w).alloc (Nat.le_refl _) _)
 by_cases hz : 0 < l.length
 ·cases s with
  | true =>
   have HE : Hid (RES = [((r : Int), -1)]) := zh (by rw [hres]; unfold someW; rw [if_pos (decide_eq_true hz)])
   clear hres hb hl
   go_enter Tryz.func77, Tryz.ntmps77
   go_wp2_with fail
   rw [HE.o]
   go_ret
   exact ⟨HB.o, _, _, rfl, HN.o, fun e => by cases e⟩
  | false =>
   have HE : Hid (RES = []) := zh (by rw [hres]; unfold someW; rw [if_neg (by rw [decide_eq_true hz]; decide)])
   clear hres hb hl
   go_enter Tryz.func77, Tryz.ntmps77
   go_wp2_with fail
   rw [HE.o]
   go_ret
   exact ⟨Below.refl _ _, none, 0, rfl, M.At.nil _ _ 2, fun _ => ⟨rfl, rfl⟩⟩
 ·cases s with
  | true =>
   have HE : Hid (RES = []) := zh (by rw [hres]; unfold someW; rw [if_neg (by rw [decide_eq_false hz]; decide)])
   clear hres hb hl
   go_enter Tryz.func77, Tryz.ntmps77
   go_wp2_with fail
   rw [HE.o]
   go_ret
   exact ⟨Below.refl _ _, none, 0, rfl, M.At.nil _ _ 2, fun _ => ⟨rfl, rfl⟩⟩
  | false =>
   have HE : Hid (RES = [((r : Int), -1)]) := zh (by rw [hres]; unfold someW; rw [if_pos (decide_eq_false hz)])
   clear hres hb hl
   go_enter Tryz.func77, Tryz.ntmps77
   go_wp2_with fail
   rw [HE.o]
   go_ret
   exact ⟨HB.o, _, _, rfl, HN.o, fun e => by cases e⟩
def OnlyPost (w : World) (s : Bool) (e : Ending) (w' : World) : Prop := Below w.heap.size w w' ∧ ∃ b, e = .returned (someFn b) ∧ w.heap.size ≤ b ∧ BoxN w' b 4 [.bool s]
set_option maxHeartbeats 4000000 in
theorem only_calls (w : World) (s : Bool) : Calls Tryz.prog 76 #[.bool s] w (OnlyPost w s) := by
 have hmf : ∀ (fn : Fn) (first cap : Array Value) (w : World), (Instr.makeFunc fn first cap).run Tryz.prog w = .ok (.func fn first cap) w := fun _ _ _ _ => rfl
 have HN := zh (BoxN.new w 4 [.bool s])
 have HB : Hid (Below w.heap.size w (w.alloc (Obj.cells #[.bool s] 4))) := zh ((Below.refl _ w).alloc (Nat.le_refl _) _)
 go_enter Tryz.func76, Tryz.ntmps76
 go_wp2_with fail
 go_ret
 exact ⟨HB.o, w.heap.size, rfl, Nat.le_refl _, HN.o⟩
def WaysAt (w : World) (mb m : Nat) (F : Int → Value) : Prop := MapF w 3 .i64 .nilFunc mb m F ∧ F 1 = innerFn ∧
 (∃ b, F 2 = leftFn b ∧ F 3 = leftFn b ∧ BoxN w b 117 [innerFn]) ∧ (∃ b, F 4 = someFn b ∧ BoxN w b 4 [.bool true]) ∧ (∃ b, F 5 = someFn b ∧ BoxN w b 4 [.bool false])
def WaysPost (w : World) (e : Ending) (w' : World) : Prop := Below w.heap.size w w' ∧ ∃ mb m F, e = .returned (.map (some mb)) ∧ WaysAt w' mb m F
def OnlyAt (n : Nat) (w : World) (v : Value) (s : Bool) : Prop := ∃ b, v = someFn b ∧ n ≤ b ∧ BoxN w b 4 [.bool s]
theorem OnlyAt.below {n : Nat} {w w' : World} {v : Value} {s : Bool} (h : OnlyAt n w v s) (hb : Below w.heap.size w w') : OnlyAt n w' v s := by
 obtain ⟨b, h1, h2, h3⟩ := h; exact ⟨b, h1, h2, h3.below hb h3.lt⟩
theorem map_ne {w : World} {k : TypeId} {q : IntKind} {z : Value} {b n : Nat} {F : Int → Value} (h : MapF w k q z b n F) {x : Nat} {t : TypeId} {cs : List Value} (hx : BoxN w x t cs) : x ≠ b := by
 obtain ⟨D, ⟨es, clock, h1, -⟩, -⟩ := h
 intro e
 subst e
 have hx : w.heap[x]? = _ := hx
 rw [h1] at hx
 cases hx
theorem OnlyAt.kept {n : Nat} {w w' : World} {v : Value} {s : Bool} {k : TypeId} {q : IntKind} {z : Value} {b m : Nat} {F : Int → Value} (h : OnlyAt n w v s) (hm : MapF w k q z b m F) (hg : w.grownBy w' (some b)) : OnlyAt n w' v s := by
 obtain ⟨x, h1, h2, h3⟩ := h
 exact ⟨x, h1, h2, h3.kept hg (fun e => map_ne hm h3 (by injection e))⟩
def MapJ (n : Nat) (w : World) (d1 d2 d3 d4 d5 : Bool) (v2 v4 v5 t : Value) : Prop := ∃ mb m F, t = .map (some mb) ∧ n ≤ mb ∧ m ≤ d1.toNat + d2.toNat + d3.toNat + d4.toNat + d5.toNat ∧ MapF w 3 .i64 .nilFunc mb m F ∧
  (d1 = true → F 1 = innerFn) ∧ (d2 = true → F 2 = v2) ∧ (d3 = true → F 3 = v2) ∧ (d4 = true → F 4 = v4) ∧ (d5 = true → F 5 = v5)
theorem MapJ.below {n : Nat} {w w' : World} {d1 d2 d3 d4 d5 : Bool} {v2 v4 v5 t : Value} (h : MapJ n w d1 d2 d3 d4 d5 v2 v4 v5 t) (hb : Below w.heap.size w w') : MapJ n w' d1 d2 d3 d4 d5 v2 v4 v5 t := by
 obtain ⟨mb, m, F, h1, h2, h3, h4, h5⟩ := h; exact ⟨mb, m, F, h1, h2, h3, h4.below hb, h5⟩
theorem MapJ.put1 {n : Nat} {w : World} {d2 d3 d4 d5 : Bool} {v2 v4 v5 t : Value} (h : MapJ n w false d2 d3 d4 d5 v2 v4 v5 t) : ∃ w' mb, (Instr.mapUpdate 118 t (.int .i64 1) innerFn).run Tryz.prog w = .ok () w' ∧ MapJ n w' true d2 d3 d4 d5 v2 v4 v5 t ∧ n ≤ mb ∧ w.grownBy w' (some mb) ∧ ∀ x s, OnlyAt n w x s → OnlyAt n w' x s := by
 obtain ⟨mb, m, F, rfl, h2, h3, h4, g1, g2, g3, g4, g5⟩ := h
 obtain ⟨w', hr, hF, hg⟩ := h4.put und3' und118 (by unfold maxLen; cases d2 <;> cases d3 <;> cases d4 <;> cases d5 <;> simp at h3 <;> omega) (x := 1) (by decide) innerFn
 exact ⟨w', mb, hr, ⟨mb, _, _, rfl, h2, by simp at h3 ⊢; omega, hF, fun _ => by simp, fun e => by simpa using g2 e, fun e => by simpa using g3 e, fun e => by simpa using g4 e, fun e => by simpa using g5 e⟩, h2, hg, fun x s hx => hx.kept h4 hg⟩
theorem MapJ.put2 {n : Nat} {w : World} {d1 d3 d4 d5 : Bool} {v2 v4 v5 t : Value} (h : MapJ n w d1 false d3 d4 d5 v2 v4 v5 t) : ∃ w' mb, (Instr.mapUpdate 118 t (.int .i64 2) v2).run Tryz.prog w = .ok () w' ∧ MapJ n w' d1 true d3 d4 d5 v2 v4 v5 t ∧ n ≤ mb ∧ w.grownBy w' (some mb) ∧ ∀ x s, OnlyAt n w x s → OnlyAt n w' x s := by
 obtain ⟨mb, m, F, rfl, h2, h3, h4, g1, g2, g3, g4, g5⟩ := h
 obtain ⟨w', hr, hF, hg⟩ := h4.put und3' und118 (by unfold maxLen; cases d1 <;> cases d3 <;> cases d4 <;> cases d5 <;> simp at h3 <;> omega) (x := 2) (by decide) v2
 exact ⟨w', mb, hr, ⟨mb, _, _, rfl, h2, by simp at h3 ⊢; omega, hF, fun e => by simpa using g1 e, fun _ => by simp, fun e => by simpa using g3 e, fun e => by simpa using g4 e, fun e => by simpa using g5 e⟩, h2, hg, fun x s hx => hx.kept h4 hg⟩
theorem MapJ.put3 {n : Nat} {w : World} {d1 d2 d4 d5 : Bool} {v2 v4 v5 t : Value} (h : MapJ n w d1 d2 false d4 d5 v2 v4 v5 t) : ∃ w' mb, (Instr.mapUpdate 118 t (.int .i64 3) v2).run Tryz.prog w = .ok () w' ∧ MapJ n w' d1 d2 true d4 d5 v2 v4 v5 t ∧ n ≤ mb ∧ w.grownBy w' (some mb) ∧ ∀ x s, OnlyAt n w x s → OnlyAt n w' x s := by
 obtain ⟨mb, m, F, rfl, h2, h3, h4, g1, g2, g3, g4, g5⟩ := h
 obtain ⟨w', hr, hF, hg⟩ := h4.put und3' und118 (by unfold maxLen; cases d1 <;> cases d2 <;> cases d4 <;> cases d5 <;> simp at h3 <;> omega) (x := 3) (by decide) v2
 exact ⟨w', mb, hr, ⟨mb, _, _, rfl, h2, by simp at h3 ⊢; omega, hF, fun e => by simpa using g1 e, fun e => by simpa using g2 e, fun _ => by simp, fun e => by simpa using g4 e, fun e => by simpa using g5 e⟩, h2, hg, fun x s hx => hx.kept h4 hg⟩
theorem MapJ.put4 {n : Nat} {w : World} {d1 d2 d3 d5 : Bool} {v2 v4 v5 t : Value} (h : MapJ n w d1 d2 d3 false d5 v2 v4 v5 t) : ∃ w' mb, (Instr.mapUpdate 118 t (.int .i64 4) v4).run Tryz.prog w = .ok () w' ∧ MapJ n w' d1 d2 d3 true d5 v2 v4 v5 t ∧ n ≤ mb ∧ w.grownBy w' (some mb) ∧ ∀ x s, OnlyAt n w x s → OnlyAt n w' x s := by
 obtain ⟨mb, m, F, rfl, h2, h3, h4, g1, g2, g3, g4, g5⟩ := h
 obtain ⟨w', hr, hF, hg⟩ := h4.put und3' und118 (by unfold maxLen; cases d1 <;> cases d2 <;> cases d3 <;> cases d5 <;> simp at h3 <;> omega) (x := 4) (by decide) v4
 exact ⟨w', mb, hr, ⟨mb, _, _, rfl, h2, by simp at h3 ⊢; omega, hF, fun e => by simpa using g1 e, fun e => by simpa using g2 e, fun e => by simpa using g3 e, fun _ => by simp, fun e => by simpa using g5 e⟩, h2, hg, fun x s hx => hx.kept h4 hg⟩
theorem MapJ.put5 {n : Nat} {w : World} {d1 d2 d3 d4 : Bool} {v2 v4 v5 t : Value} (h : MapJ n w d1 d2 d3 d4 false v2 v4 v5 t) : ∃ w' mb, (Instr.mapUpdate 118 t (.int .i64 5) v5).run Tryz.prog w = .ok () w' ∧ MapJ n w' d1 d2 d3 d4 true v2 v4 v5 t ∧ n ≤ mb ∧ w.grownBy w' (some mb) ∧ ∀ x s, OnlyAt n w x s → OnlyAt n w' x s := by
 obtain ⟨mb, m, F, rfl, h2, h3, h4, g1, g2, g3, g4, g5⟩ := h
 obtain ⟨w', hr, hF, hg⟩ := h4.put und3' und118 (by unfold maxLen; cases d1 <;> cases d2 <;> cases d3 <;> cases d4 <;> simp at h3 <;> omega) (x := 5) (by decide) v5
 exact ⟨w', mb, hr, ⟨mb, _, _, rfl, h2, by simp at h3 ⊢; omega, hF, fun e => by simpa using g1 e, fun e => by simpa using g2 e, fun e => by simpa using g3 e, fun e => by simpa using g4 e, fun _ => by simp⟩, h2, hg, fun x s hx => hx.kept h4 hg⟩
def WaysJ (w0 : World) (b : Nat) (D : Nat → Bool) (a : Act) (w : World) : Prop := Below w0.heap.size w0 w ∧
 ((D 2 = true ∨ D 4 = true ∨ D 6 = true ∨ D 9 = true ∨ D 12 = true ∨ D 13 = true ∨ D 14 = true → D 0 = true) ∧ (D 9 = true → D 8 = true) ∧ (D 12 = true → D 11 = true)) ∧
 ∃ t0 t4 t5 t6 t7 t8 t9 t10 t11 t12 t13,
 a = { tmps := #[t0, .pointer (some ⟨b, 0, none⟩), .func (.func 75) #[] #[.pointer (some ⟨b, 0, none⟩)], .func (.func 76) #[] #[], t4, t5, t6, t7, t8, t9, t10, t11, t12, t13], defers := [] } ∧
 (D 0 = true → MapJ w0.heap.size w (D 2) (D 4) (D 6) (D 9) (D 12) (.func (.func 75) #[] #[.pointer (some ⟨b, 0, none⟩)]) t10 t12 t5) ∧ (D 1 = true → t6 = .func (.func 74) #[] #[]) ∧ (D 3 = true → t7 = .func (.func 75) #[] #[.pointer (some ⟨b, 0, none⟩)]) ∧ (D 5 = true → t8 = .func (.func 75) #[] #[.pointer (some ⟨b, 0, none⟩)]) ∧ (D 7 = true → t9 = .func (.func 76) #[] #[]) ∧ (D 8 = true → OnlyAt w0.heap.size w t10 true) ∧
 (D 10 = true → t11 = .func (.func 76) #[] #[]) ∧ (D 11 = true → OnlyAt w0.heap.size w t12 false) ∧ (D 13 = true → t13 = t5) ∧ (D 14 = true → t0 = t5)
attribute [local go_sem] Go.Fld.run_store_func
set_option maxHeartbeats 8000000 in
theorem ways_calls (w : World) : Calls Tryz.prog 63 #[] w (WaysPost w) := by
 have hmf : ∀ (fn : Fn) (first cap : Array Value) (w : World), (Instr.makeFunc fn first cap).run Tryz.prog w = .ok (.func fn first cap) w := fun _ _ _ _ => rfl
 have hmm := @run_makeMap Tryz.prog
 go_enter Tryz.func63, Tryz.ntmps63
 go_wp2_with fail
 obtain ⟨W0, hW0⟩ : ∃ W0, W0 = w.alloc (Obj.cells #[.func (.func 74) #[] #[]] 117) := ⟨_, rfl⟩
 obtain ⟨b, hb⟩ : ∃ b, b = w.heap.size := ⟨_, rfl⟩
 have X0 : Hid (BoxN W0 b 117 [innerFn]) := zh (by rw [hW0, hb]; exact BoxN.new w 117 [innerFn])
 have HB0 : Hid (Below w.heap.size w W0) := zh (by rw [hW0]; exact (Below.refl _ w).alloc (Nat.le_refl _) _)
 rw [← hW0, ← hb]
 clear hW0 hb
 have hbl := X0.o.lt
 refine Late.region_inv (WaysJ W0 b) (by kernel_rfl) (by kernel_rfl) ?_ ?_ ?_
 ·intro i o hi D a W hDi hdep hJ K hK
  obtain ⟨hB, ⟨hc0, hc8, hc11⟩, t0, t4, t5, t6, t7, t8, t9, t10, t11, t12, t13, rfl, h0, h1, h3, h5, h7, h8, h10, h11, h13, h14⟩ := hJ
  have HB := zh hB
  have hsz := hB.size
  have q0 : W.cell? ⟨b, 0, none⟩ = some (.func (.func 74) #[] #[]) := cell_below hB (X0.o.row 0 _ rfl)
  have hbW : b < W.heap.size := by omega
  clear hB
  match i, hi with
  | 0, hi =>
   cases hi
   have hc : Below W.heap.size W (W.alloc (Obj.map #[] 0)) := (Below.refl _ W).alloc (Nat.le_refl _) _
   have hno : ∀ k, k = 2 ∨ k = 4 ∨ k = 6 ∨ k = 9 ∨ k = 12 ∨ k = 13 ∨ k = 14 → D k = false := fun k hk => by
    cases hd : D k with
    | false => rfl
    | true => rw [hc0 (by rcases hk with rfl | rfl | rfl | rfl | rfl | rfl | rfl <;> simp [hd])] at hDi; cases hDi
   go_simp
   exact hK _ _ ⟨HB.o.alloc hsz _, ⟨fun _ => by simp, by simpa using hc8, by simpa using hc11⟩, _, _, .map (some W.heap.size), _, _, _, _, _, _, _, _, rfl, fun _ => ⟨W.heap.size, 0, fun _ => .nilFunc, rfl, hsz, Nat.zero_le _, MapF.made W 3 .i64 .nilFunc, fun e => by simp [hno 2] at e, fun e => by simp [hno 4] at e, fun e => by simp [hno 6] at e, fun e => by simp [hno 9] at e, fun e => by simp [hno 12] at e⟩, by simpa using h1, by simpa using h3, by simpa using h5, by simpa using h7, fun e => (h8 (by simpa using e)).below hc, by simpa using h10, fun e => (h11 (by simpa using e)).below hc, fun e => by simp [hno 13] at e, fun e => by simp [hno 14] at e⟩
  | 1, hi =>
   cases hi
   go_simp
   exact hK _ _ ⟨HB.o, ⟨by simpa using hc0, by simpa using hc8, by simpa using hc11⟩, _, _, _, .func (.func 74) #[] #[], _, _, _, _, _, _, _, rfl, by simpa using h0, fun _ => rfl, by simpa using h3, by simpa using h5, by simpa using h7, by simpa using h8, by simpa using h10, by simpa using h11, by simpa using h13, by simpa using h14⟩
  | 2, hi =>
   cases hi
   have e0 : D 0 = true := hdep 0 _ rfl rfl
   have e1 : D 1 = true := hdep 1 _ rfl rfl
   obtain rfl := h1 e1
   have hm := h0 e0
   simp only [hDi] at hm
   obtain ⟨w', mb, hr, hm', hmb, hg, hon⟩ := hm.put1
   try unfold innerFn at hr
   obtain ⟨mb', m', F', rfl, -⟩ := hm
   go_simp
   exact hK _ _ ⟨grown_base HB.o hg hmb, ⟨fun _ => by simpa using e0, by simpa using hc8, by simpa using hc11⟩, _, _, _, _, _, _, _, _, _, _, _, rfl, fun _ => by simpa using hm', by simpa using h1, by simpa using h3, by simpa using h5, by simpa using h7, fun e => hon _ _ (h8 (by simpa using e)), by simpa using h10, fun e => hon _ _ (h11 (by simpa using e)), by simpa using h13, by simpa using h14⟩
  | 3, hi =>
   cases hi
   go_simp
   exact hK _ _ ⟨HB.o, ⟨by simpa using hc0, by simpa using hc8, by simpa using hc11⟩, _, _, _, _, .func (.func 75) #[] #[.pointer (some ⟨b, 0, none⟩)], _, _, _, _, _, _, rfl, by simpa using h0, by simpa using h1, fun _ => rfl, by simpa using h5, by simpa using h7, by simpa using h8, by simpa using h10, by simpa using h11, by simpa using h13, by simpa using h14⟩
  | 4, hi =>
   cases hi
   have e0 : D 0 = true := hdep 0 _ rfl rfl
   have e3 : D 3 = true := hdep 1 _ rfl rfl
   obtain rfl := h3 e3
   have hm := h0 e0
   simp only [hDi] at hm
   obtain ⟨w', mb, hr, hm', hmb, hg, hon⟩ := hm.put2
   try unfold innerFn at hr
   obtain ⟨mb', m', F', rfl, -⟩ := hm
   go_simp
   exact hK _ _ ⟨grown_base HB.o hg hmb, ⟨fun _ => by simpa using e0, by simpa using hc8, by simpa using hc11⟩, _, _, _, _, _, _, _, _, _, _, _, rfl, fun _ => by simpa using hm', by simpa using h1, by simpa using h3, by simpa using h5, by simpa using h7, fun e => hon _ _ (h8 (by simpa using e)), by simpa using h10, fun e => hon _ _ (h11 (by simpa using e)), by simpa using h13, by simpa using h14⟩
  | 5, hi =>
   cases hi
   go_simp
   exact hK _ _ ⟨HB.o, ⟨by simpa using hc0, by simpa using hc8, by simpa using hc11⟩, _, _, _, _, _, .func (.func 75) #[] #[.pointer (some ⟨b, 0, none⟩)], _, _, _, _, _, rfl, by simpa using h0, by simpa using h1, by simpa using h3, fun _ => rfl, by simpa using h7, by simpa using h8, by simpa using h10, by simpa using h11, by simpa using h13, by simpa using h14⟩
  | 6, hi =>
   cases hi
   have e0 : D 0 = true := hdep 0 _ rfl rfl
   have e5 : D 5 = true := hdep 1 _ rfl rfl
   obtain rfl := h5 e5
   have hm := h0 e0
   simp only [hDi] at hm
   obtain ⟨w', mb, hr, hm', hmb, hg, hon⟩ := hm.put3
   try unfold innerFn at hr
   obtain ⟨mb', m', F', rfl, -⟩ := hm
   go_simp
   exact hK _ _ ⟨grown_base HB.o hg hmb, ⟨fun _ => by simpa using e0, by simpa using hc8, by simpa using hc11⟩, _, _, _, _, _, _, _, _, _, _, _, rfl, fun _ => by simpa using hm', by simpa using h1, by simpa using h3, by simpa using h5, by simpa using h7, fun e => hon _ _ (h8 (by simpa using e)), by simpa using h10, fun e => hon _ _ (h11 (by simpa using e)), by simpa using h13, by simpa using h14⟩
  | 7, hi =>
   cases hi
   go_simp
   exact hK _ _ ⟨HB.o, ⟨by simpa using hc0, by simpa using hc8, by simpa using hc11⟩, _, _, _, _, _, _, .func (.func 76) #[] #[], _, _, _, _, rfl, by simpa using h0, by simpa using h1, by simpa using h3, by simpa using h5, fun _ => rfl, by simpa using h8, by simpa using h10, by simpa using h11, by simpa using h13, by simpa using h14⟩
  | 8, hi =>
   cases hi
   have e7 : D 7 = true := hdep 0 _ rfl rfl
   obtain rfl := h7 e7
   have hn : D 9 = false := by
    cases hd : D 9 with
    | false => rfl
    | true => rw [hc8 hd] at hDi; cases hDi
   go_simp
   refine (only_calls W true).mono ?_
   rintro e W' ⟨hb', x, rfl, hx1, hx2⟩
   have hb'' := HB.o.trans (hb'.mono hsz)
   exact hK _ _ ⟨hb'', ⟨by simpa using hc0, fun _ => by simp, by simpa using hc11⟩, _, _, _, _, _, _, _, someFn x, _, _, _, rfl, fun e => by have h := (h0 (by simpa using e)).below hb'; simp only [hn] at h; obtain ⟨mb, m, F, g1, g2, g3, g4, g5, g6, g7, g8, g9⟩ := h; exact ⟨mb, m, F, g1, g2, by simpa [hn] using g3, g4, by simpa using g5, by simpa using g6, by simpa using g7, fun e => by simp [hn] at e, by simpa using g9⟩, by simpa using h1, by simpa using h3, by simpa using h5, by simpa using h7, fun _ => ⟨x, rfl, Nat.le_trans hsz hx1, hx2⟩, by simpa using h10, fun e => (h11 (by simpa using e)).below hb', by simpa using h13, by simpa using h14⟩
  | 9, hi =>
   cases hi
   have e0 : D 0 = true := hdep 0 _ rfl rfl
   have e8 : D 8 = true := hdep 1 _ rfl rfl
   obtain ⟨x8, rfl, hx8⟩ := h8 e8
   have hm := h0 e0
   simp only [hDi] at hm
   obtain ⟨w', mb, hr, hm', hmb, hg, hon⟩ := hm.put4
   try unfold innerFn at hr
   obtain ⟨mb', m', F', rfl, -⟩ := hm
   go_simp
   exact hK _ _ ⟨grown_base HB.o hg hmb, ⟨fun _ => by simpa using e0, by simp [e8], by simpa using hc11⟩, _, _, _, _, _, _, _, _, _, _, _, rfl, fun _ => by simpa using hm', by simpa using h1, by simpa using h3, by simpa using h5, by simpa using h7, fun e => hon _ _ (h8 (by simpa using e)), by simpa using h10, fun e => hon _ _ (h11 (by simpa using e)), by simpa using h13, by simpa using h14⟩
  | 10, hi =>
   cases hi
   go_simp
   exact hK _ _ ⟨HB.o, ⟨by simpa using hc0, by simpa using hc8, by simpa using hc11⟩, _, _, _, _, _, _, _, _, .func (.func 76) #[] #[], _, _, rfl, by simpa using h0, by simpa using h1, by simpa using h3, by simpa using h5, by simpa using h7, by simpa using h8, fun _ => rfl, by simpa using h11, by simpa using h13, by simpa using h14⟩
  | 11, hi =>
   cases hi
   have e10 : D 10 = true := hdep 0 _ rfl rfl
   obtain rfl := h10 e10
   have hn : D 12 = false := by
    cases hd : D 12 with
    | false => rfl
    | true => rw [hc11 hd] at hDi; cases hDi
   go_simp
   refine (only_calls W false).mono ?_
   rintro e W' ⟨hb', x, rfl, hx1, hx2⟩
   have hb'' := HB.o.trans (hb'.mono hsz)
   exact hK _ _ ⟨hb'', ⟨by simpa using hc0, by simpa using hc8, fun _ => by simp⟩, _, _, _, _, _, _, _, _, _, someFn x, _, rfl, fun e => by have h := (h0 (by simpa using e)).below hb'; simp only [hn] at h; obtain ⟨mb, m, F, g1, g2, g3, g4, g5, g6, g7, g8, g9⟩ := h; exact ⟨mb, m, F, g1, g2, by simpa [hn] using g3, g4, by simpa using g5, by simpa using g6, by simpa using g7, by simpa using g8, fun e => by simp [hn] at e⟩, by simpa using h1, by simpa using h3, by simpa using h5, by simpa using h7, fun e => (h8 (by simpa using e)).below hb', by simpa using h10, fun _ => ⟨x, rfl, Nat.le_trans hsz hx1, hx2⟩, by simpa using h13, by simpa using h14⟩
  | 12, hi =>
   cases hi
   have e0 : D 0 = true := hdep 0 _ rfl rfl
   have e11 : D 11 = true := hdep 1 _ rfl rfl
   obtain ⟨x11, rfl, hx11⟩ := h11 e11
   have hm := h0 e0
   simp only [hDi] at hm
   obtain ⟨w', mb, hr, hm', hmb, hg, hon⟩ := hm.put5
   try unfold innerFn at hr
   obtain ⟨mb', m', F', rfl, -⟩ := hm
   go_simp
   exact hK _ _ ⟨grown_base HB.o hg hmb, ⟨fun _ => by simpa using e0, by simpa using hc8, by simp [e11]⟩, _, _, _, _, _, _, _, _, _, _, _, rfl, fun _ => by simpa using hm', by simpa using h1, by simpa using h3, by simpa using h5, by simpa using h7, fun e => hon _ _ (h8 (by simpa using e)), by simpa using h10, fun e => hon _ _ (h11 (by simpa using e)), by simpa using h13, by simpa using h14⟩
  | 13, hi =>
   cases hi
   have e0 : D 0 = true := hdep 0 _ rfl rfl
   obtain ⟨mb', m', F', rfl, -⟩ := h0 e0
   go_simp
   exact hK _ _ ⟨HB.o, ⟨fun _ => by simpa using e0, by simpa using hc8, by simpa using hc11⟩, _, _, _, _, _, _, _, _, _, _, .map (some mb'), rfl, by simpa using h0, by simpa using h1, by simpa using h3, by simpa using h5, by simpa using h7, by simpa using h8, by simpa using h10, by simpa using h11, fun _ => rfl, by simpa using h14⟩
  | 14, hi =>
   cases hi
   have e13 : D 13 = true := hdep 0 _ rfl rfl
   have e0 := hc0 (by simp [e13])
   obtain rfl := h13 e13
   obtain ⟨mb', m', F', rfl, -⟩ := h0 e0
   go_simp
   exact hK _ _ ⟨HB.o, ⟨fun _ => by simpa using e0, by simpa using hc8, by simpa using hc11⟩, .map (some mb'), _, _, _, _, _, _, _, _, _, _, rfl, by simpa using h0, by simpa using h1, by simpa using h3, by simpa using h5, by simpa using h7, by simpa using h8, by simpa using h10, by simpa using h11, by simpa using h13, fun _ => rfl⟩
  | n + 15, hi => cases hi
 ·intro D a W hall hJ
  obtain ⟨hB, -, t0, t4, t5, t6, t7, t8, t9, t10, t11, t12, t13, rfl, h0, h1, h3, h5, h7, h8, h10, h11, h13, h14⟩ := hJ
  obtain rfl := h14 (hall 14 (by decide))
  obtain ⟨mb, m, F, rfl, -, -, hF, f1, f2, f3, f4, f5⟩ := h0 (hall 0 (by decide))
  obtain ⟨x8, rfl, -, hx8⟩ := h8 (hall 8 (by decide))
  obtain ⟨x11, rfl, -, hx11⟩ := h11 (hall 11 (by decide))
  have HW : Hid (WaysAt W mb m F) := zh ⟨hF, f1 (hall 2 (by decide)), ⟨b, f2 (hall 4 (by decide)), f3 (hall 6 (by decide)), X0.o.below hB X0.o.lt⟩, ⟨x8, f4 (hall 9 (by decide)), hx8⟩, ⟨x11, f5 (hall 12 (by decide)), hx11⟩⟩
  have HB := zh (HB0.o.trans (hB.mono HB0.o.size))
  clear hB h0 h1 h3 h5 h7 h8 h10 h11 h13 h14 hF f1 f2 f3 f4 f5 hx8 hx11
  go_wp2_with fail
  go_ret
  exact ⟨HB.o, mb, m, F, rfl, HW.o⟩
 ·exact ⟨below_drew (Below.refl _ _), ⟨by simp, by simp, by simp⟩, _, _, _, _, _, _, _, _, _, _, _, rfl, by simp, by simp, by simp, by simp, by simp, by simp, by simp, by simp, by simp, by simp⟩
end Go.Fld
namespace Go.Fld
open Go Go.RowKit Go.Proofs Go.ChangeShapes Go.WideShapes Go.ChangeAt Go.Shelf Go.Fld.Late Go.Maps
def meetB : Option (List Vl) → Option (List Vl) → Bool
 | some a, some b => decide (hashL a = hashL b) && sameK a b
 | _, _ => false
theorem meet_list (kk : List Vl) (key : Nat → Option (List Vl)) : ∀ l : List Nat, sameR kk (l.filterMap fun i => match key i with | none => none | some k2 => if hashL kk = hashL k2 then some (i, k2) else none) = l.filter fun j => meetB (some kk) (key j)
 | [] => rfl
 | j :: r => by
  have ih := meet_list kk key r
  cases hk : key j with
  | none =>
   rw [List.filterMap_cons_none (by simp [hk]), List.filter_cons_of_neg (by simp [hk, meetB])]
   exact ih
  | some k2 =>
   by_cases h1 : hashL kk = hashL k2
   ·rw [List.filterMap_cons_some (b := (j, k2)) (by simp [hk, h1])]
    by_cases h2 : sameK kk k2 = true
    ·rw [List.filter_cons_of_pos (by simp [hk, meetB, h1, h2])]
     unfold sameR at ih ⊢
     rw [List.filterMap_cons_some (b := j) (by simp [h2]), ih]
    ·rw [List.filter_cons_of_neg (by simp [hk, meetB, h2])]
     unfold sameR at ih ⊢
     rw [List.filterMap_cons_none (by simp [h2])]
     exact ih
   ·rw [List.filterMap_cons_none (by simp [hk, h1]), List.filter_cons_of_neg (by simp [hk, meetB, h1])]
    exact ih
theorem meetR_eq (L1 : List Fd) (l1 : List Dt) (K1 : List Int) (L2 : List Fd) (l2 : List Dt) (K2 : List Int) (n2 r : Nat) :
  meetR L1 l1 K1 L2 l2 K2 n2 r = (List.range n2).filter fun j => meetB (keyA L1 l1 r [] K1) (keyA L2 l2 j [] K2) := by
 unfold meetR
 generalize keyA L1 l1 r [] K1 = o
 rcases o with _ | kk
 ·symm
  rw [show meetO (groupsK L2 l2 K2 n2) none = [] from rfl, List.filter_eq_nil_iff]
  intro a _ h
  unfold meetB at h
  cases h
 ·exact meet_list kk (fun j => keyA L2 l2 j [] K2) (List.range n2)
def wayL (kind : Int) (r : Nat) (l : List Nat) : List (Int × Int) := if kind = 1 then innerW r l else if kind = 2 ∨ kind = 3 then leftW r l else if kind = 4 then someW true r l else someW false r l
def rowsL (W : Nat → List (Int × Int)) (n : Nat) : List (Int × Int) := (List.range n).flatMap W
theorem rowsL_succ (W : Nat → List (Int × Int)) (n : Nat) : rowsL W (n + 1) = rowsL W n ++ W n := by
 unfold rowsL
 rw [List.range_succ, List.flatMap_append]
 simp
theorem rowsL_len (W : Nat → List (Int × Int)) {k n : Nat} (h : k ≤ n) : (rowsL W k).length ≤ (rowsL W n).length := by
 induction n with
 | zero => rw [Nat.le_zero.1 h]; exact Nat.le_refl _
 | succ n ih =>
  by_cases e : k = n + 1
  ·rw [e]; exact Nat.le_refl _
  ·rw [rowsL_succ, List.length_append]
   have := ih (by omega)
   omega
def usedB (M : Nat → List Nat) (n j : Nat) : Bool := (List.range n).any fun r => (M r).contains j
def restL (M : Nat → List Nat) (n1 n2 : Nat) : List (Int × Int) := ((List.range n2).filter fun j => !usedB M n1 j).map fun (j : Nat) => (-1, (j : Int))
def outP (kind : Int) (M : Nat → List Nat) (n1 n2 : Nat) : List (Int × Int) := rowsL (fun r => wayL kind r (M r)) n1 ++ (if kind = 3 then restL M n1 n2 else [])
def pairsF (kind : Int) (M : Nat → List Nat) (n1 n2 : Nat) : List (Int × Int) × Int := if 4096 < (outP kind M n1 n2).length then ([], 3) else (outP kind M n1 n2, 0)
structure Sd where
 L : List Fd
 N : List (Nat × Nat)
 n : Int
 l : List Dt
 K : List Int
def Sd.key (x : Sd) (r : Nat) : Option (List Vl) := keyA x.L x.l r [] x.K
def meetS (x y : Sd) (r : Nat) : List Nat := meetR x.L x.l x.K y.L y.l y.K y.n.toNat r
theorem meetS_eq (x y : Sd) (r : Nat) : meetS x y r = (List.range y.n.toNat).filter fun j => meetB (x.key r) (y.key j) := meetR_eq _ _ _ _ _ _ _ _
noncomputable def preE (kind : Int) (x y : Sd) : Int :=
 if schemaE x.L x.N ≠ 0 ∨ schemaE y.L y.N ≠ 0 then 5 else if sideE x.L x.l x.n ≠ 0 then sideE x.L x.l x.n else if sideE y.L y.l y.n ≠ 0 then sideE y.L y.l y.n else askedE kind x.L x.K y.L y.K
noncomputable def pairsS (kind : Int) (x y : Sd) : List (Int × Int) × Int := if preE kind x y ≠ 0 then ([], preE kind x y) else pairsF kind (meetS x y) x.n.toNat y.n.toNat
theorem inner_len (r : Nat) (l : List Nat) : (innerW r l).length = l.length := by unfold innerW; rw [List.length_map]
theorem out1 (M : Nat → List Nat) (n1 n2 : Nat) : outP 1 M n1 n2 = rowsL (fun r => innerW r (M r)) n1 := by
 unfold outP
 rw [if_neg (by decide), List.append_nil]
 rfl
def WayC (w : World) (v : Value) (W : Nat → List Nat → List (Int × Int)) : Prop := ∃ (fid : FuncId) (cap : Array Value), v = .func (.func fid) #[] cap ∧ (∀ (args : Array Value) (w : World), (callFunc fid args).run Tryz.prog w = .ok (.enter fid args) w) ∧
 ∀ w', Below w.heap.size w w' → ∀ (r : Nat) (l : List Nat) (p : Option Addr) (c : Nat), M.At (fun _ => True) w' (natsM l) (.slice p l.length c) → l.length ≤ 1000000 → Calls Tryz.prog fid (#[.int .i64 r, .slice p l.length c] ++ cap) w' (PairsPost w' (W r l))
theorem ways_way {w : World} {mb m : Nat} {F : Int → Value} (h : WaysAt w mb m F) {kind : Int} (hk : 1 ≤ kind ∧ kind ≤ 5) : WayC w (F kind) (wayL kind) := by
 obtain ⟨h1, h2, ⟨b, h3, h4, h5⟩, ⟨b', h6, h7⟩, ⟨b'', h8, h9⟩⟩ := h
 have : kind = 1 ∨ kind = 2 ∨ kind = 3 ∨ kind = 4 ∨ kind = 5 := by omega
 rcases this with rfl | rfl | rfl | rfl | rfl
 ·exact ⟨74, #[], h2, enters_of Tryz.func74 (by kernel_rfl) rfl, fun w' hb r l p c hl hn => inner_calls hl hn r⟩
 ·exact ⟨75, _, h3, enters_of Tryz.func75 (by kernel_rfl) rfl, fun w' hb r l p c hl hn => left_calls (h5.below hb h5.lt) hl hn r⟩
 ·exact ⟨75, _, h4, enters_of Tryz.func75 (by kernel_rfl) rfl, fun w' hb r l p c hl hn => left_calls (h5.below hb h5.lt) hl hn r⟩
 ·exact ⟨77, _, h6, enters_of Tryz.func77 (by kernel_rfl) rfl, fun w' hb r l p c hl hn => some_calls (h7.below hb h7.lt) hl r⟩
 ·exact ⟨77, _, h8, enters_of Tryz.func77 (by kernel_rfl) rfl, fun w' hb r l p c hl hn => some_calls (h9.below hb h9.lt) hl r⟩
def pairC (x : Int × Int) : List Value := [.int .i64 x.1, .int .i64 x.2]
def pairsC (l : List (Int × Int)) : List Value := l.flatMap pairC
theorem pairsC_len (l : List (Int × Int)) : (pairsC l).length = l.length * 2 := by
 unfold pairsC
 induction l with
 | nil => rfl
 | cons x r ih => rw [List.flatMap_cons, List.length_append, ih, List.length_cons]; simp [pairC]; omega
theorem pairsC_app (l m : List (Int × Int)) : pairsC (l ++ m) = pairsC l ++ pairsC m := by unfold pairsC; rw [List.flatMap_append]
theorem pairsC_one {l : List (Int × Int)} {u : Value} (h : u ∈ pairsC l) : u.oneCell' = true := by
 unfold pairsC at h
 obtain ⟨x, -, h2⟩ := List.mem_flatMap.1 h
 unfold pairC at h2
 simp at h2
 rcases h2 with rfl | rfl <;> rfl
theorem pairs_rows {S : Nat → Prop} {w : World} {p : Option Addr} : ∀ (l : List (Int × Int)) (off : Nat), M.RowsAt S w p 2 off (l.map pairRow) → ∀ (j : Nat) (u : Value), (pairsC l)[j]? = some u → ∃ b o, p = some ⟨b, o, none⟩ ∧ w.cell? ⟨b, o + (off + j), none⟩ = some u
 | [], off, h, j, u, hj => by simp [pairsC] at hj
 | x :: r, off, h, j, u, hj => by
  rw [List.map_cons] at h
  simp only [M.RowsAt] at h
  obtain ⟨⟨b, o, cs, h1, -, h2, h3, h4⟩, h5⟩ := h
  obtain ⟨us, rfl, h6⟩ := M.AtL.one h4
  obtain ⟨us', rfl, h7⟩ := M.AtL.one h6
  have hx : pairsC (x :: r) = pairC x ++ pairsC r := by unfold pairsC; rw [List.flatMap_cons]
  rw [hx] at hj
  match j, hj with
  | 0, hj => exact ⟨b, o, h1, by have := h3 0 u (by simpa [pairC] using hj); simpa using this⟩
  | 1, hj => exact ⟨b, o, h1, by have := h3 1 u (by simpa [pairC] using hj); simpa [Nat.add_assoc] using this⟩
  | j + 2, hj =>
   obtain ⟨b', o', e, h8⟩ := pairs_rows r (off + 2) h5 j u (by simpa [pairC] using hj)
   exact ⟨b', o', e, by rwa [show o' + (off + (j + 2)) = o' + (off + 2 + j) by omega]⟩
theorem pairs_src {S : Nat → Prop} {w : World} {l : List (Int × Int)} {q : Option Addr} {n c : Nat} (h : M.At S w (pairsM l) (.slice q n c)) (hl : l ≠ []) : ∃ b o, q = some ⟨b, o, none⟩ ∧ ∀ (j : Nat) (u : Value), (pairsC l)[j]? = some u → w.cell? ((⟨b, o, none⟩ : Addr).add j) = some u := by
 obtain ⟨p', cap, e, h1, h2⟩ := M.At.slice h
 cases e
 have hpos : 0 < (pairsC l).length := by
  rw [pairsC_len]
  have := List.length_pos_iff.2 hl
  omega
 obtain ⟨b, o, rfl, -⟩ := pairs_rows l 0 h2 0 _ (List.getElem?_eq_getElem hpos)
 refine ⟨b, o, rfl, fun j u hj => ?_⟩
 obtain ⟨b', o', e, h4⟩ := pairs_rows l 0 h2 j u hj
 cases e
 rw [Open.add_plain]
 rwa [Nat.zero_add] at h4
theorem pairs_of_row {W : World} {base n : Nat} {l : List (Int × Int)} {q : Option Addr} {c : Nat} (h : W.ownsRow base 44 2 (.slice q n c) n (pairsC l)) (hn : l.length = n) : M.At (fun b => base ≤ b) W (pairsM l) (.slice q n c) := by
 subst hn
 rcases h.2 with ⟨e, hn⟩ | ⟨g, cap, cur, e, hb, hg, hc1, hc2, hsz, htk⟩
 ·have : l = [] := List.eq_nil_of_length_eq_zero hn
  subst this
  injection e with e1 e2 e3
  subst e1
  subst e3
  exact M.At.nil _ _ 2
 ·cases e
  have := M.At.of (S := fun b => base ≤ b) (w := W) (sz := 2) (rows := l.map pairRow) (p := some ⟨g, 0, none⟩) (cap := c) (by rw [List.length_map]; exact ⟨hc1, hc2⟩) (M.RowsAt.mk (by decide) fun i hi => ?_)
  ·rwa [List.length_map] at this
  ·have hi' : i < l.length := by simpa using hi
   rw [List.getElem_map]
   refine ⟨g, 0, pairC l[i], rfl, hb, rfl, fun j u hj => ?_, M.AtL.cons M.At.one (M.AtL.cons M.At.one M.AtL.nil)⟩
   have hj2 : j < 2 := (List.getElem?_eq_some_iff.1 hj).1
   have hflat : ∀ (m : List (Int × Int)) (i : Nat) (hi : i < m.length) (j : Nat), j < 2 → (pairsC m)[i * 2 + j]? = (pairC m[i])[j]? := by
    intro m
    induction m with
    | nil => intro i hi; simp at hi
    | cons x r ih =>
     intro i hi j hj
     have hx : pairsC (x :: r) = pairC x ++ pairsC r := by unfold pairsC; rw [List.flatMap_cons]
     rw [hx]
     cases i with
     | zero => rw [Nat.zero_mul, Nat.zero_add, List.getElem?_append_left (by simpa [pairC] using hj)]; rfl
     | succ i =>
      rw [List.getElem?_append_right (by simp [pairC]; omega)]
      have := ih i (by simpa using hi) j hj
      rw [List.getElem_cons_succ, ← this]
      congr 1
      simp [pairC]
      omega
   have h9 := h.cells (g := g) rfl (i * 2 + j) u (by rw [hflat l i hi' j hj2]; exact hj)
   rw [Open.add_plain] at h9
   rwa [show 0 + (0 + i * 2) + j = 0 + (i * 2 + j) by omega]
def boolL (n : Nat) (B : Nat → Bool) : List Value := (List.range n).map fun j => .bool (B j)
def BoolsAt (w : World) (ub n : Nat) (B : Nat → Bool) : Prop := BoxN w ub 4 (boolL n B)
theorem BoolsAt.get {w : World} {ub n : Nat} {B : Nat → Bool} (h : BoolsAt w ub n B) {j : Nat} (hj : j < n) : w.cell? ⟨ub, j, none⟩ = some (.bool (B j)) := by
 have := BoxN.row h j (.bool (B j)) (by unfold boolL; rw [List.getElem?_map, List.getElem?_range hj]; rfl)
 simpa using this
theorem BoolsAt.frozen {w : World} {ub n : Nat} {B : Nat → Bool} (h : BoolsAt w ub n B) (j : Nat) : w.frozen? ⟨ub, j, none⟩ = false := BoxN.frozen h _
theorem BoolsAt.set {w : World} {ub n : Nat} {B : Nat → Bool} (h : BoolsAt w ub n B) (x : Nat) : BoolsAt (w.setCell ⟨ub, x, none⟩ (.bool true)) ub n (fun j => B j || decide (j = x)) := by
 have := BoxN.set h x (.bool true)
 unfold BoolsAt
 have e : (boolL n B).set x (.bool true) = boolL n (fun j => B j || decide (j = x)) := by
  apply List.ext_getElem
  ·simp [boolL]
  ·intro i h1 h2
   unfold boolL at h1 h2 ⊢
   rw [List.getElem_set]
   by_cases e : x = i
   ·rw [if_pos e]; simp; right; omega
   ·rw [if_neg e]
    simp
    have : ¬ i = x := by omega
    simp [this]
 rw [← e]
 exact this
theorem BoolsAt.congr {w : World} {ub n : Nat} {B C : Nat → Bool} (h : BoolsAt w ub n B) (e : ∀ j, B j = C j) : BoolsAt w ub n C := by rw [← funext e]; exact h
theorem BoolsAt.kept {w w' : World} {ub n : Nat} {B : Nat → Bool} {row : Option Nat} (h : BoolsAt w ub n B) (hg : w.grownBy w' row) (hne : some ub ≠ row) : BoolsAt w' ub n B := BoxN.kept h hg hne
theorem BoolsAt.below {w w' : World} {ub n : Nat} {B : Nat → Bool} (h : BoolsAt w ub n B) (hb : Below w.heap.size w w') : BoolsAt w' ub n B := BoxN.below h hb (BoxN.lt h)
theorem usedB_succ (M : Nat → List Nat) (k j : Nat) : usedB M (k + 1) j = (usedB M k j || (M k).contains j) := by
 unfold usedB
 rw [List.range_succ, List.any_append]
 simp
theorem take_contains {l : List Nat} {k : Nat} (h : k < l.length) (j : Nat) : (l.take (k + 1)).contains j = ((l.take k).contains j || decide (j = l[k])) := by
 rw [List.take_succ_eq_append_getElem h, Bool.eq_iff_iff]
 simp only [List.contains_iff_mem, List.mem_append, List.mem_singleton, Bool.or_eq_true, decide_eq_true_eq]
@[local go_sem] theorem run_make71 (W : World) (n : Nat) (h : n ≤ 4096) : (Instr.makeSlice 71 (.int .i64 (n : Int)) (.int .i64 (n : Int))).run Tryz.prog W = .ok (.slice (some ⟨W.heap.size, 0, none⟩) n n) (W.alloc (.cells (Array.replicate n (.bool false)) 4)) := by
 rw [← List.toArray_replicate]
 obtain ⟨i, hi, hz, hs, hb⟩ : ∃ i, Tryz.prog.info? 4 = some i ∧ i.zero = some (.bool false) ∧ i.size = 1 ∧ i.bytes = 1 := ⟨_, rfl, rfl, rfl, rfl⟩
 have h1 := run_make (P := Tryz.prog) W 71 4 i (.bool false) (show Tryz.prog.underlying 71 = some (.slice 4) by kernel_rfl) hi hz .i64 .i64 (n : Int) (n : Int) (by omega) (Int.le_refl _) (by rw [hb]; omega) (by omega)
 rw [h1, Int.toNat_natCast, hs]
 have h2 : madeCells (Value.cells (.bool false)) (n * 1) = (List.replicate n (Value.bool false)).toArray := by
  apply Array.ext
  ·simp [size_madeCells]
  ·intro i h1 h2
   simp [madeCells, Value.cells, Nat.mod_one]
 rw [h2]
theorem bools_new (W : World) (n : Nat) : BoolsAt (W.alloc (.cells (Array.replicate n (.bool false)) 4)) W.heap.size n (fun _ => false) := by
 rw [← List.toArray_replicate]
 unfold BoolsAt
 have : boolL n (fun _ => false) = List.replicate n (.bool false) := by
  unfold boolL
  rw [List.map_const', List.length_range]
 rw [this]
 exact BoxN.new W 4 _
def PairsRes (w : World) (l : List (Int × Int)) (er : Int) (e : Ending) (w' : World) : Prop := Below w.heap.size w w' ∧ ∃ q c, e = .returned (.tuple #[.slice q l.length c, .int .i64 er]) ∧ M.At (fun b => w.heap.size ≤ b) w' (pairsM l) (.slice q l.length c)
end Go.Fld
namespace Go.Fld
open Go Go.RowKit Go.Proofs Go.ChangeShapes Go.WideShapes Go.ChangeAt Go.Shelf Go.Fld.Late Go.Maps
def inL (M : Nat → List Nat) (n : Nat) : List (Int × Int) := rowsL (fun r => innerW r (M r)) n
def leL (M : Nat → List Nat) (n : Nat) : List (Int × Int) := rowsL (fun r => leftW r (M r)) n
def smL (b : Bool) (M : Nat → List Nat) (n : Nat) : List (Int × Int) := rowsL (fun r => someW b r (M r)) n
theorem out2 (M : Nat → List Nat) (n1 n2 : Nat) : outP 2 M n1 n2 = leL M n1 := by
 unfold outP
 rw [if_neg (by decide), List.append_nil]; rfl
theorem out3 (M : Nat → List Nat) (n1 n2 : Nat) : outP 3 M n1 n2 = leL M n1 ++ restL M n1 n2 := by
 unfold outP
 rw [if_pos rfl]; rfl
theorem out4 (M : Nat → List Nat) (n1 n2 : Nat) : outP 4 M n1 n2 = smL true M n1 := by
 unfold outP
 rw [if_neg (by decide), List.append_nil]; rfl
theorem out5 (M : Nat → List Nat) (n1 n2 : Nat) : outP 5 M n1 n2 = smL false M n1 := by
 unfold outP
 rw [if_neg (by decide), List.append_nil]; rfl
theorem someW_len (b : Bool) (r : Nat) (l : List Nat) : (someW b r l).length = if decide (0 < l.length) = b then 1 else 0 := by
 unfold someW; split <;> rfl
theorem smL_len (M : Nat → List Nat) : ∀ n, (smL true M n).length + (smL false M n).length = n
 | 0 => rfl
 | n + 1 => by
  have ih := smL_len M n
  unfold smL at ih ⊢
  rw [rowsL_succ, rowsL_succ, List.length_append, List.length_append, someW_len, someW_len]
  by_cases h : decide (0 < (M n).length) = true
  ·rw [if_pos h, if_neg (by rw [h]; decide)]; omega
  ·have h' : decide (0 < (M n).length) = false := by simpa using h
   rw [if_neg h, if_pos h']; omega
theorem in_le (M : Nat → List Nat) : ∀ n, (inL M n).length ≤ (leL M n).length
 | 0 => Nat.le_refl _
 | n + 1 => by
  have ih := in_le M n
  unfold inL leL at ih ⊢
  rw [rowsL_succ, rowsL_succ, List.length_append, List.length_append, inner_len]
  have : (M n).length ≤ (leftW n (M n)).length := by
   unfold leftW
   split
   ·simp; omega
   ·rw [inner_len]; exact Nat.le_refl _
  omega
theorem asked_kind {k : Int} (h : 1 ≤ k ∧ k ≤ 5) (L1 : List Fd) (K1 : List Int) (L2 : List Fd) (K2 : List Int) : askedE k L1 K1 L2 K2 = askedE 1 L1 K1 L2 K2 := by
 unfold askedE
 rw [if_neg (by omega), if_neg (show ¬ ((1 : Int) < 1 ∨ (5 : Int) < 1) by omega)]
theorem preE_kind {k : Int} (h : 1 ≤ k ∧ k ≤ 5) (x y : Sd) : preE k x y = preE 1 x y := by
 unfold preE
 rw [asked_kind h]
def chainP : Int → List (Int × Int) → Prop
 | _, [] => True
 | s, p :: r => (s ≤ p.1 ∧ p.1 ≤ s + 1) ∧ chainP p.1 r
def lastR : Int → List (Int × Int) → Int
 | s, [] => s
 | _, p :: r => lastR p.1 r
theorem chainP_app : ∀ (l m : List (Int × Int)) (s : Int), chainP s l → chainP (lastR s l) m → chainP s (l ++ m)
 | [], m, s, _, h => h
 | p :: r, m, s, h, h2 => ⟨h.1, chainP_app r m p.1 h.2 h2⟩
theorem lastR_app : ∀ (l m : List (Int × Int)) (s : Int), lastR s (l ++ m) = lastR (lastR s l) m
 | [], m, s => rfl
 | p :: r, m, s => lastR_app r m p.1
theorem chain_same {r : Int} : ∀ {l : List (Int × Int)}, (∀ p ∈ l, p.1 = r) → chainP r l ∧ lastR r l = r
 | [], _ => ⟨trivial, rfl⟩
 | p :: l, h => by
  have h1 := h p (by simp)
  have h2 := chain_same (l := l) (fun q hq => h q (by simp [hq]))
  unfold chainP lastR
  rw [h1]
  exact ⟨⟨by omega, h2.1⟩, h2.2⟩
theorem chain_row {r : Int} {l : List (Int × Int)} (hl : l ≠ []) (h : ∀ p ∈ l, p.1 = r) : chainP (r - 1) l ∧ lastR (r - 1) l = r := by
 cases l with
 | nil => exact absurd rfl hl
 | cons p l =>
  have h1 := h p (by simp)
  have h2 := chain_same (l := l) (r := r) (fun q hq => h q (by simp [hq]))
  unfold chainP lastR
  rw [h1]
  exact ⟨⟨by omega, h2.1⟩, h2.2⟩
theorem leftW_row (r : Nat) (l : List Nat) : leftW r l ≠ [] ∧ ∀ p ∈ leftW r l, p.1 = (r : Int) := by
 unfold leftW
 split
 ·exact ⟨by simp, fun p hp => by rw [List.mem_singleton.1 hp]⟩
 ·rename_i h
  refine ⟨fun e => h ?_, fun p hp => ?_⟩
  ·have := congrArg List.length e
   rwa [inner_len] at this
  ·unfold innerW at hp
   obtain ⟨x, -, rfl⟩ := List.mem_map.1 hp
   rfl
theorem leL_chain (M : Nat → List Nat) : ∀ n : Nat, chainP (-1) (leL M n) ∧ lastR (-1) (leL M n) = (n : Int) - 1
 | 0 => ⟨trivial, rfl⟩
 | n + 1 => by
  obtain ⟨h1, h2⟩ := leL_chain M n
  unfold leL at h1 h2 ⊢
  obtain ⟨h3, h4⟩ := leftW_row n (M n)
  obtain ⟨h5, h6⟩ := chain_row h3 h4
  rw [rowsL_succ]
  refine ⟨chainP_app _ _ _ h1 (by rw [h2]; exact h5), ?_⟩
  rw [lastR_app, h2, h6]
  omega
def keepP (l : List (Int × Int)) : List (Int × Int) := l.filter fun p => decide (0 ≤ p.2)
theorem keepP_left (r : Nat) (l : List Nat) : keepP (leftW r l) = innerW r l := by
 unfold keepP leftW
 split
 ·rename_i h
  have : l = [] := List.eq_nil_of_length_eq_zero h
  subst this
  rfl
 ·rw [List.filter_eq_self]
  intro p hp
  unfold innerW at hp
  obtain ⟨x, -, rfl⟩ := List.mem_map.1 hp
  simp
theorem keepP_leL (M : Nat → List Nat) : ∀ n, keepP (leL M n) = inL M n
 | 0 => rfl
 | n + 1 => by
  have ih := keepP_leL M n
  have h := keepP_left n (M n)
  unfold keepP leL inL at *
  rw [rowsL_succ, rowsL_succ, List.filter_append, ih, h]
theorem leL_anti (M : Nat → List Nat) : ∀ n, ∀ p ∈ leL M n, p.2 < 0 → p ∈ smL false M n
 | 0, p, hp, _ => by simp [leL, rowsL] at hp
 | n + 1, p, hp, h0 => by
  unfold leL at hp
  unfold smL
  rw [rowsL_succ] at hp ⊢
  rcases List.mem_append.1 hp with h | h
  ·exact List.mem_append_left _ (leL_anti M n p h h0)
  ·refine List.mem_append_right _ ?_
   unfold leftW at h
   split at h
   ·rename_i hz
    unfold someW
    rw [if_pos (by rw [hz]; rfl)]
    exact h
   ·unfold innerW at h
    obtain ⟨x, -, rfl⟩ := List.mem_map.1 h
    have : ((x : Nat) : Int) < 0 := h0
    omega
theorem rowsL_get {W : Nat → List (Int × Int)} {r n : Nat} (h : r < n) {p : Int × Int} {t : List (Int × Int)} (hp : W r = p :: t) : (rowsL W n)[(rowsL W r).length]? = some p := by
 induction n with
 | zero => omega
 | succ n ih =>
  rw [rowsL_succ]
  by_cases e : r = n
  ·subst e
   rw [List.getElem?_append_right (Nat.le_refl _), Nat.sub_self, hp]
   rfl
  ·have h1 := ih (by omega)
   have h2 := (List.getElem?_eq_some_iff.1 h1).1
   rw [List.getElem?_append_left h2]
   exact h1
theorem rowsL_none {W : Nat → List (Int × Int)} (hW : ∀ r, ∀ p ∈ W r, p.1 = (r : Int)) {r n : Nat} (h : r < n) (hp : W r = []) {p : Int × Int} (hg : (rowsL W n)[(rowsL W r).length]? = some p) : (r : Int) < p.1 := by
 have key : ∀ n, r < n → ∀ j p, (rowsL W n)[(rowsL W r).length + j]? = some p → (r : Int) < p.1 := by
  intro n
  induction n with
  | zero => intro h; omega
  | succ n ih =>
   intro h j p hg
   rw [rowsL_succ] at hg
   by_cases e : r = n
   ·subst e
    rw [hp, List.append_nil] at hg
    have := (List.getElem?_eq_some_iff.1 hg).1
    omega
   ·by_cases h2 : (rowsL W r).length + j < (rowsL W n).length
    ·rw [List.getElem?_append_left h2] at hg
     exact ih (by omega) j p hg
    ·rw [List.getElem?_append_right (by omega)] at hg
     have := hW n p (List.mem_of_getElem? hg)
     omega
 exact key n h 0 p hg
theorem someW_row (b : Bool) (r : Nat) (l : List Nat) : ∀ p ∈ someW b r l, p.1 = (r : Int) := by
 intro p hp
 unfold someW at hp
 split at hp
 ·rw [List.mem_singleton.1 hp]
 ·cases hp
theorem used_in (M : Nat → List Nat) : ∀ (n j : Nat), usedB M n j = (inL M n).any fun p => decide (p.2 = (j : Int))
 | 0, j => rfl
 | n + 1, j => by
  have ih := used_in M n j
  unfold usedB inL at ih ⊢
  rw [rowsL_succ, List.any_append, List.range_succ, List.any_append, ih]
  congr 1
  simp only [List.any_cons, List.any_nil, Bool.or_false]
  unfold innerW
  rw [List.any_map]
  rw [Bool.eq_iff_iff]
  simp only [List.contains_iff_mem, List.any_eq_true, Function.comp, decide_eq_true_eq]
  constructor
  ·intro h; exact ⟨j, h, rfl⟩
  ·rintro ⟨x, hx, e⟩
   have : x = j := by omega
   rw [← this]; exact hx
theorem inL_range {M : Nat → List Nat} {n2 : Nat} (hM : ∀ r, ∀ x ∈ M r, x < n2) : ∀ n, ∀ p ∈ inL M n, 0 ≤ p.2 ∧ p.2 < (n2 : Int)
 | 0, p, hp => by simp [inL, rowsL] at hp
 | n + 1, p, hp => by
  unfold inL at hp
  rw [rowsL_succ] at hp
  rcases List.mem_append.1 hp with h | h
  ·exact inL_range hM n p h
  ·unfold innerW at h
   obtain ⟨x, hx, rfl⟩ := List.mem_map.1 h
   have := hM n x hx
   show 0 ≤ ((x : Nat) : Int) ∧ ((x : Nat) : Int) < n2
   omega
def freeL (B : Nat → Bool) (n : Nat) : List (Int × Int) := ((List.range n).filter fun j => !B j).map fun (j : Nat) => (-1, (j : Int))
theorem restL_free (M : Nat → List Nat) (n1 n2 : Nat) : restL M n1 n2 = freeL (usedB M n1) n2 := rfl
theorem freeL_succ (B : Nat → Bool) (r : Nat) : freeL B (r + 1) = freeL B r ++ if B r = true then [] else [(-1, (r : Int))] := by
 unfold freeL
 rw [List.range_succ, List.filter_append, List.map_append]
 congr 1
 by_cases h : B r = true
 ·simp [h]
 ·simp [h]
theorem freeL_get {B : Nat → Bool} {r n : Nat} (h : r < n) (hB : B r = false) : (freeL B n)[(freeL B r).length]? = some (-1, (r : Int)) := by
 induction n with
 | zero => omega
 | succ n ih =>
  rw [freeL_succ]
  by_cases e : r = n
  ·subst e
   rw [List.getElem?_append_right (Nat.le_refl _), Nat.sub_self, hB]
   rfl
  ·have h1 := ih (by omega)
   have h2 := (List.getElem?_eq_some_iff.1 h1).1
   rw [List.getElem?_append_left h2]
   exact h1
theorem row_below {w w' : World} {base : Nat} {e : TypeId} {size : Nat} {v : Value} {n : Nat} {xs : List Value} (h : w.ownsRow base e size v n xs) (hb : Below w.heap.size w w') : w'.ownsRow base e size v n xs :=
 h.kept (row := none) (grown_of hb none) (by
  rcases h.2 with ⟨e, _⟩ | ⟨g, c, cur, e, _⟩
  ·rw [e]; exact .inl rfl
  ·rw [e]; exact .inr (by simp [Value.ownBlock]))
theorem row_past {w w' : World} {base ub : Nat} {e : TypeId} {size : Nat} {v : Value} {n : Nat} {xs : List Value} (h : w.ownsRow base e size v n xs) (hg : w.grownBy w' (some ub)) (hub : ub < base) : w'.ownsRow base e size v n xs :=
 h.kept hg (by
  rcases hv : v.ownBlock with _ | g
  ·exact .inl rfl
  ·right
   intro e
   injection e with e
   have := (h.lt g hv).1
   omega)
theorem wayL_len {kind : Int} {r : Nat} {l : List Nat} : (wayL kind r l).length ≤ l.length + 1 := by
 unfold wayL
 split
 ·rw [inner_len]; omega
 split
 ·unfold leftW; split
  ·simp
  ·rw [inner_len]; omega
 split
 ·unfold someW; split <;> simp
 ·unfold someW; split <;> simp
set_option maxHeartbeats 16000000 in
theorem opairs_calls {w : World} {m1 ba1 sx m2 ba2 sy : Nat} {L1 L2 : List Fd} {l1 l2 : List Dt} {K1 K2 : List Int} {f1 v1 k1 f2 v2 k2 : Value} {n1 n2 : Nat}
  (hs1 : SideAt m1 ba1 w sx L1 l1 f1 v1 k1 n1) (hK1 : IntsAt w K1 k1) (hR1 : SideR L1 l1 n1) (hin1 : ∀ c ∈ K1, 0 ≤ c ∧ c < l1.length) (hKl1 : K1.length ≤ 1000000000)
  (hs2 : SideAt m2 ba2 w sy L2 l2 f2 v2 k2 n2) (hK2 : IntsAt w K2 k2) (hR2 : SideR L2 l2 n2) (hin2 : ∀ c ∈ K2, 0 ≤ c ∧ c < l2.length) (hKl2 : K2.length ≤ 1000000000)
  (hT : Lib.Utf8Tabs 1 2 w) (kind : Int) (hkind : 1 ≤ kind ∧ kind ≤ 5) :
  Calls Tryz.prog 54 #[.int .i64 kind, .pointer (some ⟨sx, 0, none⟩), .pointer (some ⟨sy, 0, none⟩)] w
   (PairsRes w (pairsF kind (fun r => meetR L1 l1 K1 L2 l2 K2 n2 r) n1 n2).1 (pairsF kind (fun r => meetR L1 l1 K1 L2 l2 K2 n2 r) n1 n2).2) := by
 have hn1 := hR1.few
 have hn2 := hR2.few
 obtain ⟨Mt, hM⟩ : ∃ Mt, Mt = fun r => meetR L1 l1 K1 L2 l2 K2 n2 r := ⟨_, rfl⟩
 have HMR : Hid (∀ r, (Mt r).length ≤ n2 ∧ ∀ x ∈ Mt r, x < n2) := zh (by
  intro r; rw [hM]; dsimp only; rw [meetR_eq]
  exact ⟨Nat.le_trans (List.length_filter_le _ _) (by simp), fun x hx => List.mem_range.1 (List.mem_filter.1 hx).1⟩)
 have HMD : Hid (∀ r, meetR L1 l1 K1 L2 l2 K2 n2 r = Mt r) := zh (fun r => by rw [hM])
 rw [← hM]
 clear hM
 obtain ⟨WF, hWF⟩ : ∃ WF : Nat → List (Int × Int), WF = fun r => wayL kind r (Mt r) := ⟨_, rfl⟩
 have HWF : Hid (∀ r, WF r = wayL kind r (Mt r)) := zh (fun r => by rw [hWF])
 obtain ⟨RL, hRL⟩ : ∃ RL, RL = (pairsF kind Mt n1 n2).1 := ⟨_, rfl⟩
 obtain ⟨RE, hRE⟩ : ∃ RE, RE = (pairsF kind Mt n1 n2).2 := ⟨_, rfl⟩
 have HBAD : Hid (∀ k, k ≤ n1 → 4096 < (rowsL WF k).length → RL = [] ∧ RE = 3) := zh (fun k hk h => by
  have h1 : 4096 < (outP kind Mt n1 n2).length := by
   unfold outP
   rw [← hWF, List.length_append]
   have := rowsL_len WF hk
   omega
  rw [hRL, hRE]; unfold pairsF; rw [if_pos h1]; exact ⟨rfl, rfl⟩)
 have HBAD2 : Hid (kind = 3 → 4096 < (rowsL WF n1 ++ restL Mt n1 n2).length → RL = [] ∧ RE = 3) := zh (fun hk h => by
  have h1 : 4096 < (outP kind Mt n1 n2).length := by
   unfold outP
   rw [← hWF, if_pos hk]
   exact h
  rw [hRL, hRE]; unfold pairsF; rw [if_pos h1]; exact ⟨rfl, rfl⟩)
 have HOK3 : Hid (kind = 3 → (rowsL WF n1 ++ restL Mt n1 n2).length ≤ 4096 → RL = rowsL WF n1 ++ restL Mt n1 n2 ∧ RE = 0) := zh (fun hk h => by
  have h1 : outP kind Mt n1 n2 = rowsL WF n1 ++ restL Mt n1 n2 := by unfold outP; rw [← hWF, if_pos hk]
  rw [hRL, hRE]; unfold pairsF; rw [h1, if_neg (by omega)]; exact ⟨rfl, rfl⟩)
 have HOK : Hid (¬ kind = 3 → (rowsL WF n1).length ≤ 4096 → RL = rowsL WF n1 ∧ RE = 0) := zh (fun hk h => by
  have h1 : outP kind Mt n1 n2 = rowsL WF n1 := by unfold outP; rw [← hWF, if_neg hk, List.append_nil]
  rw [hRL, hRE]; unfold pairsF; rw [h1, if_neg (by omega)]; exact ⟨rfl, rfl⟩)
 rw [← hRL, ← hRE]
 clear hRL hRE hWF
 have HS1 := zh hs1
 have HK1 := zh hK1
 have HR1 := zh hR1
 have HIN1 := zh (And.intro hin1 hKl1)
 have HS2 := zh hs2
 have HK2 := zh hK2
 have HR2 := zh hR2
 have HIN2 := zh (And.intro hin2 hKl2)
 have HT := zh hT
 have HKI := zh hkind
 have HKB : Hid ((Lit.int IntKind.i64 kind).wf = true) := zh (by
  obtain ⟨a, b⟩ := hkind
  simp [Lit.wf, IntKind.min, IntKind.max, IntKind.signed, IntKind.bits]; omega)
 have HZ : Hid (∀ w : World, (zeroValue 117).run Tryz.prog w = .ok .nilFunc w) := zh (fun w => by kernel_rfl)
 clear hs1 hK1 hR1 hin1 hKl1 hs2 hK2 hR2 hin2 hKl2 hT hkind
 go_enter Tryz.func54, Tryz.ntmps54
 go_wp2_with fail
 obtain ⟨Wd, hWd⟩ : ∃ Wd, Wd = w.drew := ⟨_, rfl⟩
 have HBd : Hid (Below w.heap.size w Wd) := zh (by rw [hWd]; exact below_drew (Below.refl _ _))
 refine Late.region (fun _ => True) (fun _ => false) (by kernel_rfl) ?_
 rw [← hWd]
 clear hWd
 refine Late.tk (i := 0) (v := ?_) rfl (by kernel_rfl) ⟨by kernel_rfl, ?_⟩ trivial ?_
 rotate_left
 ·intro w' hS
  clear hS
  go_simp
  rfl
 refine Late.tk (i := 1) (v := ?_) rfl (by kernel_rfl) ⟨by kernel_rfl, ?_⟩ trivial ?_
 rotate_left
 ·intro w' hS
  clear hS
  go_simp
  rfl
 refine Late.tk (i := 4) (v := ?_) rfl (by kernel_rfl) ⟨by kernel_rfl, ?_⟩ trivial ?_
 rotate_left
 ·intro w' hS
  clear hS
  go_simp
  rfl
 refine Late.one (i := 2) (by kernel_rfl) rfl (fun K hK => ?_)
 go_simp
 refine (meets_calls (sx := sx) (HS2.o.below HBd.o) (HK2.o.below HBd.o) HR2.o (Utf8Tabs_below HT.o HBd.o) HIN2.o.1 HIN2.o.2).mono ?_
 rintro e W1 ⟨b2, b5, mb, bG, m, F, rfl, hx2, hx5, hF, hG, hb1⟩
 have HX2 := zh hx2
 have HX5 := zh hx5
 have HF := zh hF
 have HG := zh hG
 have HB1 := zh (HBd.o.trans (hb1.mono HBd.o.size))
 clear hx2 hx5 hF hG hb1
 refine hK _ _ (fun _ => trivial) ?_
 clear hK K
 refine Late.one (i := 3) (by kernel_rfl) rfl (fun K hK => ?_)
 go_simp
 refine (ways_calls W1).mono ?_
 rintro e W2 ⟨hb2, mw, mm, FW, rfl, hways⟩
 have HX2 := zh (HX2.o.below hb2 HX2.o.lt)
 have HX5 := zh (HX5.o.below hb2 HX5.o.lt)
 have HF := zh (HF.o.below hb2)
 have HG := zh (HG.o.below hb2)
 have HB2 := zh (HB1.o.trans (hb2.mono HB1.o.size))
 obtain ⟨fid, cap, hFW, henter, hway⟩ := ways_way hways HKI.o
 have HWAY := zh hway
 have hlook := hways.1.look und3' und118 (HZ.o W2) HKB.o
 rw [hFW] at hlook
 clear hb2 hways hFW hway
 refine hK _ _ (fun _ => trivial) ?_
 clear hK K
 refine Late.tk (i := 6) (v := ?_) rfl (by kernel_rfl) ⟨by kernel_rfl, ?_⟩ trivial ?_
 rotate_left
 ·intro w' hS
  clear hS
  go_simp
  rfl
 refine Late.one (i := 5) (by kernel_rfl) rfl (fun K hK => ?_)
 go_simp
 refine hK _ _ (fun _ => trivial) ?_
 clear hK K hlook
 refine Late.one (i := 7) (by kernel_rfl) rfl (fun K hK => ?_)
 go_simp
 refine hK _ _ (fun _ => trivial) ?_
 clear hK K
 refine Late.done (by kernel_rfl) ?_ _
 go_simp
 have hmk : ∀ W : World, (Instr.makeSlice 71 (.int .i64 (n2 : Int)) (.int .i64 (n2 : Int))).run Tryz.prog W = .ok (.slice (some ⟨W.heap.size, 0, none⟩) n2 n2) (W.alloc (.cells (Array.replicate n2 (.bool false)) 4)) := fun W => run_make71 W n2 hn2
 obtain ⟨nb2, p2, cq2, bs2, -, hbx2, -⟩ := (HS2.o.below HB2.o).at'
 have y4 := hbx2.row 4 _ rfl
 have hly := hbx2.lt
 obtain ⟨nb1, p1, cq1, bs1, -, hbx1, -⟩ := (HS1.o.below HB2.o).at'
 have x4 := hbx1.row 4 _ rfl
 have hlx := hbx1.lt
 clear hbx1 hbx2
 go_wp2_with fail
 clear hmk y4 x4
 obtain ⟨W3, hW3⟩ : ∃ W3, W3 = W2.alloc (.cells (Array.replicate n2 (.bool false)) 4) := ⟨_, rfl⟩
 obtain ⟨ub, hub⟩ : ∃ ub, ub = W2.heap.size := ⟨_, rfl⟩
 have hsz3 : W3.heap.size = ub + 1 := by rw [hW3, World.size_alloc, hub]
 have HU3 : Hid (BoolsAt W3 ub n2 (usedB Mt 0)) := zh (by rw [hW3, hub]; exact (bools_new W2 n2).congr fun j => rfl)
 have HB3 : Hid (Below W2.heap.size W2 W3) := zh (by rw [hW3]; exact (Below.refl _ W2).alloc (Nat.le_refl _) _)
 have HUB := zh hub
 rw [← hW3, ← hub]
 clear hW3 hub
 have HSX1 := zh (HS1.o.below HB2.o)
 have HSK1 := zh (HK1.o.below HB2.o)
 have HT2 := zh (Utf8Tabs_below HT.o HB2.o)
 clear HS1 HK1 HS2 HK2 HT hlx hly
 obtain ⟨i1, z1, hi1, hz1, hzc1, hsz1, hby1⟩ := info44_parts
 go_loopw [11, 33] (fun o i wr => ∃ (k len : Nat) (q : Option Addr) (c' : Nat), k ≤ n1 ∧ len ≤ 4096 ∧ o = .slice q len c' ∧ i = .int .i64 k ∧ Hid ((rowsL WF k).length = len) ∧ Hid (wr.ownsRow W3.heap.size 44 2 (.slice q len c') len (pairsC (rowsL WF k))) ∧ Hid (BoolsAt wr ub n2 (usedB Mt k)) ∧ Hid (W3.grownBy wr (some ub))) (fun _ i _ => n1 - (intOf i).toNat)
 case atStart => exact ⟨0, 0, none, 0, by omega, by omega, rfl, rfl, zh rfl, zh (World.ownsRow_nil _ _ _ _), HU3, zh (World.grownBy.refl _ _)⟩
 case round =>
  obtain ⟨k, len, q, c', hk, hlen, rfl, rfl, HJ, HO, HU, HGB⟩ := hrel
  obtain ⟨wo, hwo⟩ : ∃ wo, wo = wr := ⟨_, rfl⟩
  subst hwo
  have hwr : ub + 1 ≤ wo.heap.size := by have := HGB.o.size; omega
  have HBR : Hid (Below W2.heap.size W2 wo) := zh (grown_base HB3.o HGB.o (by have := HUB.o; omega))
  by_cases hlt : k < n1
  ·have hc := meet_calls (HSX1.o.below HBR.o) (HSK1.o.below HBR.o) HR1.o (Utf8Tabs_below HT2.o HBR.o) HIN1.o.1 HIN1.o.2 (HX2.o.below HBR.o HX2.o.lt) (HX5.o.below HBR.o HX5.o.lt) (HF.o.below HBR.o) (HG.o.below HBR.o) hn2 k hlt
   rw [HMD.o k] at hc
   have HC := zh hc
   obtain ⟨hm1, hm2⟩ := HMR.o k
   have HW1 := zh (HWF.o k)
   have HUS := zh (usedB_succ Mt k)
   obtain ⟨mk, hmk⟩ : ∃ mk, mk = Mt k := ⟨_, rfl⟩
   rw [← hmk] at HC hm1 hm2 HW1 HUS
   have HM2 := zh hm2
   have hm3 : mk.length ≤ 4096 := by omega
   clear hc hmk hm2 hm1
   go_wp2_with fail
   refine HC.o.mono ?_
   rintro e W4 ⟨hb4, q4, c4, rfl, hat4⟩
   have HAT4 := zh hat4
   have hsz4 : ub + 1 ≤ W4.heap.size := by have := hb4.size; omega
   have HU4 := zh (HU.o.below hb4)
   have HO4 := zh (row_below HO.o hb4)
   have HG4 := zh (grown_below HGB.o hb4)
   clear hat4 hb4 HC
   go_wp2_with fail
   go_loopw [41] (fun i wr => ∃ k' : Nat, k' ≤ mk.length ∧ i = .int .i64 k' ∧ Hid (BoolsAt wr ub n2 (fun j => usedB Mt k j || (mk.take k').contains j)) ∧ Hid (W4.grownBy wr (some ub))) (fun i _ => mk.length - (intOf i).toNat)
   case atStart => exact ⟨0, by omega, rfl, zh (HU4.o.congr fun j => by simp), zh (World.grownBy.refl _ _)⟩
   case round =>
    obtain ⟨k', hk', rfl, HU5, HG5⟩ := hrel
    have hul := BoxN.lt HU5.o
    by_cases hlt2 : k' < mk.length
    ·obtain ⟨xb, xo, rfl, hsb, s0⟩ := nat_get HAT4.o k' hlt2
     have r0 := (World.cell?_of_block (HG5.o.block xb (by have := World.block_lt_of_cell? W4 _ s0; simpa using this) (fun e => by injection e with e; omega))).trans s0
     have HTC := zh (take_contains hlt2)
     have hx := HM2.o mk[k'] (List.getElem_mem hlt2)
     clear s0 hsb
     generalize mk[k'] = x at *
     have u0 := HU5.o.get hx
     have z0 := HU5.o.frozen x
     go_wp2_with fail
     go_roundw
     case rel => exact ⟨k' + 1, by omega, by go_num, zh ((HU5.o.set x).congr fun j => by rw [HTC.o j, Bool.or_assoc]), zh (grown_trans HG5.o (grown_set _))⟩
     case measure => simp [intOf]; omega
    ·have hkl : k' = mk.length := by omega
     have HU6 : Hid (BoolsAt wr ub n2 (usedB Mt (k + 1))) := zh (HU5.o.congr fun j => by rw [HUS.o j, hkl, List.take_length])
     have HAT5 : Hid (M.At (fun _ => True) wr (natsM mk) (.slice q4 mk.length c4)) := zh (HAT4.o.keep (fun b hb hlt => ⟨HG5.o.block b hlt (fun e => by injection e with e; have hb : wo.heap.size ≤ b := hb; omega), trivial⟩))
     have HO5 := zh (row_past HO4.o HG5.o (by omega))
     have HG6 := zh (grown_trans HG4.o HG5.o)
     have HBX : Hid (Below W2.heap.size W2 wr) := zh (grown_base HB3.o HG6.o (by have := HUB.o; omega))
     have HWC := zh (HWAY.o wr HBX.o k mk q4 c4 HAT5.o (by omega))
     obtain ⟨lk, hlk⟩ : ∃ lk, lk = wayL kind k mk := ⟨_, rfl⟩
     have hlk2 : lk.length ≤ 4097 := by rw [hlk]; have := @wayL_len kind k mk; omega
     rw [← hlk] at HWC HW1
     clear hkl hlk HU5
     go_wp2_with fail
     refine HWC.o.mono ?_
     rintro e W6 ⟨hb6, q6, c6, rfl, hat6, hnil6⟩
     have HAT6 := zh hat6
     have HO6 := zh (row_below HO5.o hb6)
     have HU7 := zh (HU6.o.below hb6)
     have HG7 := zh (grown_below HG6.o hb6)
     have HRS : Hid (rowsL WF (k + 1) = rowsL WF k ++ lk) := zh (by rw [rowsL_succ, HW1.o])
     have hsz6 : ub + 1 ≤ W6.heap.size := by have := HG7.o.size; omega
     clear hat6 hb6 HWC
     by_cases hz : lk = []
     ·obtain ⟨rfl, rfl⟩ := hnil6 hz
      subst hz
      have HJ2 : Hid ((rowsL WF (k + 1)).length = len) := zh (by rw [HRS.o, List.append_nil]; exact HJ.o)
      have HO7 : Hid (W6.ownsRow W3.heap.size 44 2 (.slice q len c') len (pairsC (rowsL WF (k + 1)))) := zh (by rw [HRS.o, List.append_nil]; exact HO6.o)
      obtain ⟨i2, hi2⟩ : ∃ i, Tryz.prog.info? 44 = some i := ⟨_, hi1⟩
      have hgt : ¬ 4096 < len := by omega
      simp only [List.length_nil] at *
      go_wp2_with (at_builtin; refine wpList_append_own_none rfl _ _ 40 rfl W3.heap.size 44 i1 2 und40 hi1 (.slice q len c') len (pairsC (rowsL WF k)) rfl HO6.o rfl ?_)
      go_roundw
      case rel => exact ⟨k + 1, len, q, c', by omega, by omega, rfl, by go_num, HJ2, HO7, HU7, HG7⟩
      case measure => simp [intOf]; omega
     ·obtain ⟨sb, so, rfl, hsrc⟩ := pairs_src HAT6.o hz
      obtain ⟨lm, hlm⟩ : ∃ lm, lm = lk.length := ⟨_, rfl⟩
      have hlm0 : 0 < lm := by rw [hlm]; exact List.length_pos_iff.2 hz
      have HSRC := zh hsrc
      have HLC : Hid ((pairsC lk).length = lm * 2) := zh (by rw [pairsC_len, hlm])
      have HOFF := zh (fun b (e : (Value.slice q len c').ownBlock = some b) => HO6.o.lt b e)
      have hlm2 : lm ≤ 4097 := by omega
      rw [← hlm]
      have HJ2 : Hid ((rowsL WF (k + 1)).length = len + lm) := zh (by rw [HRS.o, List.length_append, HJ.o, hlm])
      clear hsrc hlm hz hnil6 hlk2
      by_cases hgt : 4096 < len + lm
      ·go_wp2_with (at_builtin; refine wpList_append_lies _ rfl _ _ 40 rfl W3.heap.size 44 i1 z1 2 16 und40 hi1 hz1 hsz1 hby1 hzc1 (by decide) (.slice q len c') len (pairsC (rowsL WF k)) rfl HO6.o ⟨sb, so, none⟩ lm c6 (pairsC lk) rfl HLC.o HSRC.o (fun u hu => pairsC_one hu) hlm0 (by unfold maxLen; omega) (by omega) (by omega) W6.heap.size rfl ?_; intro gg cc w2 hown2 hgrow2 hat2 hlt2; have HOW2 := zh hown2; have HGR2 := zh hgrow2; have HAT2 := zh hat2; clear hown2 hgrow2 hat2)
       obtain ⟨e1, e2⟩ := HBAD.o (k + 1) hlt (by rw [HJ2.o]; exact hgt)
       rw [e1, e2]
       exact bodyPost_ret (res_tt (i := 6) (j := 7) rfl rfl rfl) rfl ⟨(grown_base (HB2.o.trans (HB3.o.mono HB2.o.size)) HG7.o (by have := HUB.o; have := HB2.o.size; omega)).grown HGR2.o (by have := HB2.o.size; have := HUB.o; omega) (fun b e => by have := HOFF.o b e; have := HB2.o.size; have := HUB.o; omega), none, 0, rfl, M.At.nil _ _ 2⟩
      ·go_wp2_with (at_builtin; refine wpList_append_lies _ rfl _ _ 40 rfl W3.heap.size 44 i1 z1 2 16 und40 hi1 hz1 hsz1 hby1 hzc1 (by decide) (.slice q len c') len (pairsC (rowsL WF k)) rfl HO6.o ⟨sb, so, none⟩ lm c6 (pairsC lk) rfl HLC.o HSRC.o (fun u hu => pairsC_one hu) hlm0 (by unfold maxLen; omega) (by omega) (by omega) W6.heap.size rfl ?_; intro gg cc w2 hown2 hgrow2 hat2 hlt2; have HOW2 := zh hown2; have HGR2 := zh hgrow2; have HAT2 := zh hat2; clear hown2 hgrow2 hat2)
       go_roundw
       case rel =>
        refine ⟨k + 1, len + lm, some ⟨gg, 0, none⟩, cc, by omega, by omega, rfl, by go_num, HJ2, zh (by rw [HRS.o, pairsC_app]; exact HOW2.o), zh (HU7.o.kept HGR2.o (fun e => by have := HOFF.o _ e.symm; omega)), zh ?_⟩
        exact grown_belowN HG7.o ((Below.refl _ W6).grown HGR2.o (by omega) (fun b e => (HOFF.o b e).1))
       case measure => simp [intOf]; omega
  ·have hkn : k = n1 := by omega
   subst hkn
   have HBW : Hid (Below w.heap.size w wo) := zh (grown_base (HB2.o.trans (HB3.o.mono HB2.o.size)) HGB.o (by have := HUB.o; have := HB2.o.size; omega))
   have hbase : w.heap.size ≤ W3.heap.size := by have := HB2.o.size; have := HUB.o; omega
   by_cases hk3 : kind = 3
   ·subst hk3
    have h33 : ((3 : Int) == 3) = true := rfl
    have hwo : W3.heap.size ≤ wo.heap.size := HGB.o.size
    go_wp2_with fail
    go_loopw [11, 63] (fun o i wr => ∃ (j ln : Nat) (q2 : Option Addr) (c2 : Nat), j ≤ n2 ∧ ln ≤ 4096 + j ∧ W3.heap.size ≤ wr.heap.size ∧ o = .slice q2 ln c2 ∧ i = .int .i64 j ∧ Hid ((rowsL WF k ++ freeL (usedB Mt k) j).length = ln) ∧ Hid (wr.ownsRow W3.heap.size 44 2 (.slice q2 ln c2) ln (pairsC (rowsL WF k ++ freeL (usedB Mt k) j))) ∧ Hid (BoolsAt wr ub n2 (usedB Mt k)) ∧ Hid (Below w.heap.size w wr)) (fun _ i _ => n2 - (intOf i).toNat)
    case atStart => exact ⟨0, len, q, c', by omega, by omega, hwo, rfl, rfl, zh (by rw [show freeL (usedB Mt k) 0 = [] from rfl, List.append_nil]; exact HJ.o), zh (by rw [show freeL (usedB Mt k) 0 = [] from rfl, List.append_nil]; exact HO.o), HU, HBW⟩
    case round =>
     obtain ⟨j, ln, q2, c2, hj, hln, hws, rfl, rfl, HJ2, HO2, HU2, HBX⟩ := hrel
     by_cases hlt2 : j < n2
     ·have u0 := HU2.o.get hlt2
      have hul := BoxN.lt HU2.o
      have HFS := zh (freeL_succ (usedB Mt k) j)
      cases hbj : usedB Mt k j with
      | true =>
       rw [hbj] at u0
       have HN : Hid (rowsL WF k ++ freeL (usedB Mt k) (j + 1) = rowsL WF k ++ freeL (usedB Mt k) j) := zh (by rw [HFS.o, if_pos hbj, List.append_nil])
       clear hbj
       go_wp2_with fail
       go_roundw
       case rel => exact ⟨j + 1, ln, q2, c2, by omega, by omega, hws, rfl, by go_num, zh (by rw [HN.o]; exact HJ2.o), zh (by rw [HN.o]; exact HO2.o), HU2, HBX⟩
       case measure => simp [intOf]; omega
      | false =>
       rw [hbj] at u0
       have HN : Hid (rowsL WF k ++ freeL (usedB Mt k) (j + 1) = (rowsL WF k ++ freeL (usedB Mt k) j) ++ [(-1, (j : Int))]) := zh (by rw [HFS.o, if_neg (by rw [hbj]; decide), List.append_assoc])
       have HOFF := zh (fun b (e : (Value.slice q2 ln c2).ownBlock = some b) => (HO2.o.lt b e).1)
       have HZB : Hid (BoxN (wr.alloc (.cells #[.int .i64 (-1), .int .i64 j] 44)) wr.heap.size 44 [.int .i64 (-1), .int .i64 j]) := zh (BoxN.new wr 44 _)
       have HV : Hid (Below wr.heap.size wr (wr.alloc (.cells #[.int .i64 (-1), .int .i64 j] 44))) := zh ((Below.refl _ wr).alloc (Nat.le_refl _) _)
       have hbw := HBX.o.size
       have hbw2 : w.heap.size ≤ W3.heap.size := hbase
       clear hbj
       go_wp2_with (at_builtin; refine wpList_append_lies _ rfl _ _ 40 rfl W3.heap.size 44 i1 z1 2 16 und40 hi1 hz1 hsz1 hby1 hzc1 (by decide) (.slice q2 ln c2) ln _ rfl (HO2.o.alloc _) ⟨wr.heap.size, 0, none⟩ 1 1 [.int .i64 (-1), .int .i64 j] rfl rfl (World.news_of_block HZB.o) (by simp [Value.oneCell']) (by decide) (by unfold maxLen; omega) (by omega) (by simp; omega) (wr.heap.size + 1) (by simp) ?_; intro gg cc w2 hown2 hgrow2 hat2 hlt3; have HOW2 := zh hown2; have HGR2 := zh hgrow2; clear hown2 hgrow2 hat2)
       have hg2 : wr.heap.size ≤ w2.heap.size := by have := HGR2.o.size; rw [World.size_alloc] at this; omega
       go_roundw
       case rel =>
        refine ⟨j + 1, ln + 1, some ⟨gg, 0, none⟩, cc, by omega, by omega, by omega, rfl, by go_num, zh ?_, zh ?_, zh ?_, zh ?_⟩
        ·rw [HN.o, List.length_append, HJ2.o]; rfl
        ·rw [HN.o, pairsC_app]; exact HOW2.o
        ·exact (HU2.o.below HV.o).kept HGR2.o (fun e => by have := HOFF.o _ e.symm; omega)
        ·exact (HBX.o.trans (HV.o.mono HBX.o.size)).grown HGR2.o (by simp; omega) (fun b e => by have := HOFF.o b e; omega)
       case measure => simp [intOf]; omega
     ·have hjn : j = n2 := by omega
      subst hjn
      by_cases hgt : 4096 < ln
      ·obtain ⟨e1, e2⟩ := HBAD2.o (by trivial) (by rw [restL_free, HJ2.o]; exact hgt)
       have HEE := zh (And.intro e1 e2)
       clear e1 e2
       go_wp2_with fail
       rw [HEE.o.1, HEE.o.2]
       exact bodyPost_ret (res_tt (i := 6) (j := 7) rfl rfl rfl) rfl ⟨HBX.o, none, 0, rfl, M.At.nil _ _ 2⟩
      ·obtain ⟨e1, e2⟩ := HOK3.o (by trivial) (by rw [restL_free, HJ2.o]; omega)
       rw [restL_free] at e1
       have HL : Hid (M.At (fun b => w.heap.size ≤ b) wr (pairsM RL) (.slice q2 ln c2)) := zh (by rw [e1]; exact (pairs_of_row HO2.o HJ2.o).mono (fun b hb => by omega))
       have HJL : Hid (RL.length = ln) := zh (by rw [e1]; exact HJ2.o)
       subst e2
       clear e1
       go_wp2_with fail
       exact bodyPost_ret (res_tt (i := 6) (j := 7) rfl rfl rfl) rfl ⟨HBX.o, q2, c2, by rw [HJL.o]; rfl, by rw [HJL.o]; exact HL.o⟩
   ·have hk3' : (kind == 3) = false := by simpa using hk3
    obtain ⟨e1, e2⟩ := HOK.o hk3 (by rw [HJ.o]; exact hlen)
    have HL : Hid (M.At (fun b => w.heap.size ≤ b) wo (pairsM RL) (.slice q len c')) := zh (by rw [e1]; exact (pairs_of_row HO.o HJ.o).mono (fun b hb => by omega))
    have HJL : Hid (RL.length = len) := zh (by rw [e1]; exact HJ.o)
    subst e2
    clear e1
    go_wp2_with fail
    exact bodyPost_ret (res_tt (i := 6) (j := 7) rfl rfl rfl) rfl ⟨HBW.o, q, c', by rw [HJL.o]; rfl, by rw [HJL.o]; exact HL.o⟩
end Go.Fld
