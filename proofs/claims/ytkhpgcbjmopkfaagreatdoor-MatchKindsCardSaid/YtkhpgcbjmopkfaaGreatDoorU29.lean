import Derived.Test.YtkhpgcbjmopkfaaGreatDoorT00
import Derived.Test.YtkhpgcbjmopkfaaGreatDoorT11
import Derived.Test.YtkhpgcbjmopkfaaGreatDoorT12
import Derived.Test.YtkhpgcbjmopkfaaGreatDoorT15
import Derived.Test.YtkhpgcbjmopkfaaGreatDoorT20
import Derived.Test.YtkhpgcbjmopkfaaGreatDoorU28
import Derived.Laws.MakeOwn
set_option linter.unusedVariables false
set_option linter.unusedSimpArgs false
set_option linter.unnecessarySimpa false
set_option maxRecDepth 100000
namespace Go.Fld
open Go Go.RowKit Go.Proofs Go.ChangeShapes Go.WideShapes Go.ChangeAt Go.Shelf Go.Fld.Late Go.Maps
structure ArgAt (w : World) (x : Sd) (NS : List (ByteArray × ByteArray)) (fv nv cv kv : Value) : Prop where
 fds : FdsAt w x.L fv
 nts : NtsAt w NS nv
 num : x.N = sizesOf NS
 ints : IntsAt w x.K kv
 dts : M.At (fun _ => True) w (DtsM x.l) cv
 ok : ∀ d ∈ x.l, DtOk d
 n64 : i64B x.n
theorem ArgAt.below {w w' : World} {x : Sd} {NS : List (ByteArray × ByteArray)} {fv nv cv kv : Value} (h : ArgAt w x NS fv nv cv kv) (hb : Below w.heap.size w w') : ArgAt w' x NS fv nv cv kv :=
 ⟨h.fds.below hb, h.nts.below hb, h.num, h.ints.below hb, h.dts.below hb, h.ok, h.n64⟩
structure TabsAt (w : World) : Prop where
 s : SaysAt w
 v : SaysW w
 t : Lib.Utf8Tabs 1 2 w
theorem TabsAt.below {w w' : World} (h : TabsAt w) (hb : Below w.heap.size w w') : TabsAt w' := ⟨h.s.below hb, h.v.below hb, Utf8Tabs_below h.t hb⟩
def MetPost (w : World) (r : List (Int × Int) × Int) (e : Ending) (w' : World) : Prop := Below w.heap.size w w' ∧ ∃ q c p1 p2, e = .returned (.tuple #[.slice q r.1.length c, .pointer p1, .pointer p2, .int .i64 r.2]) ∧ M.At (fun b => w.heap.size ≤ b) w' (pairsM r.1) (.slice q r.1.length c)
theorem met_bad {w w' : World} {r : List (Int × Int) × Int} {er : Int} (h : r = ([], er)) (hb : Below w.heap.size w w') : MetPost w r (.returned (.tuple #[.slice none 0 0, .pointer none, .pointer none, .int .i64 er])) w' := by
 subst h
 exact ⟨hb, none, 0, none, none, rfl, M.At.nil _ _ 2⟩
theorem res_t4 {fn : Func} {i j k l : Nat} (hfn : fn.results = #[.tmp i, .tmp j, .tmp k, .tmp l]) {W : World} {tmps : Array Value} {u v x y : Value} (hu : tmps.getD i undef = u) (hv : tmps.getD j undef = v) (hx : tmps.getD k undef = x) (hy : tmps.getD l undef = y) :
  (results fn tmps).run Tryz.prog W = .ok (.tuple #[u, v, x, y]) W := by
 rw [Array.getD_eq_getD_getElem?] at hu hv hx hy
 simp [results, hfn, go_sem, hu, hv, hx, hy]
theorem keys_few {kind : Int} {L1 L2 : List Fd} {K1 K2 : List Int} (h : askedE kind L1 K1 L2 K2 = 0) : K1.length ≤ 8 ∧ K2.length ≤ 8 := by
 unfold askedE at h
 by_cases h1 : kind < 1 ∨ 5 < kind
 ·rw [if_pos h1] at h; cases h
 rw [if_neg h1] at h
 by_cases h2 : (K1.length ≠ K2.length ∨ K1.length = 0 ∨ 8 < K1.length) ∨ (keysB L1.length K1 = false ∨ keysB L2.length K2 = false)
 ·rw [if_pos h2] at h; cases h
 omega
theorem schema_few {L : List Fd} {N : List (Nat × Nat)} (h : schemaE L N = 0) : L.length ≤ 32 := by
 unfold schemaE at h
 by_cases h1 : 32 < L.length
 ·rw [if_pos h1] at h; cases h
 ·omega
set_option maxHeartbeats 16000000 in
theorem met39_calls {w : World} {x y : Sd} {NS1 NS2 : List (ByteArray × ByteArray)} {f1 v1 c1 k1 f2 v2 c2 k2 : Value} (hx : ArgAt w x NS1 f1 v1 c1 k1) (hy : ArgAt w y NS2 f2 v2 c2 k2) (hT : TabsAt w) (kind : Int) :
  Calls Tryz.prog 39 #[.int .i64 kind, .agg #[f1, v1], .agg #[.int .i64 x.n, c1], k1, .agg #[f2, v2], .agg #[.int .i64 y.n, c2], k2] w (MetPost w (pairsS kind x y)) := by
 obtain ⟨L1, N1, n1, l1, K1⟩ := x
 obtain ⟨L2, N2, n2, l2, K2⟩ := y
 obtain ⟨hL1, hN1, hnum1, hK1, hl1, hok1, h64a⟩ := hx
 obtain ⟨hL2, hN2, hnum2, hK2, hl2, hok2, h64b⟩ := hy
 dsimp only at *
 subst hnum1
 subst hnum2
 obtain ⟨RES, hres⟩ : ∃ RES, RES = pairsS kind ⟨L1, sizesOf NS1, n1, l1, K1⟩ ⟨L2, sizesOf NS2, n2, l2, K2⟩ := ⟨_, rfl⟩
 have HR0 : Hid (preE kind ⟨L1, sizesOf NS1, n1, l1, K1⟩ ⟨L2, sizesOf NS2, n2, l2, K2⟩ ≠ 0 → RES = ([], preE kind ⟨L1, sizesOf NS1, n1, l1, K1⟩ ⟨L2, sizesOf NS2, n2, l2, K2⟩)) := zh (fun h => by rw [hres]; unfold pairsS; rw [if_pos h])
 have HR1 : Hid (preE kind ⟨L1, sizesOf NS1, n1, l1, K1⟩ ⟨L2, sizesOf NS2, n2, l2, K2⟩ = 0 → RES = pairsF kind (fun r => meetR L1 l1 K1 L2 l2 K2 n2.toNat r) n1.toNat n2.toNat) := zh (fun h => by rw [hres]; unfold pairsS; rw [if_neg (by rw [h]; simp)]; rfl)
 have HPE : Hid (preE kind ⟨L1, sizesOf NS1, n1, l1, K1⟩ ⟨L2, sizesOf NS2, n2, l2, K2⟩ = if schemaE L1 (sizesOf NS1) ≠ 0 ∨ schemaE L2 (sizesOf NS2) ≠ 0 then 5 else if sideE L1 l1 n1 ≠ 0 then sideE L1 l1 n1 else if sideE L2 l2 n2 ≠ 0 then sideE L2 l2 n2 else askedE kind L1 K1 L2 K2) := zh rfl
 rw [← hres]
 clear hres
 generalize preE kind ⟨L1, sizesOf NS1, n1, l1, K1⟩ ⟨L2, sizesOf NS2, n2, l2, K2⟩ = PE at *
 have HL1 := zh hL1
 have HL2 := zh hL2
 have HN1 := zh hN1
 have HN2 := zh hN2
 have HK1 := zh hK1
 have HK2 := zh hK2
 have HD1 := zh hl1
 have HD2 := zh hl2
 have HO1 := zh (And.intro hok1 h64a)
 have HO2 := zh (And.intro hok2 h64b)
 have HT := zh hT
 obtain ⟨fp1, fc1, rfl, -, -, -⟩ := hL1
 obtain ⟨fp2, fc2, rfl, -, -, -⟩ := hL2
 obtain ⟨np1, nc1, rfl, -, -, -⟩ := hN1
 obtain ⟨np2, nc2, rfl, -, -, -⟩ := hN2
 obtain ⟨kp1, kc1, rfl, -, -, -⟩ := hK1
 obtain ⟨kp2, kc2, rfl, -, -, -⟩ := hK2
 obtain ⟨dp1, dc1, rfl, -, -⟩ := M.At.slice hl1
 obtain ⟨dp2, dc2, rfl, -, -⟩ := M.At.slice hl2
 simp only [List.length_map] at *
 clear hT hok1 h64a hok2 h64b hl1 hl2
 obtain ⟨W, hW⟩ : ∃ W, W = (((w.alloc (.cells #[.slice fp1 L1.length fc1, .slice np1 NS1.length nc1] 26)).alloc (.cells #[.int .i64 n1, .slice dp1 l1.length dc1] 29)).alloc (.cells #[.slice fp2 L2.length fc2, .slice np2 NS2.length nc2] 26)).alloc (.cells #[.int .i64 n2, .slice dp2 l2.length dc2] 29) := ⟨_, rfl⟩
 have a1 : BoxN W w.heap.size 26 [.slice fp1 L1.length fc1, .slice np1 NS1.length nc1] := by
  rw [hW]
  exact (((BoxN.new w 26 [.slice fp1 L1.length fc1, .slice np1 NS1.length nc1]).alloc _).alloc _).alloc _
 have a2 : BoxN W (w.heap.size + 1) 29 [.int .i64 n1, .slice dp1 l1.length dc1] := by
  rw [hW]
  exact ((BoxN.new' (by rw [World.size_alloc]) 29 [.int .i64 n1, .slice dp1 l1.length dc1]).alloc _).alloc _
 have a3 : BoxN W (w.heap.size + 1 + 1) 26 [.slice fp2 L2.length fc2, .slice np2 NS2.length nc2] := by
  rw [hW]
  exact (BoxN.new' (by rw [World.size_alloc, World.size_alloc]) 26 [.slice fp2 L2.length fc2, .slice np2 NS2.length nc2]).alloc _
 have a4 : BoxN W (w.heap.size + 1 + 1 + 1) 29 [.int .i64 n2, .slice dp2 l2.length dc2] := by
  rw [hW]
  exact BoxN.new' (by rw [World.size_alloc, World.size_alloc, World.size_alloc]) 29 [.int .i64 n2, .slice dp2 l2.length dc2]
 have hBW : Below w.heap.size w W := by rw [hW]; exact ((((Below.refl _ w).alloc (Nat.le_refl _) _).alloc (by simp) _).alloc (by simp; omega) _).alloc (by simp; omega) _
 have hWs : W.heap.size = w.heap.size + 4 := by rw [hW]; simp only [World.size_alloc]
 have A1 := zh a1
 have A2 := zh a2
 have A3 := zh a3
 have A4 := zh a4
 have HBW := zh hBW
 have HW := zh hW
 clear a1 a2 a3 a4 hBW hW
 go_enter Tryz.func39, Tryz.ntmps39
 go_wp2_with fail
 rw [← HW.o]
 clear HW
 obtain ⟨Wd, hWd⟩ : ∃ Wd, Wd = W.drew := ⟨_, rfl⟩
 have hwd : Hid (Wd.heap.size = w.heap.size + 4) := zh (by rw [hWd]; exact hWs)
 have A1 : Hid (BoxN Wd _ _ _) := zh (show BoxN Wd w.heap.size 26 [.slice fp1 L1.length fc1, .slice np1 NS1.length nc1] by rw [hWd]; exact A1.o)
 have A2 : Hid (BoxN Wd _ _ _) := zh (show BoxN Wd (w.heap.size + 1) 29 [.int .i64 n1, .slice dp1 l1.length dc1] by rw [hWd]; exact A2.o)
 have A3 : Hid (BoxN Wd _ _ _) := zh (show BoxN Wd (w.heap.size + 1 + 1) 26 [.slice fp2 L2.length fc2, .slice np2 NS2.length nc2] by rw [hWd]; exact A3.o)
 have A4 : Hid (BoxN Wd _ _ _) := zh (show BoxN Wd (w.heap.size + 1 + 1 + 1) 29 [.int .i64 n2, .slice dp2 l2.length dc2] by rw [hWd]; exact A4.o)
 have HBW : Hid (Below w.heap.size w Wd) := zh (by rw [hWd]; exact below_drew HBW.o)
 have HS0 : Hid (RowAt Wd w.heap.size [.slice fp1 L1.length fc1, .slice np1 NS1.length nc1] ∧ RowAt Wd (w.heap.size + 1 + 1) [.slice fp2 L2.length fc2, .slice np2 NS2.length nc2]) := zh ⟨A1.o.row, A3.o.row⟩
 refine Late.region (fun w' => RowAt w' w.heap.size [.slice fp1 L1.length fc1, .slice np1 NS1.length nc1] ∧ RowAt w' (w.heap.size + 1 + 1) [.slice fp2 L2.length fc2, .slice np2 NS2.length nc2]) (fun _ => false) (by kernel_rfl) ?_
 rw [← hWd]
 clear hWd hWs
 refine Late.tk (i := 0) (v := ?_) rfl (by kernel_rfl) ⟨by kernel_rfl, ?_⟩ HS0.o ?_
 rotate_left
 ·intro w' hS
  have q0 := hS.1 0 _ rfl; have q1 := hS.1 1 _ rfl; clear hS
  go_simp
  rfl
 refine Late.tk (i := 1) (v := ?_) rfl (by kernel_rfl) ⟨by kernel_rfl, ?_⟩ HS0.o ?_
 rotate_left
 ·intro w' hS
  clear hS
  go_simp
  rfl
 refine Late.tk (i := 2) (v := ?_) rfl (by kernel_rfl) ⟨by kernel_rfl, ?_⟩ HS0.o ?_
 rotate_left
 ·intro w' hS
  clear hS
  go_simp
  rfl
 refine Late.tk (i := 4) (v := ?_) rfl (by kernel_rfl) ⟨by kernel_rfl, ?_⟩ HS0.o ?_
 rotate_left
 ·intro w' hS
  have q0 := hS.2 0 _ rfl; have q1 := hS.2 1 _ rfl; clear hS
  go_simp
  rfl
 refine Late.tk (i := 5) (v := ?_) rfl (by kernel_rfl) ⟨by kernel_rfl, ?_⟩ HS0.o ?_
 rotate_left
 ·intro w' hS
  clear hS
  go_simp
  rfl
 refine Late.tk (i := 6) (v := ?_) rfl (by kernel_rfl) ⟨by kernel_rfl, ?_⟩ HS0.o ?_
 rotate_left
 ·intro w' hS
  clear hS
  go_simp
  rfl
 refine Late.two (i := 3) (k := 7) (by kernel_rfl) rfl rfl (fun K hK => ?_) (fun K hK => ?_)
 all_goals go_simp
 focus
  obtain ⟨Y1, hY1⟩ : ∃ Y1, Y1 = Wd.alloc (.cells #[.slice fp1 L1.length fc1, .slice np1 NS1.length nc1, .slice kp1 K1.length kc1, .slice none 0 0, .int .i64 0] 54) := ⟨_, rfl⟩
  have hbY1 : Below Wd.heap.size Wd Y1 := by rw [hY1]; exact (Below.refl _ Wd).alloc (Nat.le_refl _) _
  have hsY1 : Hid (Y1.heap.size = Wd.heap.size + 1) := zh (by rw [hY1, World.size_alloc])
  have g1 : BoxN Y1 Wd.heap.size 54 [.slice fp1 L1.length fc1, .slice np1 NS1.length nc1, .slice kp1 K1.length kc1, .slice none 0 0, .int .i64 0] := by rw [hY1]; exact BoxN.new Wd 54 _
  have HSY1 : Hid (RowAt Y1 w.heap.size [.slice fp1 L1.length fc1, .slice np1 NS1.length nc1] ∧ RowAt Y1 (w.heap.size + 1 + 1) [.slice fp2 L2.length fc2, .slice np2 NS2.length nc2]) := zh ⟨(A1.o.below hbY1 A1.o.lt).row, (A3.o.below hbY1 A3.o.lt).row⟩
  rw [← hY1]
  clear hY1
  refine hK _ _ (fun _ => HSY1.o) ?_
  clear hK K
  have A1 := zh (A1.o.below hbY1 A1.o.lt)
  have A2 := zh (A2.o.below hbY1 A2.o.lt)
  have A3 := zh (A3.o.below hbY1 A3.o.lt)
  have A4 := zh (A4.o.below hbY1 A4.o.lt)
  have HBW := zh (HBW.o.trans (hbY1.mono HBW.o.size))
  refine Late.tk (i := 8) (v := ?_) rfl (by kernel_rfl) ⟨by kernel_rfl, ?_⟩ HSY1.o ?_
  rotate_left
  ·intro w' hS
   clear hS
   go_simp
   rfl
  refine Late.one (i := 7) (by kernel_rfl) rfl (fun K hK => ?_)
  go_simp
  obtain ⟨Y2, hY2⟩ : ∃ Y2, Y2 = Y1.alloc (.cells #[.slice fp2 L2.length fc2, .slice np2 NS2.length nc2, .slice kp2 K2.length kc2, .slice none 0 0, .int .i64 0] 54) := ⟨_, rfl⟩
  have hbY2 : Below Y1.heap.size Y1 Y2 := by rw [hY2]; exact (Below.refl _ Y1).alloc (Nat.le_refl _) _
  have hsY2 : Hid (Y2.heap.size = Y1.heap.size + 1) := zh (by rw [hY2, World.size_alloc])
  have g2 : BoxN Y2 Y1.heap.size 54 [.slice fp2 L2.length fc2, .slice np2 NS2.length nc2, .slice kp2 K2.length kc2, .slice none 0 0, .int .i64 0] := by rw [hY2]; exact BoxN.new Y1 54 _
  have HSY2 : Hid (RowAt Y2 w.heap.size [.slice fp1 L1.length fc1, .slice np1 NS1.length nc1] ∧ RowAt Y2 (w.heap.size + 1 + 1) [.slice fp2 L2.length fc2, .slice np2 NS2.length nc2]) := zh ⟨(A1.o.below hbY2 A1.o.lt).row, (A3.o.below hbY2 A3.o.lt).row⟩
  rw [← hY2]
  clear hY2
  refine hK _ _ (fun _ => HSY2.o) ?_
  clear hK K
  have A1 := zh (A1.o.below hbY2 A1.o.lt)
  have A2 := zh (A2.o.below hbY2 A2.o.lt)
  have A3 := zh (A3.o.below hbY2 A3.o.lt)
  have A4 := zh (A4.o.below hbY2 A4.o.lt)
  have HBW := zh (HBW.o.trans (hbY2.mono HBW.o.size))
  have g1 := g1.below hbY2 g1.lt
  refine Late.tk (i := 9) (v := ?_) rfl (by kernel_rfl) ⟨by kernel_rfl, ?_⟩ HSY2.o ?_
  rotate_left
  ·intro w' hS
   clear hS
   go_simp
   rfl
  refine Late.done (by kernel_rfl) ?_ _
  go_simp
  obtain ⟨sx, hsx⟩ : ∃ sx, sx = Wd.heap.size := ⟨_, rfl⟩
  obtain ⟨sy, hsy⟩ : ∃ sy, sy = Y1.heap.size := ⟨_, rfl⟩
  have X1 : Hid (BoxN Y2 sx 54 [.slice fp1 L1.length fc1, .slice np1 NS1.length nc1, .slice kp1 K1.length kc1, .slice none 0 0, .int .i64 0]) := zh (by rw [hsx]; exact g1)
  have X2 : Hid (BoxN Y2 sy 54 [.slice fp2 L2.length fc2, .slice np2 NS2.length nc2, .slice kp2 K2.length kc2, .slice none 0 0, .int .i64 0]) := zh (by rw [hsy]; exact g2)
  have hne : sx ≠ sy := by have h1 := hwd.o; have h2 := hsY1.o; have h3 := hsY2.o; omega
  have hox : w.heap.size + 4 ≤ sx ∧ sx < Y2.heap.size := by have h1 := hwd.o; have h2 := hsY1.o; have h3 := hsY2.o; omega
  have hoy : w.heap.size + 4 ≤ sy ∧ sy < Y2.heap.size := by have h1 := hwd.o; have h2 := hsY1.o; have h3 := hsY2.o; omega
  rw [← hsx, ← hsy]
  clear hsx hsy g1 g2 hbY1 hbY2 hsY1 hsY2 HSY1 HSY2 HS0 hwd
 rotate_left
 focus
  obtain ⟨Y1, hY1⟩ : ∃ Y1, Y1 = Wd.alloc (.cells #[.slice fp2 L2.length fc2, .slice np2 NS2.length nc2, .slice kp2 K2.length kc2, .slice none 0 0, .int .i64 0] 54) := ⟨_, rfl⟩
  have hbY1 : Below Wd.heap.size Wd Y1 := by rw [hY1]; exact (Below.refl _ Wd).alloc (Nat.le_refl _) _
  have hsY1 : Hid (Y1.heap.size = Wd.heap.size + 1) := zh (by rw [hY1, World.size_alloc])
  have g1 : BoxN Y1 Wd.heap.size 54 [.slice fp2 L2.length fc2, .slice np2 NS2.length nc2, .slice kp2 K2.length kc2, .slice none 0 0, .int .i64 0] := by rw [hY1]; exact BoxN.new Wd 54 _
  have HSY1 : Hid (RowAt Y1 w.heap.size [.slice fp1 L1.length fc1, .slice np1 NS1.length nc1] ∧ RowAt Y1 (w.heap.size + 1 + 1) [.slice fp2 L2.length fc2, .slice np2 NS2.length nc2]) := zh ⟨(A1.o.below hbY1 A1.o.lt).row, (A3.o.below hbY1 A3.o.lt).row⟩
  rw [← hY1]
  clear hY1
  refine hK _ _ (fun _ => HSY1.o) ?_
  clear hK K
  have A1 := zh (A1.o.below hbY1 A1.o.lt)
  have A2 := zh (A2.o.below hbY1 A2.o.lt)
  have A3 := zh (A3.o.below hbY1 A3.o.lt)
  have A4 := zh (A4.o.below hbY1 A4.o.lt)
  have HBW := zh (HBW.o.trans (hbY1.mono HBW.o.size))
  refine Late.one (i := 3) (by kernel_rfl) rfl (fun K hK => ?_)
  go_simp
  obtain ⟨Y2, hY2⟩ : ∃ Y2, Y2 = Y1.alloc (.cells #[.slice fp1 L1.length fc1, .slice np1 NS1.length nc1, .slice kp1 K1.length kc1, .slice none 0 0, .int .i64 0] 54) := ⟨_, rfl⟩
  have hbY2 : Below Y1.heap.size Y1 Y2 := by rw [hY2]; exact (Below.refl _ Y1).alloc (Nat.le_refl _) _
  have hsY2 : Hid (Y2.heap.size = Y1.heap.size + 1) := zh (by rw [hY2, World.size_alloc])
  have g2 : BoxN Y2 Y1.heap.size 54 [.slice fp1 L1.length fc1, .slice np1 NS1.length nc1, .slice kp1 K1.length kc1, .slice none 0 0, .int .i64 0] := by rw [hY2]; exact BoxN.new Y1 54 _
  have HSY2 : Hid (RowAt Y2 w.heap.size [.slice fp1 L1.length fc1, .slice np1 NS1.length nc1] ∧ RowAt Y2 (w.heap.size + 1 + 1) [.slice fp2 L2.length fc2, .slice np2 NS2.length nc2]) := zh ⟨(A1.o.below hbY2 A1.o.lt).row, (A3.o.below hbY2 A3.o.lt).row⟩
  rw [← hY2]
  clear hY2
  refine hK _ _ (fun _ => HSY2.o) ?_
  clear hK K
  have A1 := zh (A1.o.below hbY2 A1.o.lt)
  have A2 := zh (A2.o.below hbY2 A2.o.lt)
  have A3 := zh (A3.o.below hbY2 A3.o.lt)
  have A4 := zh (A4.o.below hbY2 A4.o.lt)
  have HBW := zh (HBW.o.trans (hbY2.mono HBW.o.size))
  have g1 := g1.below hbY2 g1.lt
  refine Late.tk (i := 8) (v := ?_) rfl (by kernel_rfl) ⟨by kernel_rfl, ?_⟩ HSY2.o ?_
  rotate_left
  ·intro w' hS
   clear hS
   go_simp
   rfl
  refine Late.tk (i := 9) (v := ?_) rfl (by kernel_rfl) ⟨by kernel_rfl, ?_⟩ HSY2.o ?_
  rotate_left
  ·intro w' hS
   clear hS
   go_simp
   rfl
  refine Late.done (by kernel_rfl) ?_ _
  go_simp
  obtain ⟨sx, hsx⟩ : ∃ sx, sx = Y1.heap.size := ⟨_, rfl⟩
  obtain ⟨sy, hsy⟩ : ∃ sy, sy = Wd.heap.size := ⟨_, rfl⟩
  have X1 : Hid (BoxN Y2 sx 54 [.slice fp1 L1.length fc1, .slice np1 NS1.length nc1, .slice kp1 K1.length kc1, .slice none 0 0, .int .i64 0]) := zh (by rw [hsx]; exact g2)
  have X2 : Hid (BoxN Y2 sy 54 [.slice fp2 L2.length fc2, .slice np2 NS2.length nc2, .slice kp2 K2.length kc2, .slice none 0 0, .int .i64 0]) := zh (by rw [hsy]; exact g1)
  have hne : sx ≠ sy := by have h1 := hwd.o; have h2 := hsY1.o; have h3 := hsY2.o; omega
  have hox : w.heap.size + 4 ≤ sx ∧ sx < Y2.heap.size := by have h1 := hwd.o; have h2 := hsY1.o; have h3 := hsY2.o; omega
  have hoy : w.heap.size + 4 ≤ sy ∧ sy < Y2.heap.size := by have h1 := hwd.o; have h2 := hsY1.o; have h3 := hsY2.o; omega
  rw [← hsx, ← hsy]
  clear hsx hsy g1 g2 hbY1 hbY2 hsY1 hsY2 HSY1 HSY2 HS0 hwd
 all_goals as_aux_lemma =>
  have p0 := A1.o.row 0 _ rfl
  have p1 := A1.o.row 1 _ rfl
  have r0 := A3.o.row 0 _ rfl
  have r1 := A3.o.row 1 _ rfl
  have ha1 := A1.o.lt
  have ha3 := A3.o.lt
  go_wp2_with fail
  refine (right_calls (HL1.o.below HBW.o) (HN1.o.below HBW.o) (HT.o.s.below HBW.o)).mono ?_
  rintro e Y3 ⟨rfl, hb3⟩
  have A1 := zh (A1.o.below hb3 A1.o.lt)
  have A2 := zh (A2.o.below hb3 A2.o.lt)
  have A3 := zh (A3.o.below hb3 A3.o.lt)
  have A4 := zh (A4.o.below hb3 A4.o.lt)
  have X1 := zh (X1.o.below hb3 X1.o.lt)
  have X2 := zh (X2.o.below hb3 X2.o.lt)
  have HB3 := zh (HBW.o.trans (hb3.mono HBW.o.size))
  clear hb3 p0 p1 r0 r1 ha1 ha3
  have r0 := A3.o.row 0 _ rfl
  have r1 := A3.o.row 1 _ rfl
  have ha3 := A3.o.lt
  cases e1 : (schemaE L1 (sizesOf NS1) == 0) with
  | false =>
   have HE := zh (show RES = ([], 5) by
    have h1 := HPE.o
    rw [if_pos (.inl (by simpa using e1))] at h1
    rw [HR0.o (by rw [h1]; decide), h1])
   clear e1
   go_wp2_with fail
   exact bodyPost_ret (res_t4 (i := 14) (j := 15) (k := 16) (l := 17) rfl rfl rfl rfl rfl) rfl (met_bad HE.o HB3.o)
  | true =>
  have E1 := zh e1
  clear e1
  go_wp2_with fail
  refine (right_calls (HL2.o.below HB3.o) (HN2.o.below HB3.o) (HT.o.s.below HB3.o)).mono ?_
  rintro e Y4 ⟨rfl, hb4⟩
  have A1 := zh (A1.o.below hb4 A1.o.lt)
  have A2 := zh (A2.o.below hb4 A2.o.lt)
  have A3 := zh (A3.o.below hb4 A3.o.lt)
  have A4 := zh (A4.o.below hb4 A4.o.lt)
  have X1 := zh (X1.o.below hb4 X1.o.lt)
  have X2 := zh (X2.o.below hb4 X2.o.lt)
  have HB4 := zh (HB3.o.trans (hb4.mono HB3.o.size))
  clear hb4 r0 r1 ha3
  cases e2 : (schemaE L2 (sizesOf NS2) == 0) with
  | false =>
   have HE := zh (show RES = ([], 5) by
    have h1 := HPE.o
    rw [if_pos (.inr (by simpa using e2))] at h1
    rw [HR0.o (by rw [h1]; decide), h1])
   clear e2
   go_wp2_with fail
   exact bodyPost_ret (res_t4 (i := 14) (j := 15) (k := 16) (l := 17) rfl rfl rfl rfl rfl) rfl (met_bad HE.o HB4.o)
  | true =>
  have e1 := E1.o
  have M1 : schemaE L1 (sizesOf NS1) = 0 := by simpa using e1
  have M2 : schemaE L2 (sizesOf NS2) = 0 := by simpa using e2
  have O1 := zh (checkE_ok (schemaE_ok M1).1).1
  have O2 := zh (checkE_ok (schemaE_ok M2).1).1
  have F1 := zh (schema_few M1)
  have F2 := zh (schema_few M2)
  have HPE : Hid (PE = if sideE L1 l1 n1 ≠ 0 then sideE L1 l1 n1 else if sideE L2 l2 n2 ≠ 0 then sideE L2 l2 n2 else askedE kind L1 K1 L2 K2) := zh (by have h := HPE.o; rwa [if_neg (by simp [M1, M2])] at h)
  clear e1 e2 E1 M1 M2
  obtain ⟨base, hbase⟩ : ∃ base, base = Y4.heap.size := ⟨_, rfl⟩
  have hox4 := hox.1
  have hox : w.heap.size ≤ sx ∧ sx < base := ⟨by omega, by rw [hbase]; exact X1.o.lt⟩
  have hoy4 := hoy.1
  have hoy : w.heap.size ≤ sy ∧ sy < base := ⟨by omega, by rw [hbase]; exact X2.o.lt⟩
  have hb4s : base ≤ Y4.heap.size := by omega
  clear hbase
  have p0 := A2.o.row 0 _ rfl
  have p1 := A2.o.row 1 _ rfl
  have ha2 := A2.o.lt
  have HC1 := zh (sopen_calls (base := base) (p := dp1) (c := dc1) HB4.o hox.1 hox.2 hb4s X1.o HL1.o HD1.o HT.o.s HT.o.v HT.o.t HO1.o.1 HO1.o.2 (by have := F1.o; omega))
  go_wp2_with fail
  refine HC1.o.mono ?_
  rintro e Y5 ⟨hg5, hcase⟩
  have HB5 := zh (grown_base HB4.o hg5 hox.1)
  have hne1 : some (w.heap.size + 1 + 1 + 1) ≠ some sx := fun e => by injection e with e; omega
  have A4 := zh (A4.o.kept hg5 hne1)
  have X2 := zh (X2.o.kept hg5 (fun e => by injection e with e; omega))
  have hb5s : base ≤ Y5.heap.size := by have := hg5.size; omega
  have HG5 := zh hg5
  clear hg5 p0 p1 ha2 hne1 HC1
  rcases hcase with ⟨hs1, rfl⟩ | ⟨hs1, rfl, hat1⟩
  ·have HE := zh (show RES = ([], sideE L1 l1 n1) by
    have h1 := HPE.o
    rw [if_pos hs1] at h1
    rw [HR0.o (by rw [h1]; exact hs1), h1])
   generalize sideE L1 l1 n1 = er at *
   have hx1 : (er != 0) = true := by simpa using hs1
   clear hs1 HPE
   go_wp2_with fail
   exact bodyPost_ret (res_t4 (i := 14) (j := 15) (k := 16) (l := 17) rfl rfl rfl rfl rfl) rfl (met_bad HE.o HB5.o)
  have HPE : Hid (PE = if sideE L2 l2 n2 ≠ 0 then sideE L2 l2 n2 else askedE kind L1 K1 L2 K2) := zh (by have h := HPE.o; rwa [if_neg (by rw [hs1]; simp)] at h)
  have HS1 := zh hs1
  have HAT1 := zh hat1
  have p0 := A4.o.row 0 _ rfl
  have p1 := A4.o.row 1 _ rfl
  have ha4 := A4.o.lt
  have hx0 : ((0 : Int) != 0) = false := rfl
  have HC2 := zh (sopen_calls (base := base) (p := dp2) (c := dc2) HB5.o hoy.1 hoy.2 hb5s X2.o HL2.o HD2.o HT.o.s HT.o.v HT.o.t HO2.o.1 HO2.o.2 (by have := F2.o; omega))
  clear hs1 hat1
  go_wp2_with fail
  refine HC2.o.mono ?_
  rintro e Y6 ⟨hg6, hcase⟩
  have HB6 := zh (grown_base HB5.o hg6 hoy.1)
  have HAT1 := zh (HAT1.o.kept hg6 hne hoy.1 hoy.2)
  clear hg6 p0 p1 ha4 HC2
  rcases hcase with ⟨hs2, rfl⟩ | ⟨hs2, rfl, hat2⟩
  ·have HE := zh (show RES = ([], sideE L2 l2 n2) by
    have h1 := HPE.o
    rw [if_pos hs2] at h1
    rw [HR0.o (by rw [h1]; exact hs2), h1])
   generalize sideE L2 l2 n2 = er at *
   have hx1 : (er != 0) = true := by simpa using hs2
   clear hs2 HPE
   go_wp2_with fail
   exact bodyPost_ret (res_t4 (i := 14) (j := 15) (k := 16) (l := 17) rfl rfl rfl rfl rfl) rfl (met_bad HE.o HB6.o)
  have HPE : Hid (PE = askedE kind L1 K1 L2 K2) := zh (by have h := HPE.o; rwa [if_neg (by rw [hs2]; simp)] at h)
  have HS2 := zh hs2
  have HAT2 := zh hat2
  obtain ⟨nb1, pq1, pc1, bs1, -, hbx1, -⟩ := HAT1.o.at'
  obtain ⟨nb2, pq2, pc2, bs2, -, hbx2, -⟩ := HAT2.o.at'
  have HCA := zh (asked_calls (w := Y6) (sa := sx) (sb := sy) kind (hbx1.row 0 _ rfl) (hbx1.row 2 _ rfl) (hbx2.row 0 _ rfl) (hbx2.row 2 _ rfl) (HL1.o.below HB6.o) (HK1.o.below HB6.o) (HL2.o.below HB6.o) (HK2.o.below HB6.o) O1.o O2.o)
  have hx0 : ((0 : Int) != 0) = false := rfl
  clear hs2 hat2 hbx1 hbx2
  go_wp2_with fail
  refine HCA.o.mono ?_
  rintro e Y7 ⟨rfl, hb7⟩
  have HB7 := zh (HB6.o.trans (hb7.mono HB6.o.size))
  have HAT1 := zh (HAT1.o.below hb7)
  have HAT2 := zh (HAT2.o.below hb7)
  have AZ := zh (fun h => And.intro (@askedE_zero kind L1 L2 K1 K2 h) (@keys_few kind L1 L2 K1 K2 h))
  clear hb7 HCA
  generalize askedE kind L1 K1 L2 K2 = er at *
  by_cases her : er ≠ 0
  ·have HE := zh (show RES = ([], er) by rw [HR0.o (by rw [HPE.o]; exact her), HPE.o])
   have hx1 : (er != 0) = true := by simpa using her
   clear her AZ
   go_wp2_with fail
   exact bodyPost_ret (res_t4 (i := 14) (j := 15) (k := 16) (l := 17) rfl rfl rfl rfl rfl) rfl (met_bad HE.o HB7.o)
  have her0 : er = 0 := by omega
  subst her0
  obtain ⟨⟨hk, hkl, hko1, hko2⟩, hf1, hf2⟩ := AZ.o rfl
  obtain ⟨hn1, hR1⟩ := SideR.of HS1.o
  obtain ⟨hn2, hR2⟩ := SideR.of HS2.o
  have HE := zh (HR1.o HPE.o)
  obtain ⟨m1, rfl⟩ := Int.eq_ofNat_of_zero_le hn1
  obtain ⟨m2, rfl⟩ := Int.eq_ofNat_of_zero_le hn2
  simp only [Int.toNat_natCast] at hR1 hR2 HE
  have hin1 : ∀ c ∈ K1, 0 ≤ c ∧ c < l1.length := by
   intro c hc
   obtain ⟨j, hj, rfl⟩ := List.getElem_of_mem hc
   rw [hR1.len]
   exact (hko1 j hj).1
  have hin2 : ∀ c ∈ K2, 0 ≤ c ∧ c < l2.length := by
   intro c hc
   obtain ⟨j, hj, rfl⟩ := List.getElem_of_mem hc
   rw [hR2.len]
   exact (hko2 j hj).1
  have hc := opairs_calls HAT1.o (HK1.o.below HB7.o) hR1 hin1 (by omega) HAT2.o (HK2.o.below HB7.o) hR2 hin2 (by omega) (Utf8Tabs_below HT.o.t HB7.o) kind hk
  rw [← HE.o] at hc
  have HC := zh hc
  obtain ⟨RL, RE⟩ := RES
  clear hc hin1 hin2 hR1 hR2 hn1 hn2 hk hkl hko1 hko2 hf1 hf2 AZ HE HR0 HR1 HPE
  go_wp2_with fail
  refine HC.o.mono ?_
  rintro e Y8 ⟨hb8, q, c, rfl, hat⟩
  have HB8 := zh (HB7.o.trans (hb8.mono HB7.o.size))
  have hsz := HB7.o.size
  have HAT := zh (M.At.mono (fun b hb => Nat.le_trans hsz hb) hat)
  clear hb8 hat hsz HC
  go_wp2_with fail
  exact bodyPost_ret (res_t4 (i := 14) (j := 15) (k := 16) (l := 17) rfl rfl rfl rfl rfl) rfl ⟨HB8.o, q, c, _, _, rfl, HAT.o⟩
theorem ArgAt.shape {w : World} {x : Sd} {NS : List (ByteArray × ByteArray)} {fv nv cv kv : Value} (h : ArgAt w x NS fv nv cv kv) : (∃ p n c, fv = .slice p n c) ∧ (∃ p n c, nv = .slice p n c) ∧ (∃ p n c, cv = .slice p n c) ∧ ∃ p n c, kv = .slice p n c := by
 obtain ⟨p1, c1, e1, -⟩ := h.fds
 obtain ⟨p2, c2, e2, -⟩ := h.nts
 obtain ⟨p3, c3, e3, -⟩ := M.At.slice h.dts
 obtain ⟨p4, c4, e4, -⟩ := h.ints
 exact ⟨⟨_, _, _, e1⟩, ⟨_, _, _, e2⟩, ⟨_, _, _, e3⟩, ⟨_, _, _, e4⟩⟩
set_option maxHeartbeats 8000000 in
theorem Pairs_calls {w : World} {x y : Sd} {NS1 NS2 : List (ByteArray × ByteArray)} {f1 v1 c1 k1 f2 v2 c2 k2 : Value} (hx : ArgAt w x NS1 f1 v1 c1 k1) (hy : ArgAt w y NS2 f2 v2 c2 k2) (hT : TabsAt w) (kind : Int) :
  Calls Tryz.prog 29 #[.int .i64 kind, .agg #[f1, v1], .agg #[.int .i64 x.n, c1], k1, .agg #[f2, v2], .agg #[.int .i64 y.n, c2], k2] w (PairsRes w (pairsS kind x y).1 (pairsS kind x y).2) := by
 have HX := zh hx
 have HY := zh hy
 have HT := zh hT
 obtain ⟨⟨p1, q1, r1, rfl⟩, ⟨p2, q2, r2, rfl⟩, ⟨p3, q3, r3, rfl⟩, ⟨p4, q4, r4, rfl⟩⟩ := hx.shape
 obtain ⟨⟨p5, q5, r5, rfl⟩, ⟨p6, q6, r6, rfl⟩, ⟨p7, q7, r7, rfl⟩, ⟨p8, q8, r8, rfl⟩⟩ := hy.shape
 obtain ⟨n1, hn1⟩ : ∃ n1, n1 = x.n := ⟨_, rfl⟩
 obtain ⟨n2, hn2⟩ : ∃ n2, n2 = y.n := ⟨_, rfl⟩
 rw [← hn1, ← hn2]
 have HN := zh (And.intro hn1 hn2)
 clear hx hy hT hn1 hn2
 obtain ⟨W, hW⟩ : ∃ W, W = (((w.alloc (.cells #[.slice p1 q1 r1, .slice p2 q2 r2] 26)).alloc (.cells #[.int .i64 n1, .slice p3 q3 r3] 29)).alloc (.cells #[.slice p5 q5 r5, .slice p6 q6 r6] 26)).alloc (.cells #[.int .i64 n2, .slice p7 q7 r7] 29) := ⟨_, rfl⟩
 have hBW : Below w.heap.size w W := by rw [hW]; exact ((((Below.refl _ w).alloc (Nat.le_refl _) _).alloc (by simp) _).alloc (by simp; omega) _).alloc (by simp; omega) _
 have HBW := zh hBW
 have HW := zh hW
 have hc := met39_calls (HX.o.below hBW) (HY.o.below hBW) (HT.o.below hBW) kind
 rw [← HN.o.1, ← HN.o.2] at hc
 obtain ⟨RES, hres⟩ : ∃ RES, RES = pairsS kind x y := ⟨_, rfl⟩
 rw [← hres] at hc ⊢
 obtain ⟨RL, RE⟩ := RES
 have HC := zh hc
 clear hc hBW hW hres
 go_enter Tryz.func29, Tryz.ntmps29
 go_wp2_with fail
 rw [← HW.o]
 clear HW
 refine HC.o.mono ?_
 rintro e W2 ⟨hb2, q, c, pa, pb, rfl, hat⟩
 have HB2 := zh (HBW.o.trans (hb2.mono HBW.o.size))
 have hsz := HBW.o.size
 have HAT := zh (M.At.mono (fun b hb => Nat.le_trans hsz hb) hat)
 clear hb2 hat hsz HC
 go_wp2_with fail
 exact bodyPost_ret (res_tt (i := 14) (j := 15) rfl rfl rfl) rfl ⟨HB2.o, q, c, rfl, HAT.o⟩
set_option maxHeartbeats 8000000 in
theorem lpairs_calls {w : World} {x y : Sd} {NS1 NS2 : List (ByteArray × ByteArray)} {f1 v1 c1 k1 f2 v2 c2 k2 : Value} (hx : ArgAt w x NS1 f1 v1 c1 k1) (hy : ArgAt w y NS2 f2 v2 c2 k2) (hT : TabsAt w) (kind : Int) :
  Calls Tryz.prog 11 #[.int .i64 kind, .agg #[f1, v1, .int .i64 x.n, c1, k1], .agg #[f2, v2, .int .i64 y.n, c2, k2]] w (PairsRes w (pairsS kind x y).1 (pairsS kind x y).2) := by
 have HX := zh hx
 have HY := zh hy
 have HT := zh hT
 obtain ⟨⟨p1, q1, r1, rfl⟩, ⟨p2, q2, r2, rfl⟩, ⟨p3, q3, r3, rfl⟩, ⟨p4, q4, r4, rfl⟩⟩ := hx.shape
 obtain ⟨⟨p5, q5, r5, rfl⟩, ⟨p6, q6, r6, rfl⟩, ⟨p7, q7, r7, rfl⟩, ⟨p8, q8, r8, rfl⟩⟩ := hy.shape
 obtain ⟨n1, hn1⟩ : ∃ n1, n1 = x.n := ⟨_, rfl⟩
 obtain ⟨n2, hn2⟩ : ∃ n2, n2 = y.n := ⟨_, rfl⟩
 rw [← hn1, ← hn2]
 have HN := zh (And.intro hn1 hn2)
 clear hx hy hT hn1 hn2
 obtain ⟨W, hW⟩ : ∃ W, W = (w.alloc (.cells #[.slice p1 q1 r1, .slice p2 q2 r2, .int .i64 n1, .slice p3 q3 r3, .slice p4 q4 r4] 32)).alloc (.cells #[.slice p5 q5 r5, .slice p6 q6 r6, .int .i64 n2, .slice p7 q7 r7, .slice p8 q8 r8] 32) := ⟨_, rfl⟩
 have hBW : Below w.heap.size w W := by rw [hW]; exact ((Below.refl _ w).alloc (Nat.le_refl _) _).alloc (by simp) _
 have HBW := zh hBW
 have HW := zh hW
 have hc := Pairs_calls (HX.o.below hBW) (HY.o.below hBW) (HT.o.below hBW) kind
 rw [← HN.o.1, ← HN.o.2] at hc
 obtain ⟨RES, hres⟩ : ∃ RES, RES = pairsS kind x y := ⟨_, rfl⟩
 rw [← hres] at hc ⊢
 obtain ⟨RL, RE⟩ := RES
 have HC := zh hc
 clear hc hBW hW hres
 go_enter Tryz.func11, Tryz.ntmps11
 go_wp2_with fail
 rw [← HW.o]
 clear HW
 refine HC.o.mono ?_
 rintro e W2 ⟨hb2, q, c, rfl, hat⟩
 have HB2 := zh (HBW.o.trans (hb2.mono HBW.o.size))
 have hsz := HBW.o.size
 have HAT := zh (M.At.mono (fun b hb => Nat.le_trans hsz hb) hat)
 clear hb2 hat hsz HC
 go_wp2_with fail
 exact bodyPost_ret (res_tt (i := 6) (j := 7) rfl rfl rfl) rfl ⟨HB2.o, q, c, rfl, HAT.o⟩
theorem pair_get {S : Nat → Prop} {w : World} {l : List (Int × Int)} {p : Option Addr} {n cap : Nat} (h : M.At S w (pairsM l) (.slice p n cap)) (i : Nat) (hi : i < l.length) : ∃ b o, p = some ⟨b, o, none⟩ ∧ S b ∧ w.cell? ⟨b, o + i * 2, none⟩ = some (.int .i64 l[i].1) ∧ w.cell? ⟨b, o + i * 2 + 1, none⟩ = some (.int .i64 l[i].2) := by
 obtain ⟨b, o, cs, rfl, hS, -, hc, hr⟩ := M.At.get h i (by simpa using hi)
 rw [List.getElem_map] at hr
 obtain ⟨_, rfl, h1⟩ := M.AtL.one hr
 obtain ⟨_, rfl, h2⟩ := M.AtL.one h1
 exact ⟨b, o, rfl, hS, by have := hc 0 _ rfl; simpa using this, hc 1 _ rfl⟩
theorem pairs_room {S : Nat → Prop} {w : World} {l : List (Int × Int)} {p : Option Addr} {n cap : Nat} (h : M.At S w (pairsM l) (.slice p n cap)) : n = l.length ∧ n ≤ cap ∧ cap ≤ 9223372036854775807 := by
 obtain ⟨q, c, e, h1, -⟩ := M.At.slice h
 cases e
 simp only [List.length_map] at h1
 unfold maxLen at h1
 exact ⟨by simp, by simpa using h1.1, by omega⟩
theorem und44a : Tryz.prog.underlying 44 = some (.array 2 3) := by kernel_rfl
theorem size3 (w : World) : (sizeOf 3).run Tryz.prog w = .ok 1 w := by kernel_rfl
theorem run_eq44 (w : World) (d : Nat) (a b c e : Int) : (Op.equalIn (d + 2) 44 (.agg #[.int .i64 a, .int .i64 b]) (.agg #[.int .i64 c, .int .i64 e])).run Tryz.prog w = .ok (a == c && b == e) w := by
 have h0 : ∀ (x y : Value) (w : World), (part 3 #[x, y] 0).run Tryz.prog w = .ok x w := fun x y w => by
  kernel_rfl
 have h1 : ∀ (x y : Value) (w : World), (part 3 #[x, y] 1).run Tryz.prog w = .ok y w := fun x y w => by
  kernel_rfl
 have hi : ∀ (x y : Int) (w : World), (Op.equalIn (d + 1) 3 (.int .i64 x) (.int .i64 y)).run Tryz.prog w = .ok (x == y) w := fun x y w => run_equalIn_int w d 3 .i64 .i64 x y (by kernel_rfl)
 unfold Op.equalIn
 simp only [Sem.run_bind, run_underlying und44a, Result.andThen_ok, size3, Std.Legacy.Range.forIn_eq_forIn_range', Std.Legacy.Range.size, List.range', List.forIn_cons, List.forIn_nil]
 by_cases ha : a = c <;> by_cases hb : b = e <;> simp [ha, hb, h0, h1, hi, Sem.run_bind, Result.andThen_ok]
theorem list_eq_of {α : Type} {l m : List α} (hl : l.length = m.length) (h : ∀ i (h1 : i < l.length) (h2 : i < m.length), l[i] = m[i]) : l = m := List.ext_getElem hl h
set_option maxHeartbeats 4000000 in
theorem eqp_calls {w : World} {l m : List (Int × Int)} {p q : Option Addr} {n k c d : Nat} (hl : M.At (fun _ => True) w (pairsM l) (.slice p n c)) (hm : M.At (fun _ => True) w (pairsM m) (.slice q k d)) :
  Calls Tryz.prog 14 #[.slice p n c, .slice q k d] w (BoolPost w (l == m)) := by
 obtain ⟨rfl, hc1, hc2⟩ := pairs_room hl
 obtain ⟨rfl, hd1, hd2⟩ := pairs_room hm
 have HL := zh hl
 have HM := zh hm
 clear hl hm
 obtain ⟨RES, hres⟩ : ∃ RES, RES = (l == m) := ⟨_, rfl⟩
 rw [← hres]
 have HE := zh hres
 clear hres
 obtain ⟨n, hn⟩ : ∃ n, n = l.length := ⟨_, rfl⟩
 obtain ⟨k, hk⟩ : ∃ k, k = m.length := ⟨_, rfl⟩
 have HN := zh hn
 have HK := zh hk
 rw [← hn] at hc1 ⊢
 rw [← hk] at hd1 ⊢
 clear hn hk
 by_cases hnk : n = k
 ·subst hnk
  go_enter Tryz.func14, Tryz.ntmps14
  go_wp2_with fail
  go_loopw [13] (fun i wr => ∃ j : Nat, j ≤ n ∧ i = .int .i64 j ∧ Hid (Below w.heap.size w wr) ∧ Hid (∀ i, i < j → ∀ (h1 : i < l.length) (h2 : i < m.length), l[i] = m[i])) (fun i _ => n - (intOf i).toNat)
  case atStart => exact ⟨0, by omega, rfl, zh (Below.refl _ _), zh (fun i hi => absurd hi (Nat.not_lt_zero _))⟩
  case round =>
   obtain ⟨j, hj, rfl, HB, HF⟩ := hrel
   by_cases hlt : j < n
   ·have hj1 : j < l.length := by rw [← HN.o]; exact hlt
    have hj2 : j < m.length := by rw [← HK.o]; exact hlt
    obtain ⟨b1, o1, rfl, -, s0, s1⟩ := pair_get HL.o j hj1
    obtain ⟨b2, o2, rfl, -, t0, t1⟩ := pair_get HM.o j hj2
    have r0 := cell_below HB.o s0
    have r1 := cell_below HB.o s1
    have q0 := cell_below HB.o t0
    have q1 := cell_below HB.o t1
    have HP : Hid (l[j] = m[j] ↔ l[j].1 = m[j].1 ∧ l[j].2 = m[j].2) := zh Prod.ext_iff
    have HG := zh (show ∀ i, i < j + 1 → l[j] = m[j] → ∀ (h1 : i < l.length) (h2 : i < m.length), l[i] = m[i] from fun i hi e h1 h2 => by
     by_cases e2 : i = j
     ·subst e2; exact e
     ·exact HF.o i (by omega) h1 h2)
    have HX := zh (show ¬ l[j] = m[j] → RES = false from fun e => by rw [HE.o]; simp; intro e2; apply e; subst e2; rfl)
    clear s0 s1 t0 t1
    generalize l[j] = x at *
    generalize m[j] = y at *
    obtain ⟨a1, a2⟩ := x
    obtain ⟨b1', b2'⟩ := y
    dsimp only at r0 r1 q0 q1 HP
    by_cases hab : a1 = b1' ∧ a2 = b2'
    ·have HF2 := zh (fun i hi => HG.o i hi (HP.o.2 hab))
     obtain ⟨rfl, rfl⟩ := hab
     have hb1 : (a1 == a1 && a2 == a2) = true := by simp
     have heq := fun w => run_eq44 w 9998 a1 a2 a1 a2
     rw [hb1] at heq
     go_wp2_with fail
     go_quiet (fail)
     go_wp2_with fail
     exact ⟨⟨j + 1, by omega, by go_num, zh (below_drewN HB.o _), HF2⟩, by simp [intOf]; omega⟩
    ·have HF2 := zh (HX.o (fun e => hab (HP.o.1 e)))
     have hb1 : (a1 == b1' && a2 == b2') = false := by simpa using hab
     have heq := fun w => run_eq44 w 9998 a1 a2 b1' b2'
     rw [hb1] at heq
     go_wp2_with fail
     go_quiet (fail)
     go_wp2_with fail
     rw [HF2.o]
     go_ret
     exact ⟨rfl, below_drewN HB.o _⟩
   ·have hjn : j = n := by omega
    subst hjn
    have HT : Hid (RES = true) := zh (by
     rw [HE.o]
     simp
     exact list_eq_of (by rw [← HN.o, ← HK.o]) fun i h1 h2 => HF.o i (by rw [HN.o]; exact h1) h1 h2)
    go_wp2_with fail
    rw [HT.o]
    go_ret
    exact ⟨rfl, HB.o⟩
 ·have HF : Hid (RES = false) := zh (by rw [HE.o]; simp; intro e; apply hnk; rw [HN.o, HK.o, e])
  have hne : ((n : Int) != (k : Int)) = true := by simp; omega
  go_enter Tryz.func14, Tryz.ntmps14
  go_wp2_with fail
  rw [HF.o]
  go_ret
  exact ⟨rfl, Below.refl _ _⟩
theorem preE_sides {kind : Int} {x y : Sd} (h : preE kind x y = 0) : 0 ≤ x.n ∧ x.n ≤ 4096 ∧ 0 ≤ y.n ∧ y.n ≤ 4096 := by
 unfold preE at h
 by_cases h1 : schemaE x.L x.N ≠ 0 ∨ schemaE y.L y.N ≠ 0
 ·rw [if_pos h1] at h; omega
 rw [if_neg h1] at h
 by_cases h2 : sideE x.L x.l x.n ≠ 0
 ·rw [if_pos h2] at h; exact absurd h h2
 rw [if_neg h2] at h
 by_cases h3 : sideE y.L y.l y.n ≠ 0
 ·rw [if_pos h3] at h; exact absurd h h3
 obtain ⟨g1, g2⟩ := SideR.of (by simpa using h2)
 obtain ⟨g3, g4⟩ := SideR.of (by simpa using h3)
 have := g2.few
 have := g4.few
 omega
def eightF (nm : ByteArray) : Fd := .mk nm false 3 0 0 0 []
def eightD (s : ByteArray) : Dt := .mk s.size 0 0 [⟨#[]⟩, s] [] []
def eightS (nm s : ByteArray) : Sd := ⟨[eightF nm], [], s.size, [eightD s], [0]⟩
theorem aw_asked {k : Int} (hk : 1 ≤ k ∧ k ≤ 5) (a b : ByteArray) : askedE k [eightF a] [0] [eightF b] [0] = 0 := by
 have hK : ∀ c : ByteArray, keysB [eightF c].length [0] = true := fun c => keysB_iff.2 fun i hi => by
  have : i = 0 := by simpa using hi
  subst this
  exact ⟨⟨by simp, by simp⟩, by simp⟩
 unfold askedE
 rw [hK a, hK b, if_neg (by omega), if_neg (by simp), if_pos (by kernel_rfl)]
theorem aw_pairs : pairsS 3 (eightS ⟨#[97]⟩ ⟨#[5, 7, 5]⟩) (eightS ⟨#[98]⟩ ⟨#[8, 5]⟩) = ([(0, 1), (1, -1), (2, 1), (-1, 0)], 0) := by
 have h0 : preE 3 (eightS ⟨#[97]⟩ ⟨#[5, 7, 5]⟩) (eightS ⟨#[98]⟩ ⟨#[8, 5]⟩) = 0 := by
  have h1 : schemaE (eightS ⟨#[97]⟩ ⟨#[5, 7, 5]⟩).L (eightS ⟨#[97]⟩ ⟨#[5, 7, 5]⟩).N = 0 := by kernel_rfl
  have h2 : schemaE (eightS ⟨#[98]⟩ ⟨#[8, 5]⟩).L (eightS ⟨#[98]⟩ ⟨#[8, 5]⟩).N = 0 := by kernel_rfl
  have h3 : sideE (eightS ⟨#[97]⟩ ⟨#[5, 7, 5]⟩).L (eightS ⟨#[97]⟩ ⟨#[5, 7, 5]⟩).l (eightS ⟨#[97]⟩ ⟨#[5, 7, 5]⟩).n = 0 := by kernel_rfl
  have h4 : sideE (eightS ⟨#[98]⟩ ⟨#[8, 5]⟩).L (eightS ⟨#[98]⟩ ⟨#[8, 5]⟩).l (eightS ⟨#[98]⟩ ⟨#[8, 5]⟩).n = 0 := by kernel_rfl
  unfold preE
  rw [if_neg (by rw [h1, h2]; simp), if_neg (by rw [h3]; simp), if_neg (by rw [h4]; simp)]
  exact aw_asked (by decide) _ _
 unfold pairsS
 rw [if_neg (by rw [h0]; simp)]
 have h5 : pairsF 3 (meetS (eightS ⟨#[97]⟩ ⟨#[5, 7, 5]⟩) (eightS ⟨#[98]⟩ ⟨#[8, 5]⟩)) 3 2 = ([(0, 1), (1, -1), (2, 1), (-1, 0)], 0) := by kernel_rfl
 exact h5
theorem aw_type : (typeS 2 [eightF ⟨#[97]⟩] (sizesOf []) [0] [eightF ⟨#[98]⟩] (sizesOf []) [0]).1.length = 1 ∧ (typeS 2 [eightF ⟨#[97]⟩] (sizesOf []) [0] [eightF ⟨#[98]⟩] (sizesOf []) [0]).2 = 0 := by
 have h1 : schemaE [eightF ⟨#[97]⟩] (sizesOf []) = 0 := by kernel_rfl
 have h2 : schemaE [eightF ⟨#[98]⟩] (sizesOf []) = 0 := by kernel_rfl
 have h3 := aw_asked (k := 2) (by decide) ⟨#[97]⟩ ⟨#[98]⟩
 have h4 : schemaE (outL 2 [eightF ⟨#[97]⟩] [0] [eightF ⟨#[98]⟩] [0]) [] = 0 := by kernel_rfl
 unfold typeS
 rw [if_neg (by rw [h1, h2]; simp), if_neg (by rw [h3]; simp), if_neg (by decide), if_neg (by rw [h4]; simp)]
 exact ⟨by kernel_rfl, rfl⟩
def EightPost (w : World) (x : Sd) (e : Ending) (w' : World) : Prop := Below w.heap.size w w' ∧ ∃ fv cv kv, e = .returned (.agg #[fv, .slice none 0 0, .int .i64 x.n, cv, kv]) ∧ ArgAt w' x [] fv (.slice none 0 0) cv kv
theorem at_rows {S : Nat → Prop} {W : World} {b : Nat} {t : TypeId} {cs : List Value} {rows : List (List M)} {sz : Nat} (hb : BoxN W b t cs) (hS : S b) (h0 : 0 < sz) (hm : rows.length ≤ maxLen) (hr : ∀ (i : Nat) (hi : i < rows.length), ((cs.drop (i * sz)).take sz).length = sz ∧ M.AtL S W rows[i] ((cs.drop (i * sz)).take sz)) :
  M.At S W (.many sz rows) (.slice (some ⟨b, 0, none⟩) rows.length rows.length) := by
 refine M.At.of ⟨Nat.le_refl _, hm⟩ (M.RowsAt.mk h0 fun i hi => ?_)
 obtain ⟨h1, h2⟩ := hr i hi
 refine ⟨b, 0, _, rfl, hS, h1, fun j u hj => ?_, h2⟩
 have hjs : j < sz := by have := (List.getElem?_eq_some_iff.1 hj).1; rw [h1] at this; exact this
 rw [List.getElem?_take, if_pos hjs, List.getElem?_drop] at hj
 have := BoxN.row hb (i * sz + j) u hj
 rwa [show 0 + (0 + i * sz) + j = i * sz + j by omega]
set_option maxHeartbeats 4000000 in
theorem eights_calls {w : World} {nm s : ByteArray} {p : Option Addr} {c : Nat} (hs : M.At (fun _ => True) w (bytesM s) (.slice p s.size c)) (hn : s.size ≤ 100) (hnm : nm.size ≤ maxLen) : Calls Tryz.prog 16 #[.string nm, .slice p s.size c] w (EightPost w (eightS nm s)) := by
 obtain ⟨N, hN⟩ : ∃ N, N = w.heap.size := ⟨_, rfl⟩
 obtain ⟨V0, hV0⟩ : ∃ V0, V0 = w.alloc (.cells #[.slice (some ⟨N + 1, 0, none⟩) 1 1, .slice none 0 0, .int .i64 s.size, .slice (some ⟨N + 5, 0, none⟩) 1 1, .slice (some ⟨N + 6, 0, none⟩) 1 1] 32) := ⟨_, rfl⟩
 obtain ⟨V1, hV1⟩ : ∃ V1, V1 = V0.alloc (.cells #[.string nm, .bool false, .int .i64 3, .int .i64 0, .int .i64 0, .int .i64 0, .slice none 0 0] 59) := ⟨_, rfl⟩
 obtain ⟨V2, hV2⟩ : ∃ V2, V2 = V1.alloc (.cells #[.slice (some ⟨N + 1, 0, none⟩) 1 1, .slice none 0 0] 26) := ⟨_, rfl⟩
 obtain ⟨V3, hV3⟩ : ∃ V3, V3 = V2.alloc (.cells #[] 5) := ⟨_, rfl⟩
 obtain ⟨V4, hV4⟩ : ∃ V4, V4 = V3.alloc (.cells #[.slice (some ⟨N + 3, 0, none⟩) 0 0, .slice p s.size c] 72) := ⟨_, rfl⟩
 obtain ⟨V5, hV5⟩ : ∃ V5, V5 = V4.alloc (.cells #[.int .i64 s.size, .int .i64 0, .int .i64 0, .slice (some ⟨N + 4, 0, none⟩) 2 2, .slice none 0 0, .slice none 0 0] 75) := ⟨_, rfl⟩
 obtain ⟨V6, hV6⟩ : ∃ V6, V6 = V5.alloc (.cells #[.int .i64 0] 3) := ⟨_, rfl⟩
 have z0 : V0.heap.size = N + 1 := by rw [hV0, World.size_alloc, hN]
 have z1 : V1.heap.size = N + 2 := by rw [hV1, World.size_alloc, z0]
 have z2 : V2.heap.size = N + 3 := by rw [hV2, World.size_alloc, z1]
 have z3 : V3.heap.size = N + 4 := by rw [hV3, World.size_alloc, z2]
 have z4 : V4.heap.size = N + 5 := by rw [hV4, World.size_alloc, z3]
 have z5 : V5.heap.size = N + 6 := by rw [hV5, World.size_alloc, z4]
 have b0 : BoxN V6 N 32 [.slice (some ⟨N + 1, 0, none⟩) 1 1, .slice none 0 0, .int .i64 s.size, .slice (some ⟨N + 5, 0, none⟩) 1 1, .slice (some ⟨N + 6, 0, none⟩) 1 1] := by
  rw [hV6, hV5, hV4, hV3, hV2, hV1, hV0]; exact ((((((BoxN.new' hN.symm 32 _).alloc _).alloc _).alloc _).alloc _).alloc _).alloc _
 have b1 : BoxN V6 (N + 1) 59 [.string nm, .bool false, .int .i64 3, .int .i64 0, .int .i64 0, .int .i64 0, .slice none 0 0] := by
  rw [hV6, hV5, hV4, hV3, hV2, hV1]; exact (((((BoxN.new' z0 59 _).alloc _).alloc _).alloc _).alloc _).alloc _
 have b4 : BoxN V6 (N + 4) 72 [.slice (some ⟨N + 3, 0, none⟩) 0 0, .slice p s.size c] := by
  rw [hV6, hV5, hV4]; exact ((BoxN.new' z3 72 _).alloc _).alloc _
 have b5 : BoxN V6 (N + 5) 75 [.int .i64 s.size, .int .i64 0, .int .i64 0, .slice (some ⟨N + 4, 0, none⟩) 2 2, .slice none 0 0, .slice none 0 0] := by
  rw [hV6, hV5]; exact (BoxN.new' z4 75 _).alloc _
 have b6 : BoxN V6 (N + 6) 3 [.int .i64 0] := by rw [hV6]; exact BoxN.new' z5 3 _
 have hB : Below w.heap.size w V6 := by
  rw [hV6, hV5, hV4, hV3, hV2, hV1, hV0]
  exact (((((((Below.refl _ w).alloc (Nat.le_refl _) _).alloc (by simp) _).alloc (by simp; omega) _).alloc (by simp; omega) _).alloc (by simp; omega) _).alloc (by simp; omega) _).alloc (by simp; omega) _
 have hW : V6 = ((((((w.alloc (.cells #[.slice (some ⟨N + 1, 0, none⟩) 1 1, .slice none 0 0, .int .i64 s.size, .slice (some ⟨N + 5, 0, none⟩) 1 1, .slice (some ⟨N + 6, 0, none⟩) 1 1] 32)).alloc (.cells #[.string nm, .bool false, .int .i64 3, .int .i64 0, .int .i64 0, .int .i64 0, .slice none 0 0] 59)).alloc (.cells #[.slice (some ⟨N + 1, 0, none⟩) 1 1, .slice none 0 0] 26)).alloc (.cells #[] 5)).alloc (.cells #[.slice (some ⟨N + 3, 0, none⟩) 0 0, .slice p s.size c] 72)).alloc (.cells #[.int .i64 s.size, .int .i64 0, .int .i64 0, .slice (some ⟨N + 4, 0, none⟩) 2 2, .slice none 0 0, .slice none 0 0] 75)).alloc (.cells #[.int .i64 0] 3) := by
  rw [hV6, hV5, hV4, hV3, hV2, hV1, hV0]
 have hArg : ArgAt V6 (eightS nm s) [] (.slice (some ⟨N + 1, 0, none⟩) 1 1) (.slice none 0 0) (.slice (some ⟨N + 5, 0, none⟩) 1 1) (.slice (some ⟨N + 6, 0, none⟩) 1 1) := by
  refine ⟨⟨_, 1, rfl, Nat.le_refl _, by unfold maxLen; decide, FdsC.mk' fun i hi => ?_⟩, ⟨none, 0, rfl, Nat.le_refl _, Nat.zero_le _, fun i hi => absurd hi (Nat.not_lt_zero _)⟩, rfl, ⟨_, 1, rfl, Nat.le_refl _, by unfold maxLen; decide, fun i hi => ?_⟩, ?_, ?_, ?_⟩
  ·have : i = 0 := by simpa [eightS] using hi
   subst this
   refine ⟨N + 1, 0, [.string nm, .bool false, .int .i64 3, .int .i64 0, .int .i64 0, .int .i64 0, .slice none 0 0], rfl, fun j u hj => ?_, ?_⟩
   ·have := BoxN.row b1 j u hj
    simpa using this
   ·show FdAt V6 (eightF nm) _
    unfold eightF
    simp only [FdAt]
    exact ⟨hnm, ⟨by decide, by decide⟩, ⟨by decide, by decide⟩, ⟨by decide, by decide⟩, ⟨by decide, by decide⟩, none, 0, rfl, Nat.le_refl _, Nat.zero_le _, trivial⟩
  ·have : i = 0 := by simpa [eightS] using hi
   subst this
   exact ⟨⟨by simp [eightS], by simp [eightS]⟩, N + 6, 0, rfl, BoxN.row b6 0 _ rfl⟩
  ·refine at_rows (rows := [eightD s].map dtR) b5 trivial (by decide) (by simp [maxLen]) fun i hi => ?_
   have : i = 0 := by simpa using hi
   subst this
   refine ⟨rfl, ?_⟩
   show M.AtL _ _ (dtR (eightD s)) _
   rw [dtR_eq]
   refine M.AtL.cons M.At.one (M.AtL.cons M.At.one (M.AtL.cons M.At.one (M.AtL.cons ?_ (M.AtL.cons (M.At.nil _ _ 6) (M.AtL.cons (M.At.nil _ _ 6) M.AtL.nil)))))
   refine at_rows (rows := [[bytesM ⟨#[]⟩], [bytesM s]]) b4 trivial (by decide) (by simp [maxLen]) fun i hi => ?_
   have : i = 0 ∨ i = 1 := by simp at hi; omega
   rcases this with rfl | rfl
   ·refine ⟨rfl, M.AtL.cons ?_ M.AtL.nil⟩
    exact M.At.of (rows := []) ⟨Nat.le_refl _, Nat.zero_le _⟩ (by simp only [M.RowsAt])
   ·exact ⟨rfl, M.AtL.cons (M.At.below hB hs) M.AtL.nil⟩
  ·intro d hd
   have : d = eightD s := by simpa [eightS] using hd
   subst this
   exact .mk ⟨by show (-9223372036854775808 : Int) ≤ (s.size : Int); omega, by show (s.size : Int) ≤ _; omega⟩ (fun _ h => by cases h) (fun _ h => by cases h)
  ·exact ⟨by show (-9223372036854775808 : Int) ≤ (s.size : Int); omega, by show (s.size : Int) ≤ _; omega⟩
 have HArg := zh hArg
 have HB := zh hB
 have HW := zh hW
 have HBX := zh b0
 have HN := zh hN
 clear hs hArg hB hW b0 b1 b4 b5 b6 z0 z1 z2 z3 z4 z5 hV0 hV1 hV2 hV3 hV4 hV5 hV6 hN V0 V1 V2 V3 V4 V5
 go_enter Tryz.func16, Tryz.ntmps16
 go_wp2_with fail
 rw [← HN.o]
 simp only [Nat.add_assoc, Nat.reduceAdd]
 rw [← HW.o]
 have c0 := HBX.o.row 0 _ rfl
 have c1 := HBX.o.row 1 _ rfl
 have c2 := HBX.o.row 2 _ rfl
 have c3 := HBX.o.row 3 _ rfl
 have c4 := HBX.o.row 4 _ rfl
 refine bodyPost_ret (v := .agg #[.slice (some ⟨N + 1, 0, none⟩) 1 1, .slice none 0 0, .int .i64 s.size, .slice (some ⟨N + 5, 0, none⟩) 1 1, .slice (some ⟨N + 6, 0, none⟩) 1 1]) ?_ rfl ⟨HB.o, _, _, _, rfl, HArg.o⟩
 simp [results, Tryz.f16, go_sem, c0, c1, c2, c3, c4]
theorem bytes_box {W : World} {b : Nat} {t : TypeId} {s : ByteArray} (h : BoxN W b t (s.data.toList.map fun x => Value.int .u8 (x.toNat : Int))) (hs : s.size ≤ maxLen) : M.At (fun _ => True) W (bytesM s) (.slice (some ⟨b, 0, none⟩) s.size s.size) := by
 have := at_rows (S := fun _ => True) (rows := s.data.toList.map fun x => [M.one (.int .u8 (x.toNat : Int))]) h trivial (sz := 1) (by decide) (by simpa using hs) (fun i hi => by
  have hi' : i < s.data.toList.length := by simpa using hi
  have e : ((s.data.toList.map fun x => Value.int .u8 (x.toNat : Int)).drop (i * 1)).take 1 = [Value.int .u8 (s.data.toList[i].toNat : Int)] := by
   rw [Nat.mul_one, List.drop_eq_getElem_cons (by simpa using hi')]
   simp
  rw [e, List.getElem_map]
  exact ⟨rfl, M.AtL.cons M.At.one M.AtL.nil⟩)
 have hl : (s.data.toList.map fun x => [M.one (.int .u8 (x.toNat : Int))]).length = s.size := by simp
 rw [hl] at this
 exact this
theorem zero_ints {W : World} {b : Nat} (h : BoxN W b 3 [.int .i64 0]) : IntsAt W [0] (.slice (some ⟨b, 0, none⟩) 1 1) :=
 ⟨_, 1, rfl, Nat.le_refl _, by unfold maxLen; decide, fun i hi => by
  have : i = 0 := by simpa using hi
  subst this
  exact ⟨⟨by simp, by simp⟩, b, 0, rfl, h.row 0 _ rfl⟩⟩
def awL : List (Int × Int) := [(0, 1), (1, -1), (2, 1), (-1, 0)]
theorem lits_box {W : World} {b : Nat} (h : BoxN W b 44 [.int .i64 0, .int .i64 1, .int .i64 1, .int .i64 (-1), .int .i64 2, .int .i64 1, .int .i64 (-1), .int .i64 0]) : M.At (fun _ => True) W (pairsM awL) (.slice (some ⟨b, 0, none⟩) 4 4) := by
 refine at_rows (rows := awL.map pairRow) (sz := 2) h trivial (by decide) (by simp [maxLen, awL]) (fun i hi => ?_)
 have : i = 0 ∨ i = 1 ∨ i = 2 ∨ i = 3 := by simp [awL] at hi; omega
 rcases this with rfl | rfl | rfl | rfl <;> exact ⟨rfl, M.AtL.cons M.At.one (M.AtL.cons M.At.one M.AtL.nil)⟩
theorem field32 (a b c d e : Value) (w : World) : (Instr.field 32 (.agg #[a, b, c, d, e]) 0).run Tryz.prog w = .ok (.agg #[a, b]) w := by kernel_rfl
set_option maxHeartbeats 16000000 in
theorem awake_yes {w : World} (hT : TabsAt w) : Calls Tryz.prog 7 #[] w (YesPost w) := by
 have HT := zh hT
 clear hT
 obtain ⟨W1, hW1⟩ : ∃ W1, W1 = w.alloc (.cells #[.int .u8 5, .int .u8 7, .int .u8 5] 5) := ⟨_, rfl⟩
 have hB1 : Below w.heap.size w W1 := by rw [hW1]; exact (Below.refl _ w).alloc (Nat.le_refl _) _
 have HC1 : Hid (Calls Tryz.prog 16 #[.string ⟨#[97]⟩, .slice (some ⟨w.heap.size, 0, none⟩) 3 3] W1 (EightPost W1 (eightS ⟨#[97]⟩ ⟨#[5, 7, 5]⟩))) := zh (eights_calls (s := ⟨#[5, 7, 5]⟩) (bytes_box (t := 5) (by rw [hW1]; exact BoxN.new w 5 _) (by unfold maxLen; decide)) (by decide) (by unfold maxLen; decide))
 have HW1 := zh hW1
 have HB1 := zh hB1
 clear hW1 hB1
 go_enter Tryz.func7, Tryz.ntmps7
 go_wp2_with fail
 rw [← HW1.o]
 clear HW1
 refine HC1.o.mono ?_
 rintro e W2 ⟨hb2, f1, c1, k1, rfl, ha1⟩
 have HB2 := zh (HB1.o.trans (hb2.mono HB1.o.size))
 have HA1 := zh ha1
 clear hb2 ha1 HC1
 obtain ⟨W3, hW3⟩ : ∃ W3, W3 = W2.alloc (.cells #[.int .u8 8, .int .u8 5] 5) := ⟨_, rfl⟩
 have hB3 : Below W2.heap.size W2 W3 := by rw [hW3]; exact (Below.refl _ W2).alloc (Nat.le_refl _) _
 have HC2 : Hid (Calls Tryz.prog 16 #[.string ⟨#[98]⟩, .slice (some ⟨W2.heap.size, 0, none⟩) 2 2] W3 (EightPost W3 (eightS ⟨#[98]⟩ ⟨#[8, 5]⟩))) := zh (eights_calls (s := ⟨#[8, 5]⟩) (bytes_box (t := 5) (by rw [hW3]; exact BoxN.new W2 5 _) (by unfold maxLen; decide)) (by decide) (by unfold maxLen; decide))
 have HW3 := zh hW3
 have HA1 := zh (HA1.o.below hB3)
 have HB3 := zh (HB2.o.trans (hB3.mono HB2.o.size))
 clear hW3 hB3
 go_wp2_with fail
 rw [← HW3.o]
 clear HW3
 refine HC2.o.mono ?_
 rintro e W4 ⟨hb4, f2, c2, k2, rfl, ha2⟩
 have HB4 := zh (HB3.o.trans (hb4.mono HB3.o.size))
 have HC3 := lpairs_calls (HA1.o.below hb4) ha2 (HT.o.below HB4.o) 3
 rw [aw_pairs] at HC3
 have HC3 := zh HC3
 clear hb4 ha2 HC2 HA1
 go_wp2_with fail
 refine HC3.o.mono ?_
 rintro e W5 ⟨hb5, q, c, rfl, hat⟩
 have HAT := zh (M.At.mono (T := fun _ => True) (fun _ _ => trivial) hat)
 have HB5 := zh (HB4.o.trans (hb5.mono HB4.o.size))
 have HC4 : Hid (Calls Tryz.prog 16 #[.string ⟨#[97]⟩, .slice none 0 0] W5 (EightPost W5 (eightS ⟨#[97]⟩ ⟨#[]⟩))) := zh (eights_calls (s := ⟨#[]⟩) (p := none) (c := 0) (M.At.nil _ _ 1) (by decide) (by unfold maxLen; decide))
 clear hb5 hat HC3
 have hfi := field32
 go_wp2_with fail
 refine HC4.o.mono ?_
 rintro e W6 ⟨hb6, f3, c3, k3, rfl, ha3⟩
 have HAT := zh (HAT.o.below hb6)
 have HB6 := zh (HB5.o.trans (hb6.mono HB5.o.size))
 have HA3 := zh ha3.fds
 clear hb6 ha3 HC4
 obtain ⟨W7, hW7⟩ : ∃ W7, W7 = W6.alloc (.cells #[.int .i64 0] 3) := ⟨_, rfl⟩
 have hB7 : Below W6.heap.size W6 W7 := by rw [hW7]; exact (Below.refl _ W6).alloc (Nat.le_refl _) _
 have HI7 := zh (zero_ints (show BoxN W7 W6.heap.size 3 [.int .i64 0] by rw [hW7]; exact BoxN.new W6 3 _))
 have HC5 : Hid (Calls Tryz.prog 16 #[.string ⟨#[98]⟩, .slice none 0 0] W7 (EightPost W7 (eightS ⟨#[98]⟩ ⟨#[]⟩))) := zh (eights_calls (s := ⟨#[]⟩) (p := none) (c := 0) (M.At.nil _ _ 1) (by decide) (by unfold maxLen; decide))
 have HW7 := zh hW7
 have HA3 := zh (HA3.o.below hB7)
 have HAT := zh (HAT.o.below hB7)
 have HB7 := zh (HB6.o.trans (hB7.mono HB6.o.size))
 clear hW7 hB7
 go_wp2_with fail
 rw [← HW7.o]
 clear HW7
 refine HC5.o.mono ?_
 rintro e W8 ⟨hb8, f4, c4, k4, rfl, ha4⟩
 have HAT := zh (HAT.o.below hb8)
 have HA3 := zh (HA3.o.below hb8)
 have HI7 := zh (HI7.o.below hb8)
 have HB8 := zh (HB7.o.trans (hb8.mono HB7.o.size))
 have HA4 := zh ha4.fds
 clear hb8 ha4 HC5
 obtain ⟨W9, hW9⟩ : ∃ W9, W9 = W8.alloc (.cells #[.int .i64 0] 3) := ⟨_, rfl⟩
 have hB9 : Below W8.heap.size W8 W9 := by rw [hW9]; exact (Below.refl _ W8).alloc (Nat.le_refl _) _
 have HI9 := zh (zero_ints (show BoxN W9 W8.heap.size 3 [.int .i64 0] by rw [hW9]; exact BoxN.new W8 3 _))
 have HAT := zh (HAT.o.below hB9)
 have HB9 := zh (HB8.o.trans (hB9.mono HB8.o.size))
 have hn : ∀ W, NtsAt W [] (.slice none 0 0) := fun W => ⟨none, 0, rfl, Nat.le_refl _, Nat.zero_le _, fun i hi => absurd hi (Nat.not_lt_zero _)⟩
 have hc6 := type_calls 2 (HA3.o.below hB9) (hn W9) (HI7.o.below hB9) (HA4.o.below hB9) (hn W9) HI9.o (HT.o.s.below HB9.o)
 have hty := aw_type
 obtain ⟨TS, hTS⟩ : ∃ TS, TS = typeS 2 [eightF ⟨#[97]⟩] (sizesOf []) [0] [eightF ⟨#[98]⟩] (sizesOf []) [0] := ⟨_, rfl⟩
 have hc6 : Calls Tryz.prog 8 #[.int .i64 2, .agg #[f3, .slice none 0 0], .slice (some ⟨W6.heap.size, 0, none⟩) 1 1, .agg #[f4, .slice none 0 0], .slice (some ⟨W8.heap.size, 0, none⟩) 1 1] W9 (SchemaPost W9 TS) := by rw [hTS]; exact hc6
 rw [← hTS] at hty
 obtain ⟨TL, TE⟩ := TS
 obtain ⟨ht1, ht2⟩ := hty
 dsimp only at ht1 ht2
 subst ht2
 have HC6 := zh hc6
 have HT1 := zh ht1
 have HW9 := zh hW9
 clear hc6 hn hW9 hB9 hTS ht1
 go_wp2_with fail
 rw [← HW9.o]
 clear HW9
 refine HC6.o.mono ?_
 rintro e W10 ⟨tv, rfl, htv, hb10⟩
 obtain ⟨tp, tc, htv, -⟩ := htv
 have htl : TL.length = 1 := HT1.o
 dsimp only at htv
 rw [htl] at htv
 subst htv
 have HAT := zh (HAT.o.below hb10)
 have HB10 := zh (HB9.o.trans (hb10.mono HB9.o.size))
 clear hb10 HC6 htl
 have h00 : ((0 : Int) == 0) = true := rfl
 go_wp2_with fail
 obtain ⟨W11, hW11⟩ : ∃ W11, W11 = (W10.alloc (Obj.cells #[.slice tp 1 tc, .slice none 0 0] 26)).alloc (Obj.cells #[.int .i64 0, .int .i64 1, .int .i64 1, .int .i64 (-1), .int .i64 2, .int .i64 1, .int .i64 (-1), .int .i64 0] 44) := ⟨_, rfl⟩
 have hB11 : Below W10.heap.size W10 W11 := by rw [hW11]; exact ((Below.refl _ W10).alloc (Nat.le_refl _) _).alloc (by simp) _
 have b1 : BoxN W11 W10.heap.size 26 [.slice tp 1 tc, .slice none 0 0] := by rw [hW11]; exact (BoxN.new W10 26 _).alloc _
 have b2 : BoxN W11 (W10.heap.size + 1) 44 [.int .i64 0, .int .i64 1, .int .i64 1, .int .i64 (-1), .int .i64 2, .int .i64 1, .int .i64 (-1), .int .i64 0] := by rw [hW11]; exact BoxN.new' (by rw [World.size_alloc]) 44 _
 have HB11 := zh (HB10.o.trans (hB11.mono HB10.o.size))
 have HX := zh b1
 have HC7 := zh (eqp_calls (HAT.o.below hB11) (lits_box b2))
 rw [← hW11]
 clear hW11 hB11 b1 b2
 refine HC7.o.mono ?_
 rintro e W12 ⟨rfl, hb12⟩
 have HX := zh (HX.o.below hb12 HX.o.lt)
 have HB12 := zh (HB11.o.trans (hb12.mono HB11.o.size))
 have hq : ((([(0, 1), (1, -1), (2, 1), (-1, 0)] : List (Int × Int))) == awL) = true := by decide
 rw [hq]
 have x0 := HX.o.row 0 _ rfl
 have hlx := HX.o.lt
 clear hb12 HC7 hq
 go_wp2_with fail
 go_ret
 exact ⟨rfl, HB12.o⟩
set_option maxHeartbeats 4000000 in
theorem hasp_calls {w : World} {l : List (Int × Int)} {p : Option Addr} {n c : Nat} {a b : Int} (hl : M.At (fun _ => True) w (pairsM l) (.slice p n c)) (hmem : (a, b) ∈ l) :
  Calls Tryz.prog 13 #[.slice p n c, .agg #[.int .i64 a, .int .i64 b]] w (BoolPost w true) := by
 obtain ⟨rfl, hc1, hc2⟩ := pairs_room hl
 have HL := zh hl
 have HM := zh hmem
 obtain ⟨n, hn⟩ : ∃ n, n = l.length := ⟨_, rfl⟩
 have HN := zh hn
 rw [← hn] at hc1 ⊢
 clear hl hmem hn
 obtain ⟨W, hW, a0, hBW⟩ := boxes1 w 44 [.int .i64 a, .int .i64 b]
 have A0 := zh a0
 have HBW := zh hBW
 have HW := zh hW
 have hlw := a0.lt
 clear a0 hBW hW
 go_enter Tryz.func13, Tryz.ntmps13
 go_wp2_with fail
 rw [← HW.o]
 clear HW
 go_loopw [9] (fun i wr => ∃ j : Nat, j ≤ n ∧ i = .int .i64 j ∧ Hid (Below W.heap.size W wr) ∧ Hid (∀ i, i < j → ∀ (h1 : i < l.length), l[i] ≠ (a, b))) (fun i _ => n - (intOf i).toNat)
 case atStart => exact ⟨0, by omega, rfl, zh (Below.refl _ _), zh (fun i hi => absurd hi (Nat.not_lt_zero _))⟩
 case round =>
  obtain ⟨j, hj, rfl, HB, HF⟩ := hrel
  have HBw := zh (HBW.o.trans (HB.o.mono HBW.o.size))
  by_cases hlt : j < n
  ·have hj1 : j < l.length := by rw [← HN.o]; exact hlt
   obtain ⟨b1, o1, rfl, -, s0, s1⟩ := pair_get HL.o j hj1
   have r0 := cell_below HBw.o s0
   have r1 := cell_below HBw.o s1
   have AR := zh (A0.o.below HB.o A0.o.lt)
   have q0 := AR.o.row 0 _ rfl
   have q1 := AR.o.row 1 _ rfl
   have hlr := AR.o.lt
   have HG := zh (show l[j] ≠ (a, b) → ∀ i, i < j + 1 → ∀ (h1 : i < l.length), l[i] ≠ (a, b) from fun e i hi h1 => by
    by_cases e2 : i = j
    ·subst e2; exact e
    ·exact HF.o i (by omega) h1)
   clear s0 s1
   generalize l[j] = x at *
   obtain ⟨u, v⟩ := x
   dsimp only at r0 r1
   have HV : Hid (Below wr.heap.size wr (wr.alloc (.cells #[.int .i64 u, .int .i64 v] 44))) := zh ((Below.refl _ wr).alloc (Nat.le_refl _) _)
   have HVW := zh (HB.o.trans (HV.o.mono HB.o.size))
   have HVw := zh (HBw.o.trans (HV.o.mono HBw.o.size))
   by_cases hab : u = a ∧ v = b
   ·obtain ⟨rfl, rfl⟩ := hab
    have hb1 : (u == u && v == v) = true := by simp
    have heq := fun w => run_eq44 w 9998 u v u v
    rw [hb1] at heq
    go_wp2_with fail
    go_ret
    exact ⟨rfl, HVw.o⟩
   ·have HG2 := zh (HG.o (fun e => hab (by injection e with e1 e2; exact ⟨e1, e2⟩)))
    have hb1 : (u == a && v == b) = false := by simpa using hab
    have heq := fun w => run_eq44 w 9998 u v a b
    rw [hb1] at heq
    clear hb1
    have HAB := zh hab
    clear hab
    go_wp2_with fail
    exact ⟨⟨j + 1, by omega, by go_num, HVW, HG2⟩, by simp [intOf]; omega⟩
  ·exfalso
   obtain ⟨i, hi, e⟩ := List.getElem_of_mem HM.o
   exact HF.o i (by have := HN.o; omega) hi e
set_option maxHeartbeats 8000000 in
theorem split_calls {w : World} {G : Nat → List Nat} {n : Nat} {p q : Option Addr} {k1 k2 c d : Nat} (hs : M.At (fun _ => True) w (pairsM (smL true G n)) (.slice p k1 c)) (ha : M.At (fun _ => True) w (pairsM (smL false G n)) (.slice q k2 d)) (hn : n ≤ 4096) :
  Calls Tryz.prog 12 #[.slice p k1 c, .slice q k2 d, .int .i64 n] w (BoolPost w true) := by
 obtain ⟨hk1, hc1, hc2⟩ := pairs_room hs
 obtain ⟨hk2, hd1, hd2⟩ := pairs_room ha
 have HK1 := zh hk1
 have HK2 := zh hk2
 have HS := zh hs
 have HA := zh ha
 have hlen := smL_len G n
 rw [← hk1, ← hk2] at hlen
 clear hk1 hk2 hs ha
 go_enter Tryz.func12, Tryz.ntmps12
 go_wp2_with fail
 go_loopw [7, 8, 9] (fun i k r wr => ∃ (i' k' r' : Nat), r' ≤ n ∧ i' ≤ r' ∧ k' ≤ r' ∧ i = .int .i64 i' ∧ k = .int .i64 k' ∧ r = .int .i64 r' ∧ wr = w ∧ Hid (i' = (smL true G r').length ∧ k' = (smL false G r').length)) (fun _ _ r _ => n - (intOf r).toNat)
 case atStart => exact ⟨0, 0, 0, by omega, by omega, by omega, rfl, rfl, rfl, rfl, zh ⟨rfl, rfl⟩⟩
 case round =>
  obtain ⟨i, k, r, hr, hi, hk, rfl, rfl, rfl, rfl, HJ⟩ := hrel
  by_cases hlt : r < n
  ·have HN : Hid ((smL true G (r + 1)).length = i + (someW true r (G r)).length ∧ (smL false G (r + 1)).length = k + (someW false r (G r)).length) := zh (by
    unfold smL at HJ ⊢
    rw [rowsL_succ, rowsL_succ, List.length_append, List.length_append]
    exact ⟨by rw [HJ.o.1], by rw [HJ.o.2]⟩)
   by_cases hm : 0 < (G r).length
   ·have hw1 : someW true r (G r) = [((r : Int), -1)] := by unfold someW; rw [if_pos (decide_eq_true hm)]
    have hw2 : someW false r (G r) = [] := by unfold someW; rw [if_neg (by rw [decide_eq_true hm]; decide)]
    have hg := rowsL_get (W := fun r => someW true r (G r)) hlt hw1
    have hg : (smL true G n)[i]? = some ((r : Int), -1) := by rw [HJ.o.1]; exact hg
    obtain ⟨hil, hie⟩ := List.getElem?_eq_some_iff.1 hg
    obtain ⟨b1, o1, rfl, -, s0, s1⟩ := pair_get HS.o i hil
    rw [hie] at s0 s1
    rw [← HK1.o] at hil
    have HJ2 : Hid (i + 1 = (smL true G (r + 1)).length ∧ k = (smL false G (r + 1)).length) := zh (by rw [HN.o.1, HN.o.2, hw1, hw2]; exact ⟨rfl, rfl⟩)
    have hb1 : ((r : Int) == (r : Int) && (-1 : Int) == -1) = true := by simp
    have heq := fun w => run_eq44 w 9998 r (-1) r (-1)
    rw [hb1] at heq
    clear hw1 hw2 hg hie hm HN
    go_wp2_with fail
    go_roundw
    case rel => exact ⟨i + 1, k, r + 1, by omega, by omega, by omega, by go_num, rfl, by go_num, trivial, HJ2⟩
    case measure => simp [intOf]; omega
   ·have hw1 : someW true r (G r) = [] := by unfold someW; rw [if_neg (by rw [decide_eq_false hm]; decide)]
    have hw2 : someW false r (G r) = [((r : Int), -1)] := by unfold someW; rw [if_pos (decide_eq_false hm)]
    have hg := rowsL_get (W := fun r => someW false r (G r)) hlt hw2
    have hg : (smL false G n)[k]? = some ((r : Int), -1) := by rw [HJ.o.2]; exact hg
    have hno : ∀ p, (smL true G n)[i]? = some p → (r : Int) < p.1 := fun p hp => rowsL_none (W := fun r => someW true r (G r)) (fun r => someW_row true r (G r)) hlt hw1 (by rw [← show i = (rowsL (fun r => someW true r (G r)) r).length from HJ.o.1]; exact hp)
    obtain ⟨hkl, hke⟩ := List.getElem?_eq_some_iff.1 hg
    obtain ⟨b2, o2, rfl, -, t0, t1⟩ := pair_get HA.o k hkl
    rw [hke] at t0 t1
    rw [← HK2.o] at hkl
    have HJ2 : Hid (i = (smL true G (r + 1)).length ∧ k + 1 = (smL false G (r + 1)).length) := zh (by rw [HN.o.1, HN.o.2, hw1, hw2]; exact ⟨rfl, rfl⟩)
    have hb1 : ((r : Int) == (r : Int) && (-1 : Int) == -1) = true := by simp
    have heq := fun w => run_eq44 w 9998 r (-1) r (-1)
    rw [hb1] at heq
    clear hw1 hw2 hg hke hm HN
    by_cases hi2 : i < k1
    ·have hil : i < (smL true G n).length := by rw [← HK1.o]; exact hi2
     obtain ⟨b1, o1, rfl, -, s0, s1⟩ := pair_get HS.o i hil
     have h9 := hno _ (List.getElem?_eq_getElem hil)
     clear hno
     generalize (smL true G n)[i] = x at *
     obtain ⟨u, v⟩ := x
     dsimp only at s0 s1 h9
     have hb2 : (u == (r : Int) && v == -1) = false := by
      rw [Bool.and_eq_false_iff]; left; simp; omega
     have heq2 := fun w => run_eq44 w 9998 u v r (-1)
     rw [hb2] at heq2
     clear h9 hb2 hb1
     go_wp2_with fail
     go_roundw
     case rel => exact ⟨i, k + 1, r + 1, by omega, by omega, by omega, rfl, by go_num, by go_num, trivial, HJ2⟩
     case measure => simp [intOf]; omega
    ·clear hno
     go_wp2_with fail
     go_roundw
     case rel => exact ⟨i, k + 1, r + 1, by omega, by omega, by omega, rfl, by go_num, by go_num, trivial, HJ2⟩
     case measure => simp [intOf]; omega
  ·go_wp2_with fail
   go_ret
   exact ⟨rfl, Below.refl _ _⟩
theorem anyp_take {l : List (Int × Int)} {k : Nat} (h : k < l.length) (j : Nat) : ((l.take (k + 1)).any fun p => decide (p.2 = (j : Int))) = (((l.take k).any fun p => decide (p.2 = (j : Int))) || decide (l[k].2 = (j : Int))) := by
 rw [List.take_succ_eq_append_getElem h, List.any_append]
 simp
set_option maxHeartbeats 8000000 in
theorem rest_calls {w : World} {l : List (Int × Int)} {B : Nat → Bool} {n : Nat} {p q : Option Addr} {k1 k2 c d : Nat} (hf : M.At (fun _ => True) w (pairsM (freeL B n)) (.slice p k1 c)) (hl : M.At (fun _ => True) w (pairsM l) (.slice q k2 d)) (hn : n ≤ 4096)
  (hr : ∀ p ∈ l, 0 ≤ p.2 ∧ p.2 < (n : Int)) (hB : ∀ j, B j = l.any fun p => decide (p.2 = (j : Int))) :
  Calls Tryz.prog 15 #[.slice p k1 c, .slice q k2 d, .int .i64 n] w (BoolPost w true) := by
 obtain ⟨hk1, hc1, hc2⟩ := pairs_room hf
 obtain ⟨hk2, hd1, hd2⟩ := pairs_room hl
 have HK1 := zh hk1
 have HK2 := zh hk2
 have HF := zh hf
 have HL := zh hl
 have HR := zh hr
 have HBJ := zh hB
 have hmk : ∀ W : World, (Instr.makeSlice 71 (.int .i64 (n : Int)) (.int .i64 (n : Int))).run Tryz.prog W = .ok (.slice (some ⟨W.heap.size, 0, none⟩) n n) (W.alloc (.cells (Array.replicate n (.bool false)) 4)) := fun W => run_make71 W n hn
 clear hk1 hk2 hf hl hr hB
 go_enter Tryz.func15, Tryz.ntmps15
 go_wp2_with fail
 clear hmk
 obtain ⟨W3, hW3⟩ : ∃ W3, W3 = w.alloc (.cells (Array.replicate n (.bool false)) 4) := ⟨_, rfl⟩
 obtain ⟨ub, hub⟩ : ∃ ub, ub = w.heap.size := ⟨_, rfl⟩
 have hsz3 : W3.heap.size = ub + 1 := by rw [hW3, World.size_alloc, hub]
 have HU3 : Hid (BoolsAt W3 ub n (fun j => (l.take 0).any fun p => decide (p.2 = (j : Int)))) := zh (by rw [hW3, hub]; exact (bools_new w n).congr fun j => rfl)
 have HB3 : Hid (Below w.heap.size w W3) := zh (by rw [hW3]; exact (Below.refl _ w).alloc (Nat.le_refl _) _)
 have HUB := zh hub
 rw [← hW3, ← hub]
 clear hW3 hub
 go_loopw [16] (fun i wr => ∃ k : Nat, k ≤ k2 ∧ i = .int .i64 k ∧ Hid (BoolsAt wr ub n (fun j => (l.take k).any fun p => decide (p.2 = (j : Int)))) ∧ Hid (W3.grownBy wr (some ub))) (fun i _ => k2 - (intOf i).toNat)
 case atStart => exact ⟨0, by omega, rfl, HU3, zh (World.grownBy.refl _ _)⟩
 case round =>
  obtain ⟨k, hk, rfl, HU, HG⟩ := hrel
  have HBR : Hid (Below w.heap.size w wr) := zh (grown_base HB3.o HG.o (by have := HUB.o; omega))
  have hwr : ub + 1 ≤ wr.heap.size := by have := HG.o.size; omega
  by_cases hlt : k < k2
  ·have hkl : k < l.length := by rw [← HK2.o]; exact hlt
   obtain ⟨b1, o1, rfl, -, s0, s1⟩ := pair_get HL.o k hkl
   have r0 := cell_below HBR.o s0
   have r1 := cell_below HBR.o s1
   have HTC := zh (anyp_take hkl)
   obtain ⟨hx0, hx1⟩ := HR.o l[k] (List.getElem_mem hkl)
   clear s0 s1
   generalize l[k] = x at *
   obtain ⟨u, v⟩ := x
   dsimp only at r0 r1 HTC hx0 hx1
   obtain ⟨x, rfl⟩ := Int.eq_ofNat_of_zero_le hx0
   have hxn : x < n := by omega
   clear hx0 hx1
   have HV : Hid (Below wr.heap.size wr (wr.alloc (.cells #[.int .i64 u, .int .i64 x] 44))) := zh ((Below.refl _ wr).alloc (Nat.le_refl _) _)
   have HUV := zh (HU.o.below HV.o)
   have u0 := HUV.o.get hxn
   have z0 := HUV.o.frozen x
   have HGV := zh (grown_below HG.o HV.o)
   go_wp2_with fail
   go_roundw
   case rel => exact ⟨k + 1, by omega, by go_num, zh ((HUV.o.set x).congr fun j => by rw [HTC.o j]; congr 1; exact decide_eq_decide.2 (by omega)), zh (grown_trans HGV.o (grown_set _))⟩
   case measure => simp [intOf]; omega
  ·have hkl : k = l.length := by rw [← HK2.o]; omega
   have HU2 : Hid (BoolsAt wr ub n B) := zh (HU.o.congr fun j => by rw [hkl, List.take_length, HBJ.o j])
   clear hkl HU
   go_wp2_with fail
   go_loopw [10, 36] (fun i r wx => ∃ (i' r' : Nat), r' ≤ n ∧ i' ≤ r' ∧ i = .int .i64 i' ∧ r = .int .i64 r' ∧ wx = wr ∧ Hid (i' = (freeL B r').length)) (fun _ r _ => n - (intOf r).toNat)
   case atStart => exact ⟨0, 0, by omega, by omega, rfl, rfl, rfl, zh rfl⟩
   case round =>
    obtain ⟨i, r, hr, hi, rfl, rfl, rfl, HJ⟩ := hrel
    by_cases hlt2 : r < n
    ·have u0 := HU2.o.get hlt2
     have hul := BoxN.lt HU2.o
     have HFS := zh (freeL_succ B r)
     have HFG := zh (fun h => @freeL_get B r n hlt2 h)
     cases hbr : B r with
     | true =>
      rw [hbr] at u0
      have HJ2 : Hid (i = (freeL B (r + 1)).length) := zh (by rw [HFS.o, if_pos hbr, List.append_nil]; exact HJ.o)
      clear hbr
      go_wp2_with fail
      go_roundw
      case rel => exact ⟨i, r + 1, by omega, by omega, rfl, by go_num, trivial, HJ2⟩
      case measure => simp [intOf]; omega
     | false =>
      rw [hbr] at u0
      have HJ2 : Hid (i + 1 = (freeL B (r + 1)).length) := zh (by rw [HFS.o, if_neg (by rw [hbr]; decide), List.length_append, ← HJ.o]; rfl)
      have hg := HFG.o hbr
      rw [← HJ.o] at hg
      obtain ⟨hil, hie⟩ := List.getElem?_eq_some_iff.1 hg
      obtain ⟨b1, o1, rfl, -, s0, s1⟩ := pair_get HF.o i hil
      rw [hie] at s0 s1
      rw [← HK1.o] at hil
      have r0 := cell_below HBR.o s0
      have r1 := cell_below HBR.o s1
      have hb1 : ((-1 : Int) == -1 && (r : Int) == (r : Int)) = true := by simp
      have heq := fun w => run_eq44 w 9998 (-1) r (-1) r
      rw [hb1] at heq
      clear hbr hg hie s0 s1
      go_wp2_with fail
      go_roundw
      case rel => exact ⟨i + 1, r + 1, by omega, by omega, by go_num, by go_num, trivial, HJ2⟩
      case measure => simp [intOf]; omega
    ·have hrn : r = n := by omega
     have hik : i = k1 := by rw [HJ.o, hrn, HK1.o]
     subst hik
     go_wp2_with fail
     go_ret
     exact ⟨by simp, HBR.o⟩
theorem pairs_left {S : Nat → Prop} {w : World} {l m : List (Int × Int)} {q : Option Addr} {n c : Nat} (h : M.At S w (pairsM (l ++ m)) (.slice q n c)) : M.At S w (pairsM l) (.slice q l.length c) := by
 obtain ⟨q', c', e, h1, h2⟩ := M.At.slice h
 cases e
 have := M.At.of (S := S) (w := w) (sz := 2) (rows := l.map pairRow) (p := q) (cap := c) (by simp at h1 ⊢; omega) (M.RowsAt.mk (by decide) fun i hi => ?_)
 ·rwa [List.length_map] at this
 ·have hi' : i < l.length := by simpa using hi
  obtain ⟨b, o, cs, e1, hS, h3, h4, h5⟩ := M.RowsAt.get h2 i (by simp; omega)
  refine ⟨b, o, cs, e1, hS, h3, h4, ?_⟩
  have e : ((l ++ m).map pairRow)[i]'(by simp; omega) = (l.map pairRow)[i] := by
   rw [List.getElem_map, List.getElem_map, List.getElem_append_left hi']
  rw [← e]
  exact h5
theorem pairs_right {S : Nat → Prop} {w : World} {l m : List (Int × Int)} {q : Option Addr} {n c a : Nat} (h : M.At S w (pairsM (l ++ m)) (.slice q n c)) (ha : a = l.length) : M.At S w (pairsM m) (.slice (if c = a then q else Option.map (fun x => x.add (a * 2)) q) m.length (c - a)) := by
 subst ha
 obtain ⟨q', c', e, h1, h2⟩ := M.At.slice h
 cases e
 by_cases hm : m = []
 ·subst hm
  have := M.At.of (S := S) (w := w) (sz := 2) (rows := ([] : List (Int × Int)).map pairRow) (p := if c = l.length then q else Option.map (fun x => x.add (l.length * 2)) q) (cap := c - l.length) (by simp at h1 ⊢; omega) (by simp only [List.map_nil, M.RowsAt])
  exact this
 ·have hml : 0 < m.length := List.length_pos_iff.2 hm
  have hc : ¬ c = l.length := by simp at h1; omega
  rw [if_neg hc]
  have := M.At.of (S := S) (w := w) (sz := 2) (rows := m.map pairRow) (p := Option.map (fun x => x.add (l.length * 2)) q) (cap := c - l.length) (by simp at h1 ⊢; omega) (M.RowsAt.mk (by decide) fun i hi => ?_)
  ·rwa [List.length_map] at this
  ·have hi' : i < m.length := by simpa using hi
   obtain ⟨b, o, cs, e1, hS, h3, h4, h5⟩ := M.RowsAt.get h2 (l.length + i) (by simp; omega)
   refine ⟨b, o + l.length * 2, cs, by rw [e1]; simp only [Option.map_some, Open.add_plain], hS, h3, fun j u hj => ?_, ?_⟩
   ·have := h4 j u hj
    rwa [show o + l.length * 2 + (0 + i * 2) + j = o + (0 + (l.length + i) * 2) + j by omega]
   ·have e : ((l ++ m).map pairRow)[l.length + i]'(by simp; omega) = (m.map pairRow)[i] := by
     simp
    rw [← e]
    exact h5
theorem pairsS_of {kind : Int} {x y : Sd} (hk : 1 ≤ kind ∧ kind ≤ 5) (h : preE 1 x y = 0) : pairsS kind x y = pairsF kind (meetS x y) x.n.toNat y.n.toNat := by
 unfold pairsS
 rw [preE_kind hk, if_neg (by rw [h]; simp)]
theorem pairsS_bad {kind : Int} {x y : Sd} (hk : 1 ≤ kind ∧ kind ≤ 5) (h : preE 1 x y ≠ 0) : pairsS kind x y = ([], preE 1 x y) := by
 unfold pairsS
 rw [preE_kind hk, if_pos h]
theorem pairsF_bad {kind : Int} {M : Nat → List Nat} {n1 n2 : Nat} (h : 4096 < (outP kind M n1 n2).length) : pairsF kind M n1 n2 = ([], 3) := if_pos h
theorem pairsF_good {kind : Int} {M : Nat → List Nat} {n1 n2 : Nat} (h : ¬ 4096 < (outP kind M n1 n2).length) : pairsF kind M n1 n2 = (outP kind M n1 n2, 0) := if_neg h
theorem keepP_take {l : List (Int × Int)} {k : Nat} (h : k < l.length) : keepP (l.take (k + 1)) = if 0 ≤ l[k].2 then keepP (l.take k) ++ [l[k]] else keepP (l.take k) := by
 unfold keepP
 rw [List.take_succ_eq_append_getElem h, List.filter_append]
 by_cases e : 0 ≤ l[k].2
 ·simp [e]
 ·simp [e]
theorem chain_at : ∀ (l : List (Int × Int)) (s : Int) (k : Nat) (h : k < l.length), chainP s l → lastR s (l.take k) ≤ l[k].1 ∧ l[k].1 ≤ lastR s (l.take k) + 1
 | [], s, k, h, hc => by simp at h
 | p :: r, s, 0, h, hc => hc.1
 | p :: r, s, k + 1, h, hc => chain_at r p.1 k (by simpa using h) hc.2
theorem lastR_take : ∀ (l : List (Int × Int)) (s : Int) (k : Nat) (h : k < l.length), lastR s (l.take (k + 1)) = l[k].1
 | [], s, k, h => by simp at h
 | p :: r, s, 0, h => rfl
 | p :: r, s, k + 1, h => lastR_take r p.1 k (by simpa using h)
theorem meetS_lt (x y : Sd) (r : Nat) : ∀ j ∈ meetS x y r, j < y.n.toNat := fun j hj => by
 rw [meetS_eq] at hj
 exact List.mem_range.1 (List.mem_filter.1 hj).1
def KindsF (x y : Sd) : Prop :=
 (∃ E, E ≠ 0 ∧ pairsS 1 x y = ([], E) ∧ pairsS 2 x y = ([], E) ∧ pairsS 3 x y = ([], E) ∧ pairsS 4 x y = ([], E) ∧ pairsS 5 x y = ([], E)) ∨
 (0 ≤ x.n ∧ x.n ≤ 4096 ∧ 0 ≤ y.n ∧ y.n ≤ 4096 ∧ ∃ G : Nat → List Nat, (∀ r, ∀ j ∈ G r, j < y.n.toNat) ∧
  pairsS 4 x y = (smL true G x.n.toNat, 0) ∧ pairsS 5 x y = (smL false G x.n.toNat, 0) ∧
  ((pairsS 2 x y = ([], 3) ∧ pairsS 3 x y = ([], 3)) ∨
   (pairsS 2 x y = (leL G x.n.toNat, 0) ∧ (leL G x.n.toNat).length ≤ 4096 ∧ pairsS 1 x y = (inL G x.n.toNat, 0) ∧
   (pairsS 3 x y = ([], 3) ∨ pairsS 3 x y = (leL G x.n.toNat ++ freeL (usedB G x.n.toNat) y.n.toNat, 0)))))
theorem kinds_facts (x y : Sd) : KindsF x y := by
 by_cases h : preE 1 x y = 0
 ·right
  obtain ⟨a1, a2, a3, a4⟩ := preE_sides h
  refine ⟨a1, a2, a3, a4, meetS x y, meetS_lt x y, ?_⟩
  rw [pairsS_of (kind := 1) (by decide) h, pairsS_of (kind := 2) (by decide) h, pairsS_of (kind := 3) (by decide) h, pairsS_of (kind := 4) (by decide) h, pairsS_of (kind := 5) (by decide) h]
  generalize meetS x y = G
  obtain ⟨m, hm⟩ : ∃ m, m = x.n.toNat := ⟨_, rfl⟩
  have hm4 : m ≤ 4096 := by omega
  rw [← hm]
  generalize y.n.toNat = n2
  have hs := smL_len G m
  refine ⟨?_, ?_, ?_⟩
  ·rw [pairsF_good (by rw [out4]; omega), out4]
  ·rw [pairsF_good (by rw [out5]; omega), out5]
  ·by_cases hl : 4096 < (leL G m).length
   ·left
    rw [pairsF_bad (by rw [out2]; exact hl), pairsF_bad (by rw [out3, List.length_append]; omega)]
    exact ⟨rfl, rfl⟩
   ·right
    have hi := in_le G m
    refine ⟨by rw [pairsF_good (by rw [out2]; exact hl), out2], by omega, ?_, ?_⟩
    ·rw [pairsF_good (by rw [out1]; exact fun e => hl (Nat.lt_of_lt_of_le e hi)), out1]; rfl
    ·by_cases h3 : 4096 < (outP 3 G m n2).length
     ·left; exact pairsF_bad h3
     ·right; rw [pairsF_good h3, out3, restL_free]
 ·left
  refine ⟨preE 1 x y, h, ?_⟩
  rw [pairsS_bad (kind := 1) (by decide) h, pairsS_bad (kind := 2) (by decide) h, pairsS_bad (kind := 3) (by decide) h, pairsS_bad (kind := 4) (by decide) h, pairsS_bad (kind := 5) (by decide) h]
  exact ⟨rfl, rfl, rfl, rfl, rfl⟩
set_option maxHeartbeats 16000000 in
theorem kinds_calls {w : World} {x y : Sd} {NS1 NS2 : List (ByteArray × ByteArray)} {f1 v1 c1 k1 f2 v2 c2 k2 : Value} (hx : ArgAt w x NS1 f1 v1 c1 k1) (hy : ArgAt w y NS2 f2 v2 c2 k2) (hT : TabsAt w)
  (ha : ∀ W, Below w.heap.size w W → Calls Tryz.prog 7 #[] W (YesPost W)) :
  Calls Tryz.prog 5 #[.agg #[f1, v1, .int .i64 x.n, c1, k1], .agg #[f2, v2, .int .i64 y.n, c2, k2]] w (YesPost w) := by
 have HX := zh hx
 have HY := zh hy
 have HT := zh hT
 have HA := zh ha
 obtain ⟨⟨p1, q1, r1, rfl⟩, ⟨p2, q2, r2, rfl⟩, ⟨p3, q3, r3, rfl⟩, ⟨p4, q4, r4, rfl⟩⟩ := hx.shape
 obtain ⟨⟨p5, q5, r5, rfl⟩, ⟨p6, q6, r6, rfl⟩, ⟨p7, q7, r7, rfl⟩, ⟨p8, q8, r8, rfl⟩⟩ := hy.shape
 have HP1 := zh (fun (W : World) (hb : Below w.heap.size w W) => lpairs_calls (HX.o.below hb) (HY.o.below hb) (HT.o.below hb) 1)
 have HP2 := zh (fun (W : World) (hb : Below w.heap.size w W) => lpairs_calls (HX.o.below hb) (HY.o.below hb) (HT.o.below hb) 2)
 have HP3 := zh (fun (W : World) (hb : Below w.heap.size w W) => lpairs_calls (HX.o.below hb) (HY.o.below hb) (HT.o.below hb) 3)
 have HP4 := zh (fun (W : World) (hb : Below w.heap.size w W) => lpairs_calls (HX.o.below hb) (HY.o.below hb) (HT.o.below hb) 4)
 have HP5 := zh (fun (W : World) (hb : Below w.heap.size w W) => lpairs_calls (HX.o.below hb) (HY.o.below hb) (HT.o.below hb) 5)
 have hk := kinds_facts x y
 unfold KindsF at hk
 generalize pairsS 1 x y = A1 at *
 generalize pairsS 2 x y = A2 at *
 generalize pairsS 3 x y = A3 at *
 generalize pairsS 4 x y = A4 at *
 generalize pairsS 5 x y = A5 at *
 obtain ⟨A1, E1⟩ := A1
 obtain ⟨A2, E2⟩ := A2
 obtain ⟨A3, E3⟩ := A3
 obtain ⟨A4, E4⟩ := A4
 obtain ⟨A5, E5⟩ := A5
 simp only [Prod.mk.injEq] at hk
 dsimp only at HP1 HP2 HP3 HP4 HP5
 generalize hn1 : x.n = n1 at *
 generalize hn2 : y.n = n2 at *
 have HK := zh hk
 clear hx hy hT ha hk hn1 hn2
 obtain ⟨W, hW⟩ : ∃ W, W = (w.alloc (.cells #[.slice p1 q1 r1, .slice p2 q2 r2, .int .i64 n1, .slice p3 q3 r3, .slice p4 q4 r4] 32)).alloc (.cells #[.slice p5 q5 r5, .slice p6 q6 r6, .int .i64 n2, .slice p7 q7 r7, .slice p8 q8 r8] 32) := ⟨_, rfl⟩
 have a1 : BoxN W w.heap.size 32 [.slice p1 q1 r1, .slice p2 q2 r2, .int .i64 n1, .slice p3 q3 r3, .slice p4 q4 r4] := by
  rw [hW]; exact (BoxN.new w 32 [.slice p1 q1 r1, .slice p2 q2 r2, .int .i64 n1, .slice p3 q3 r3, .slice p4 q4 r4]).alloc _
 have a2 : BoxN W (w.heap.size + 1) 32 [.slice p5 q5 r5, .slice p6 q6 r6, .int .i64 n2, .slice p7 q7 r7, .slice p8 q8 r8] := by
  rw [hW]; exact BoxN.new' (by rw [World.size_alloc]) 32 [.slice p5 q5 r5, .slice p6 q6 r6, .int .i64 n2, .slice p7 q7 r7, .slice p8 q8 r8]
 have hBW : Below w.heap.size w W := by rw [hW]; exact ((Below.refl _ w).alloc (Nat.le_refl _) _).alloc (by simp) _
 have X1 := zh a1
 have X2 := zh a2
 have HBW := zh hBW
 have HW := zh hW
 clear a1 a2 hBW hW
 go_enter Tryz.func5, Tryz.ntmps5
 go_wp2_with fail
 rw [← HW.o]
 clear HW
 refine (HA.o W HBW.o).mono ?_
 rintro e W2 ⟨rfl, hb2⟩
 have X1 := zh (X1.o.below hb2 X1.o.lt)
 have X2 := zh (X2.o.below hb2 X2.o.lt)
 have HB2 := zh (HBW.o.trans (hb2.mono HBW.o.size))
 clear hb2
 have x0 := X1.o.row 0 _ rfl
 have x1 := X1.o.row 1 _ rfl
 have x2 := X1.o.row 2 _ rfl
 have x3 := X1.o.row 3 _ rfl
 have x4 := X1.o.row 4 _ rfl
 have y0 := X2.o.row 0 _ rfl
 have y1 := X2.o.row 1 _ rfl
 have y2 := X2.o.row 2 _ rfl
 have y3 := X2.o.row 3 _ rfl
 have y4 := X2.o.row 4 _ rfl
 have hlx := X1.o.lt
 have hly := X2.o.lt
 go_wp2_with fail
 refine (HP1.o W2 HB2.o).mono ?_
 rintro e W3 ⟨hb3, qq1, cc1, rfl, hat1⟩
 have HAT1 := zh (M.At.mono (T := fun _ => True) (fun _ _ => trivial) hat1)
 have X1 := zh (X1.o.below hb3 X1.o.lt)
 have X2 := zh (X2.o.below hb3 X2.o.lt)
 have HB3 := zh (HB2.o.trans (hb3.mono HB2.o.size))
 clear hb3 hat1 x0 x1 x2 x3 x4 y0 y1 y2 y3 y4 hlx hly
 have x0 := X1.o.row 0 _ rfl
 have x1 := X1.o.row 1 _ rfl
 have x2 := X1.o.row 2 _ rfl
 have x3 := X1.o.row 3 _ rfl
 have x4 := X1.o.row 4 _ rfl
 have y0 := X2.o.row 0 _ rfl
 have y1 := X2.o.row 1 _ rfl
 have y2 := X2.o.row 2 _ rfl
 have y3 := X2.o.row 3 _ rfl
 have y4 := X2.o.row 4 _ rfl
 have hlx := X1.o.lt
 have hly := X2.o.lt
 go_wp2_with fail
 refine (HP2.o W3 HB3.o).mono ?_
 rintro e W4 ⟨hb4, qq2, cc2, rfl, hat2⟩
 have HAT1 := zh (M.At.below hb4 HAT1.o)
 have HAT2 := zh (M.At.mono (T := fun _ => True) (fun _ _ => trivial) hat2)
 have X1 := zh (X1.o.below hb4 X1.o.lt)
 have X2 := zh (X2.o.below hb4 X2.o.lt)
 have HB4 := zh (HB3.o.trans (hb4.mono HB3.o.size))
 clear hb4 hat2 x0 x1 x2 x3 x4 y0 y1 y2 y3 y4 hlx hly
 have x0 := X1.o.row 0 _ rfl
 have x1 := X1.o.row 1 _ rfl
 have x2 := X1.o.row 2 _ rfl
 have x3 := X1.o.row 3 _ rfl
 have x4 := X1.o.row 4 _ rfl
 have y0 := X2.o.row 0 _ rfl
 have y1 := X2.o.row 1 _ rfl
 have y2 := X2.o.row 2 _ rfl
 have y3 := X2.o.row 3 _ rfl
 have y4 := X2.o.row 4 _ rfl
 have hlx := X1.o.lt
 have hly := X2.o.lt
 go_wp2_with fail
 refine (HP3.o W4 HB4.o).mono ?_
 rintro e W5 ⟨hb5, qq3, cc3, rfl, hat3⟩
 have HAT1 := zh (M.At.below hb5 HAT1.o)
 have HAT2 := zh (M.At.below hb5 HAT2.o)
 have HAT3 := zh (M.At.mono (T := fun _ => True) (fun _ _ => trivial) hat3)
 have X1 := zh (X1.o.below hb5 X1.o.lt)
 have X2 := zh (X2.o.below hb5 X2.o.lt)
 have HB5 := zh (HB4.o.trans (hb5.mono HB4.o.size))
 clear hb5 hat3 x0 x1 x2 x3 x4 y0 y1 y2 y3 y4 hlx hly
 have x0 := X1.o.row 0 _ rfl
 have x1 := X1.o.row 1 _ rfl
 have x2 := X1.o.row 2 _ rfl
 have x3 := X1.o.row 3 _ rfl
 have x4 := X1.o.row 4 _ rfl
 have y0 := X2.o.row 0 _ rfl
 have y1 := X2.o.row 1 _ rfl
 have y2 := X2.o.row 2 _ rfl
 have y3 := X2.o.row 3 _ rfl
 have y4 := X2.o.row 4 _ rfl
 have hlx := X1.o.lt
 have hly := X2.o.lt
 go_wp2_with fail
 refine (HP4.o W5 HB5.o).mono ?_
 rintro e W6 ⟨hb6, qq4, cc4, rfl, hat4⟩
 have HAT1 := zh (M.At.below hb6 HAT1.o)
 have HAT2 := zh (M.At.below hb6 HAT2.o)
 have HAT3 := zh (M.At.below hb6 HAT3.o)
 have HAT4 := zh (M.At.mono (T := fun _ => True) (fun _ _ => trivial) hat4)
 have X1 := zh (X1.o.below hb6 X1.o.lt)
 have X2 := zh (X2.o.below hb6 X2.o.lt)
 have HB6 := zh (HB5.o.trans (hb6.mono HB5.o.size))
 clear hb6 hat4 x0 x1 x2 x3 x4 y0 y1 y2 y3 y4 hlx hly
 have x0 := X1.o.row 0 _ rfl
 have x1 := X1.o.row 1 _ rfl
 have x2 := X1.o.row 2 _ rfl
 have x3 := X1.o.row 3 _ rfl
 have x4 := X1.o.row 4 _ rfl
 have y0 := X2.o.row 0 _ rfl
 have y1 := X2.o.row 1 _ rfl
 have y2 := X2.o.row 2 _ rfl
 have y3 := X2.o.row 3 _ rfl
 have y4 := X2.o.row 4 _ rfl
 have hlx := X1.o.lt
 have hly := X2.o.lt
 go_wp2_with fail
 refine (HP5.o W6 HB6.o).mono ?_
 rintro e W7 ⟨hb7, qq5, cc5, rfl, hat5⟩
 have HAT1 := zh (M.At.below hb7 HAT1.o)
 have HAT2 := zh (M.At.below hb7 HAT2.o)
 have HAT3 := zh (M.At.below hb7 HAT3.o)
 have HAT4 := zh (M.At.below hb7 HAT4.o)
 have HAT5 := zh (M.At.mono (T := fun _ => True) (fun _ _ => trivial) hat5)
 have X1 := zh (X1.o.below hb7 X1.o.lt)
 have X2 := zh (X2.o.below hb7 X2.o.lt)
 have HB7 := zh (HB6.o.trans (hb7.mono HB6.o.size))
 clear hb7 hat5 x0 x1 x2 x3 x4 y0 y1 y2 y3 y4 hlx hly
 rcases HK.o with ⟨E, hE, ⟨ha1, he1⟩, ⟨ha2, he2⟩, ⟨ha3, he3⟩, ⟨ha4, he4⟩, ⟨ha5, he5⟩⟩ | ⟨hm1, hm2, hy1, hy2, G, hG, ⟨ha4, he4⟩, ⟨ha5, he5⟩, hk⟩
 ·clear HAT1 HAT2 HAT3 HAT4 HAT5 HP1 HP2 HP3 HP4 HP5 HK HA HX HY HT
  rw [ha1, ha2, ha3, ha4, ha5, he1, he2, he3, he4, he5]
  have hb1 : (E != E) = false := by simp
  have hb2 : (E != 0) = true := by simpa using hE
  have hb3 : (E == 0) = false := by simpa using hE
  simp only [List.length_nil]
  clear hE ha1 ha2 ha3 ha4 ha5 he1 he2 he3 he4 he5
  go_wp2_with fail
  go_ret
  exact ⟨by simp, HB7.o⟩
 ·clear HP1 HP2 HP3 HP4 HP5 HK HA HX HY HT
  obtain ⟨m, rfl⟩ := Int.eq_ofNat_of_zero_le hm1
  obtain ⟨n, rfl⟩ := Int.eq_ofNat_of_zero_le hy1
  simp only [Int.toNat_natCast] at hG ha4 ha5 hk
  subst ha4 ha5 he4 he5
  have hm4 : m ≤ 4096 := by omega
  have hn4 : n ≤ 4096 := by omega
  have HG := zh hG
  have hlen := smL_len G m
  have HS := zh (split_calls HAT4.o HAT5.o hm4)
  obtain ⟨s4, hs4⟩ : ∃ s4, s4 = (smL true G m).length := ⟨_, rfl⟩
  obtain ⟨s5, hs5⟩ : ∃ s5, s5 = (smL false G m).length := ⟨_, rfl⟩
  rw [← hs4, ← hs5] at hlen HS
  rw [← hs5] at HAT5
  rw [← hs4, ← hs5]
  have HS5 := zh hs5
  clear hs4 hs5 HAT4 hm1 hm2 hy1 hy2 hG
  have hbl : ((s4 : Int) + (s5 : Int) != (m : Int)) = false := by simp; omega
  rcases hk with ⟨⟨ha2, he2⟩, ha3, he3⟩ | ⟨⟨ha2, he2⟩, hl4, ⟨ha1, he1⟩, hk⟩
  ·subst he2 he3
   clear HAT1 HAT2 HAT3 HAT5 ha2 ha3
   have x0 := X1.o.row 0 _ rfl
   have x1 := X1.o.row 1 _ rfl
   have x2 := X1.o.row 2 _ rfl
   have x3 := X1.o.row 3 _ rfl
   have x4 := X1.o.row 4 _ rfl
   have hlx := X1.o.lt
   go_wp2_with fail
   refine HS.o.mono ?_
   rintro e W8 ⟨rfl, hb8⟩
   have HB8 := zh (HB7.o.trans (hb8.mono HB7.o.size))
   clear hb8 x0 x1 x2 x3 x4 hlx
   go_wp2_with fail
   go_ret
   exact ⟨rfl, HB8.o⟩
  ·subst ha2 he2 ha1 he1
   rcases hk with ⟨ha3, he3⟩ | ⟨ha3, he3⟩
   ·subst he3
    clear HAT3 ha3
    have x0 := X1.o.row 0 _ rfl
    have x1 := X1.o.row 1 _ rfl
    have x2 := X1.o.row 2 _ rfl
    have x3 := X1.o.row 3 _ rfl
    have x4 := X1.o.row 4 _ rfl
    have hlx := X1.o.lt
    go_wp2_with fail
    refine HS.o.mono ?_
    rintro e W8 ⟨rfl, hb8⟩
    have HB8 := zh (HB7.o.trans (hb8.mono HB7.o.size))
    have HAT1 := zh (M.At.below hb8 HAT1.o)
    have HAT2 := zh (M.At.below hb8 HAT2.o)
    have HAT5 := zh (M.At.below hb8 HAT5.o)
    have X1 := zh (X1.o.below hb8 X1.o.lt)
    have X2 := zh (X2.o.below hb8 X2.o.lt)
    clear hb8 HS x0 x1 x2 x3 x4 hlx
    obtain ⟨LE, hLE⟩ : ∃ LE, LE = leL G m := ⟨_, rfl⟩
    obtain ⟨IN, hIN⟩ : ∃ IN, IN = inL G m := ⟨_, rfl⟩
    have HCH : Hid (chainP (-1) LE ∧ lastR (-1) LE = (m : Int) - 1) := zh (by rw [hLE]; exact leL_chain G m)
    have HKP : Hid (keepP LE = IN) := zh (by rw [hLE, hIN]; exact keepP_leL G m)
    have HAN : Hid (∀ p ∈ LE, p.2 < 0 → p ∈ smL false G m) := zh (by rw [hLE]; exact leL_anti G m)
    have HIR : Hid (∀ p ∈ IN, 0 ≤ p.2 ∧ p.2 < (n : Int)) := zh (by rw [hIN]; exact inL_range HG.o m)
    have HUS : Hid (∀ j, usedB G m j = IN.any fun p => decide (p.2 = (j : Int))) := zh (by rw [hIN]; exact used_in G m)
    rw [← hLE] at hl4 HAT2
    rw [← hIN] at HAT1
    rw [← hLE, ← hIN]
    obtain ⟨nl, hnl⟩ : ∃ nl, nl = LE.length := ⟨_, rfl⟩
    have HNL := zh hnl
    rw [← hnl] at hl4 HAT2 ⊢
    clear hLE hIN hnl
    obtain ⟨i1, z1, hi1, hz1, hzc1, hsz1, hby1⟩ := info44_parts
    go_wp2_with fail
    obtain ⟨W9, hW9⟩ : ∃ W9, W9 = W8.alloc (.cells #[] 44) := ⟨_, rfl⟩
    have HO9 : Hid (W9.ownsRow W8.heap.size 44 2 (.slice (some ⟨W8.heap.size, 0, none⟩) 0 0) 0 []) := zh (by rw [hW9]; exact World.ownsRow_made W8 #[] 0 (Nat.le_refl _) (by unfold maxLen; omega) rfl)
    have HB9 : Hid (Below W8.heap.size W8 W9) := zh (by rw [hW9]; exact (Below.refl _ W8).alloc (Nat.le_refl _) _)
    rw [← hW9]
    clear hW9
    go_loopw [15, 16, 128] (fun o a i wr => ∃ (k len : Nat) (u0 : Int) (q : Option Addr) (c' : Nat), k ≤ nl ∧ len ≤ k ∧ (-1 ≤ u0 ∧ u0 + 1 ≤ (k : Int)) ∧ o = .slice q len c' ∧ a = .int .i64 u0 ∧ i = .int .i64 k ∧ Hid (u0 = lastR (-1) (LE.take k)) ∧ Hid ((keepP (LE.take k)).length = len) ∧ Hid (wr.ownsRow W8.heap.size 44 2 (.slice q len c') len (pairsC (keepP (LE.take k)))) ∧ Hid (Below W8.heap.size W8 wr)) (fun _ _ i _ => nl - (intOf i).toNat)
    case atStart => exact ⟨0, 0, -1, _, _, by omega, by omega, by omega, rfl, rfl, rfl, zh rfl, zh rfl, HO9, HB9⟩
    case round =>
     obtain ⟨k, len, u0, q, c', hk, hlen2, ⟨hu1, hu2⟩, rfl, rfl, rfl, HL0, HJ, HO, HB⟩ := hrel
     by_cases hlt : k < nl
     ·have hkl : k < LE.length := by rw [← HNL.o]; exact hlt
      obtain ⟨b, o, rfl, -, s0, s1⟩ := pair_get HAT2.o k hkl
      have r0 := cell_below HB.o s0
      have r1 := cell_below HB.o s1
      obtain ⟨hc1, hc2⟩ := chain_at LE (-1) k hkl HCH.o.1
      rw [← HL0.o] at hc1 hc2
      have HLT := zh (lastR_take LE (-1) k hkl)
      have HKT := zh (keepP_take hkl)
      have HMM := zh (fun (h : LE[k].2 < 0) => HAN.o _ (List.getElem_mem hkl) h)
      clear s0 s1
      generalize LE[k] = bk at *
      obtain ⟨u, v⟩ := bk
      dsimp only at r0 r1 hc1 hc2 HLT HKT HMM
      have hwx := HB.o.size
      have HOFF := zh (fun b (e : (Value.slice q len c').ownBlock = some b) => (HO.o.lt b e).1)
      have HZB : Hid (BoxN ((wr.alloc (.cells #[.int .i64 u, .int .i64 v] 44)).alloc (.cells #[.int .i64 u, .int .i64 v] 44)) (wr.heap.size + 1) 44 [.int .i64 u, .int .i64 v]) := zh (BoxN.new' (by rw [World.size_alloc]) 44 _)
      have HV : Hid (Below wr.heap.size wr ((wr.alloc (.cells #[.int .i64 u, .int .i64 v] 44)).alloc (.cells #[.int .i64 u, .int .i64 v] 44))) := zh (((Below.refl _ wr).alloc (Nat.le_refl _) _).alloc (by simp) _)
      have HV1 : Hid (Below wr.heap.size wr (wr.alloc (.cells #[.int .i64 u, .int .i64 v] 44))) := zh ((Below.refl _ wr).alloc (Nat.le_refl _) _)
      have HHAS : Hid (v < 0 → Calls Tryz.prog 13 #[.slice qq5 s5 cc5, .agg #[.int .i64 u, .int .i64 v]] (wr.alloc (.cells #[.int .i64 u, .int .i64 v] 44)) (BoolPost (wr.alloc (.cells #[.int .i64 u, .int .i64 v] 44)) true)) := zh (fun h => hasp_calls (M.At.below HV1.o (M.At.below HB.o HAT5.o)) (HMM.o h))
      have hna : decide (u < u0) = false := decide_eq_false (by omega)
      have hnb : decide (u0 + 1 < u) = false := decide_eq_false (by omega)
      by_cases hu : u = u0 + 1
      ·subst hu
       have hq : ((u0 + 1 : Int) == u0 + 1) = true := by simp
       by_cases hv : 0 ≤ v
       ·have HKT2 : Hid (keepP (LE.take (k + 1)) = keepP (LE.take k) ++ [(u0 + 1, v)]) := zh (by rw [HKT.o, if_pos hv])
        clear HHAS
        go_wp2_with (at_builtin; refine wpList_append_lies _ rfl _ _ 40 rfl W8.heap.size 44 i1 z1 2 16 und40 hi1 hz1 hsz1 hby1 hzc1 (by decide) (.slice q len c') len _ rfl ((HO.o.alloc _).alloc _) ⟨wr.heap.size + 1, 0, none⟩ 1 1 [.int .i64 (u0 + 1), .int .i64 v] rfl rfl (World.news_of_block HZB.o) (by simp [Value.oneCell']) (by decide) (by unfold maxLen; omega) (by omega) (by simp; omega) (wr.heap.size + 1 + 1) (by simp) ?_; intro gg cc w2 hown2 hgrow2 hat2 hlt3; have HOW2 := zh hown2; have HGR2 := zh hgrow2; clear hown2 hgrow2 hat2)
        go_roundw
        case rel =>
         refine ⟨k + 1, len + 1, u0 + 1, some ⟨gg, 0, none⟩, cc, by omega, by omega, by omega, rfl, rfl, by go_num, zh (HLT.o.symm), zh ?_, zh ?_, zh ?_⟩
         ·rw [HKT2.o, List.length_append, HJ.o]; rfl
         ·rw [HKT2.o, pairsC_app]; exact HOW2.o
         ·exact (HB.o.trans (HV.o.mono HB.o.size)).grown HGR2.o (by simp; omega) (fun b e => HOFF.o b e)
        case measure => simp [intOf]; omega
       ·have HKT2 : Hid (keepP (LE.take (k + 1)) = keepP (LE.take k)) := zh (by rw [HKT.o, if_neg hv])
        have HHC := zh (HHAS.o (by omega))
        clear HHAS
        go_wp2_with fail
        refine HHC.o.mono ?_
        rintro e W10 ⟨rfl, hb10⟩
        have HB10 := zh (HB.o.trans ((HV1.o.trans (hb10.mono HV1.o.size)).mono HB.o.size))
        have HO10 := zh (row_below (row_below HO.o HV1.o) hb10)
        clear hb10 HHC
        go_wp2_with fail
        go_roundw
        case rel => exact ⟨k + 1, len, u0 + 1, q, c', by omega, by omega, by omega, rfl, rfl, by go_num, zh (HLT.o.symm), zh (by rw [HKT2.o]; exact HJ.o), zh (by rw [HKT2.o]; exact HO10.o), HB10⟩
        case measure => simp [intOf]; omega
      ·obtain rfl : u = u0 := by omega
       have hq : ((u : Int) == u + 1) = false := by simp; omega
       clear hu
       by_cases hv : 0 ≤ v
       ·have HKT2 : Hid (keepP (LE.take (k + 1)) = keepP (LE.take k) ++ [(u, v)]) := zh (by rw [HKT.o, if_pos hv])
        clear HHAS
        go_wp2_with (at_builtin; refine wpList_append_lies _ rfl _ _ 40 rfl W8.heap.size 44 i1 z1 2 16 und40 hi1 hz1 hsz1 hby1 hzc1 (by decide) (.slice q len c') len _ rfl ((HO.o.alloc _).alloc _) ⟨wr.heap.size + 1, 0, none⟩ 1 1 [.int .i64 (u), .int .i64 v] rfl rfl (World.news_of_block HZB.o) (by simp [Value.oneCell']) (by decide) (by unfold maxLen; omega) (by omega) (by simp; omega) (wr.heap.size + 1 + 1) (by simp) ?_; intro gg cc w2 hown2 hgrow2 hat2 hlt3; have HOW2 := zh hown2; have HGR2 := zh hgrow2; clear hown2 hgrow2 hat2)
        go_roundw
        case rel =>
         refine ⟨k + 1, len + 1, u, some ⟨gg, 0, none⟩, cc, by omega, by omega, by omega, rfl, rfl, by go_num, zh (HLT.o.symm), zh ?_, zh ?_, zh ?_⟩
         ·rw [HKT2.o, List.length_append, HJ.o]; rfl
         ·rw [HKT2.o, pairsC_app]; exact HOW2.o
         ·exact (HB.o.trans (HV.o.mono HB.o.size)).grown HGR2.o (by simp; omega) (fun b e => HOFF.o b e)
        case measure => simp [intOf]; omega
       ·have HKT2 : Hid (keepP (LE.take (k + 1)) = keepP (LE.take k)) := zh (by rw [HKT.o, if_neg hv])
        have HHC := zh (HHAS.o (by omega))
        clear HHAS
        go_wp2_with fail
        refine HHC.o.mono ?_
        rintro e W10 ⟨rfl, hb10⟩
        have HB10 := zh (HB.o.trans ((HV1.o.trans (hb10.mono HV1.o.size)).mono HB.o.size))
        have HO10 := zh (row_below (row_below HO.o HV1.o) hb10)
        clear hb10 HHC
        go_wp2_with fail
        go_roundw
        case rel => exact ⟨k + 1, len, u, q, c', by omega, by omega, by omega, rfl, rfl, by go_num, zh (HLT.o.symm), zh (by rw [HKT2.o]; exact HJ.o), zh (by rw [HKT2.o]; exact HO10.o), HB10⟩
        case measure => simp [intOf]; omega
     ·have hkn : k = LE.length := by rw [← HNL.o]; omega
      have hu3 : u0 = (m : Int) - 1 := by rw [HL0.o, hkn, List.take_length]; exact HCH.o.2
      have HJ3 : Hid (IN.length = len) := zh (by rw [← HKP.o]; have := HJ.o; rwa [hkn, List.take_length] at this)
      have HO3 : Hid (wr.ownsRow W8.heap.size 44 2 (.slice q len c') len (pairsC IN)) := zh (by rw [← HKP.o]; have := HO.o; rwa [hkn, List.take_length] at this)
      have hbu : (u0 != (m : Int) - 1) = false := by simpa using hu3
      have HAT1 := zh (M.At.below HB.o HAT1.o)
      have HAT2 := zh (M.At.below HB.o HAT2.o)
      have X1 := zh (X1.o.below HB.o X1.o.lt)
      have X2 := zh (X2.o.below HB.o X2.o.lt)
      have HC := zh (eqp_calls (M.At.mono (T := fun _ => True) (fun _ _ => trivial) (pairs_of_row HO3.o HJ3.o)) HAT1.o)
      have HBw := zh (HB8.o.trans (HB.o.mono HB8.o.size))
      rw [show (IN == IN) = true by simp] at HC
      clear hkn hu3 HAT5 HCH HKP HAN HL0 HJ HO HJ3 HO3
      have x0 := X1.o.row 0 _ rfl
      have x1 := X1.o.row 1 _ rfl
      have x2 := X1.o.row 2 _ rfl
      have x3 := X1.o.row 3 _ rfl
      have x4 := X1.o.row 4 _ rfl
      have hlx := X1.o.lt
      go_wp2_with fail
      refine HC.o.mono ?_
      rintro e W10 ⟨rfl, hb10⟩
      have HAT1 := zh (M.At.below hb10 HAT1.o)
      have HAT2 := zh (M.At.below hb10 HAT2.o)
      have X2 := zh (X2.o.below hb10 X2.o.lt)
      have HB10 := zh (HBw.o.trans (hb10.mono HBw.o.size))
      clear hb10 HC hbu x0 x1 x2 x3 x4 hlx
      go_wp2_with fail
      go_ret
      exact ⟨rfl, HB10.o⟩
   ·subst he3 ha3
    have x0 := X1.o.row 0 _ rfl
    have x1 := X1.o.row 1 _ rfl
    have x2 := X1.o.row 2 _ rfl
    have x3 := X1.o.row 3 _ rfl
    have x4 := X1.o.row 4 _ rfl
    have hlx := X1.o.lt
    go_wp2_with fail
    refine HS.o.mono ?_
    rintro e W8 ⟨rfl, hb8⟩
    have HB8 := zh (HB7.o.trans (hb8.mono HB7.o.size))
    have HAT1 := zh (M.At.below hb8 HAT1.o)
    have HAT2 := zh (M.At.below hb8 HAT2.o)
    have HAT3 := zh (M.At.below hb8 HAT3.o)
    have HAT5 := zh (M.At.below hb8 HAT5.o)
    have X1 := zh (X1.o.below hb8 X1.o.lt)
    have X2 := zh (X2.o.below hb8 X2.o.lt)
    clear hb8 HS x0 x1 x2 x3 x4 hlx
    obtain ⟨LE, hLE⟩ : ∃ LE, LE = leL G m := ⟨_, rfl⟩
    obtain ⟨IN, hIN⟩ : ∃ IN, IN = inL G m := ⟨_, rfl⟩
    have HCH : Hid (chainP (-1) LE ∧ lastR (-1) LE = (m : Int) - 1) := zh (by rw [hLE]; exact leL_chain G m)
    have HKP : Hid (keepP LE = IN) := zh (by rw [hLE, hIN]; exact keepP_leL G m)
    have HAN : Hid (∀ p ∈ LE, p.2 < 0 → p ∈ smL false G m) := zh (by rw [hLE]; exact leL_anti G m)
    have HIR : Hid (∀ p ∈ IN, 0 ≤ p.2 ∧ p.2 < (n : Int)) := zh (by rw [hIN]; exact inL_range HG.o m)
    have HUS : Hid (∀ j, usedB G m j = IN.any fun p => decide (p.2 = (j : Int))) := zh (by rw [hIN]; exact used_in G m)
    rw [← hLE] at hl4 HAT2 HAT3
    rw [← hIN] at HAT1
    rw [← hLE, ← hIN]
    obtain ⟨FR, hFR⟩ : ∃ FR, FR = freeL (usedB G m) n := ⟨_, rfl⟩
    rw [← hFR] at HAT3 ⊢
    have HAT3 : Hid (M.At (fun _ => True) W8 (pairsM (LE ++ FR)) (.slice qq3 (LE.length + FR.length) cc3)) := zh (by rw [← List.length_append]; exact HAT3.o)
    try rw [List.length_append]
    obtain ⟨fr, hfr⟩ : ∃ fr, fr = FR.length := ⟨_, rfl⟩
    have HFR := zh hfr
    have HFF := zh hFR
    obtain ⟨-, hc1, hc2⟩ := pairs_room HAT3.o
    rw [← hfr] at HAT3 hc1 ⊢
    clear hfr hFR
    obtain ⟨nl, hnl⟩ : ∃ nl, nl = LE.length := ⟨_, rfl⟩
    have HNL := zh hnl
    rw [← hnl] at hl4 HAT2 HAT3 hc1 ⊢
    clear hLE hIN hnl
    obtain ⟨i1, z1, hi1, hz1, hzc1, hsz1, hby1⟩ := info44_parts
    go_wp2_with fail
    obtain ⟨W9, hW9⟩ : ∃ W9, W9 = W8.alloc (.cells #[] 44) := ⟨_, rfl⟩
    have HO9 : Hid (W9.ownsRow W8.heap.size 44 2 (.slice (some ⟨W8.heap.size, 0, none⟩) 0 0) 0 []) := zh (by rw [hW9]; exact World.ownsRow_made W8 #[] 0 (Nat.le_refl _) (by unfold maxLen; omega) rfl)
    have HB9 : Hid (Below W8.heap.size W8 W9) := zh (by rw [hW9]; exact (Below.refl _ W8).alloc (Nat.le_refl _) _)
    rw [← hW9]
    clear hW9
    go_loopw [15, 16, 128] (fun o a i wr => ∃ (k len : Nat) (u0 : Int) (q : Option Addr) (c' : Nat), k ≤ nl ∧ len ≤ k ∧ (-1 ≤ u0 ∧ u0 + 1 ≤ (k : Int)) ∧ o = .slice q len c' ∧ a = .int .i64 u0 ∧ i = .int .i64 k ∧ Hid (u0 = lastR (-1) (LE.take k)) ∧ Hid ((keepP (LE.take k)).length = len) ∧ Hid (wr.ownsRow W8.heap.size 44 2 (.slice q len c') len (pairsC (keepP (LE.take k)))) ∧ Hid (Below W8.heap.size W8 wr)) (fun _ _ i _ => nl - (intOf i).toNat)
    case atStart => exact ⟨0, 0, -1, _, _, by omega, by omega, by omega, rfl, rfl, rfl, zh rfl, zh rfl, HO9, HB9⟩
    case round =>
     obtain ⟨k, len, u0, q, c', hk, hlen2, ⟨hu1, hu2⟩, rfl, rfl, rfl, HL0, HJ, HO, HB⟩ := hrel
     by_cases hlt : k < nl
     ·have hkl : k < LE.length := by rw [← HNL.o]; exact hlt
      obtain ⟨b, o, rfl, -, s0, s1⟩ := pair_get HAT2.o k hkl
      have r0 := cell_below HB.o s0
      have r1 := cell_below HB.o s1
      obtain ⟨hc1, hc2⟩ := chain_at LE (-1) k hkl HCH.o.1
      rw [← HL0.o] at hc1 hc2
      have HLT := zh (lastR_take LE (-1) k hkl)
      have HKT := zh (keepP_take hkl)
      have HMM := zh (fun (h : LE[k].2 < 0) => HAN.o _ (List.getElem_mem hkl) h)
      clear s0 s1
      generalize LE[k] = bk at *
      obtain ⟨u, v⟩ := bk
      dsimp only at r0 r1 hc1 hc2 HLT HKT HMM
      have hwx := HB.o.size
      have HOFF := zh (fun b (e : (Value.slice q len c').ownBlock = some b) => (HO.o.lt b e).1)
      have HZB : Hid (BoxN ((wr.alloc (.cells #[.int .i64 u, .int .i64 v] 44)).alloc (.cells #[.int .i64 u, .int .i64 v] 44)) (wr.heap.size + 1) 44 [.int .i64 u, .int .i64 v]) := zh (BoxN.new' (by rw [World.size_alloc]) 44 _)
      have HV : Hid (Below wr.heap.size wr ((wr.alloc (.cells #[.int .i64 u, .int .i64 v] 44)).alloc (.cells #[.int .i64 u, .int .i64 v] 44))) := zh (((Below.refl _ wr).alloc (Nat.le_refl _) _).alloc (by simp) _)
      have HV1 : Hid (Below wr.heap.size wr (wr.alloc (.cells #[.int .i64 u, .int .i64 v] 44))) := zh ((Below.refl _ wr).alloc (Nat.le_refl _) _)
      have HHAS : Hid (v < 0 → Calls Tryz.prog 13 #[.slice qq5 s5 cc5, .agg #[.int .i64 u, .int .i64 v]] (wr.alloc (.cells #[.int .i64 u, .int .i64 v] 44)) (BoolPost (wr.alloc (.cells #[.int .i64 u, .int .i64 v] 44)) true)) := zh (fun h => hasp_calls (M.At.below HV1.o (M.At.below HB.o HAT5.o)) (HMM.o h))
      have hna : decide (u < u0) = false := decide_eq_false (by omega)
      have hnb : decide (u0 + 1 < u) = false := decide_eq_false (by omega)
      by_cases hu : u = u0 + 1
      ·subst hu
       have hq : ((u0 + 1 : Int) == u0 + 1) = true := by simp
       by_cases hv : 0 ≤ v
       ·have HKT2 : Hid (keepP (LE.take (k + 1)) = keepP (LE.take k) ++ [(u0 + 1, v)]) := zh (by rw [HKT.o, if_pos hv])
        clear HHAS
        go_wp2_with (at_builtin; refine wpList_append_lies _ rfl _ _ 40 rfl W8.heap.size 44 i1 z1 2 16 und40 hi1 hz1 hsz1 hby1 hzc1 (by decide) (.slice q len c') len _ rfl ((HO.o.alloc _).alloc _) ⟨wr.heap.size + 1, 0, none⟩ 1 1 [.int .i64 (u0 + 1), .int .i64 v] rfl rfl (World.news_of_block HZB.o) (by simp [Value.oneCell']) (by decide) (by unfold maxLen; omega) (by omega) (by simp; omega) (wr.heap.size + 1 + 1) (by simp) ?_; intro gg cc w2 hown2 hgrow2 hat2 hlt3; have HOW2 := zh hown2; have HGR2 := zh hgrow2; clear hown2 hgrow2 hat2)
        go_roundw
        case rel =>
         refine ⟨k + 1, len + 1, u0 + 1, some ⟨gg, 0, none⟩, cc, by omega, by omega, by omega, rfl, rfl, by go_num, zh (HLT.o.symm), zh ?_, zh ?_, zh ?_⟩
         ·rw [HKT2.o, List.length_append, HJ.o]; rfl
         ·rw [HKT2.o, pairsC_app]; exact HOW2.o
         ·exact (HB.o.trans (HV.o.mono HB.o.size)).grown HGR2.o (by simp; omega) (fun b e => HOFF.o b e)
        case measure => simp [intOf]; omega
       ·have HKT2 : Hid (keepP (LE.take (k + 1)) = keepP (LE.take k)) := zh (by rw [HKT.o, if_neg hv])
        have HHC := zh (HHAS.o (by omega))
        clear HHAS
        go_wp2_with fail
        refine HHC.o.mono ?_
        rintro e W10 ⟨rfl, hb10⟩
        have HB10 := zh (HB.o.trans ((HV1.o.trans (hb10.mono HV1.o.size)).mono HB.o.size))
        have HO10 := zh (row_below (row_below HO.o HV1.o) hb10)
        clear hb10 HHC
        go_wp2_with fail
        go_roundw
        case rel => exact ⟨k + 1, len, u0 + 1, q, c', by omega, by omega, by omega, rfl, rfl, by go_num, zh (HLT.o.symm), zh (by rw [HKT2.o]; exact HJ.o), zh (by rw [HKT2.o]; exact HO10.o), HB10⟩
        case measure => simp [intOf]; omega
      ·obtain rfl : u = u0 := by omega
       have hq : ((u : Int) == u + 1) = false := by simp; omega
       clear hu
       by_cases hv : 0 ≤ v
       ·have HKT2 : Hid (keepP (LE.take (k + 1)) = keepP (LE.take k) ++ [(u, v)]) := zh (by rw [HKT.o, if_pos hv])
        clear HHAS
        go_wp2_with (at_builtin; refine wpList_append_lies _ rfl _ _ 40 rfl W8.heap.size 44 i1 z1 2 16 und40 hi1 hz1 hsz1 hby1 hzc1 (by decide) (.slice q len c') len _ rfl ((HO.o.alloc _).alloc _) ⟨wr.heap.size + 1, 0, none⟩ 1 1 [.int .i64 (u), .int .i64 v] rfl rfl (World.news_of_block HZB.o) (by simp [Value.oneCell']) (by decide) (by unfold maxLen; omega) (by omega) (by simp; omega) (wr.heap.size + 1 + 1) (by simp) ?_; intro gg cc w2 hown2 hgrow2 hat2 hlt3; have HOW2 := zh hown2; have HGR2 := zh hgrow2; clear hown2 hgrow2 hat2)
        go_roundw
        case rel =>
         refine ⟨k + 1, len + 1, u, some ⟨gg, 0, none⟩, cc, by omega, by omega, by omega, rfl, rfl, by go_num, zh (HLT.o.symm), zh ?_, zh ?_, zh ?_⟩
         ·rw [HKT2.o, List.length_append, HJ.o]; rfl
         ·rw [HKT2.o, pairsC_app]; exact HOW2.o
         ·exact (HB.o.trans (HV.o.mono HB.o.size)).grown HGR2.o (by simp; omega) (fun b e => HOFF.o b e)
        case measure => simp [intOf]; omega
       ·have HKT2 : Hid (keepP (LE.take (k + 1)) = keepP (LE.take k)) := zh (by rw [HKT.o, if_neg hv])
        have HHC := zh (HHAS.o (by omega))
        clear HHAS
        go_wp2_with fail
        refine HHC.o.mono ?_
        rintro e W10 ⟨rfl, hb10⟩
        have HB10 := zh (HB.o.trans ((HV1.o.trans (hb10.mono HV1.o.size)).mono HB.o.size))
        have HO10 := zh (row_below (row_below HO.o HV1.o) hb10)
        clear hb10 HHC
        go_wp2_with fail
        go_roundw
        case rel => exact ⟨k + 1, len, u, q, c', by omega, by omega, by omega, rfl, rfl, by go_num, zh (HLT.o.symm), zh (by rw [HKT2.o]; exact HJ.o), zh (by rw [HKT2.o]; exact HO10.o), HB10⟩
        case measure => simp [intOf]; omega
     ·have hkn : k = LE.length := by rw [← HNL.o]; omega
      have hu3 : u0 = (m : Int) - 1 := by rw [HL0.o, hkn, List.take_length]; exact HCH.o.2
      have HJ3 : Hid (IN.length = len) := zh (by rw [← HKP.o]; have := HJ.o; rwa [hkn, List.take_length] at this)
      have HO3 : Hid (wr.ownsRow W8.heap.size 44 2 (.slice q len c') len (pairsC IN)) := zh (by rw [← HKP.o]; have := HO.o; rwa [hkn, List.take_length] at this)
      have hbu : (u0 != (m : Int) - 1) = false := by simpa using hu3
      have HAT1 := zh (M.At.below HB.o HAT1.o)
      have HAT2 := zh (M.At.below HB.o HAT2.o)
      have HAT3 := zh (M.At.below HB.o HAT3.o)
      have X1 := zh (X1.o.below HB.o X1.o.lt)
      have X2 := zh (X2.o.below HB.o X2.o.lt)
      have HC := zh (eqp_calls (M.At.mono (T := fun _ => True) (fun _ _ => trivial) (pairs_of_row HO3.o HJ3.o)) HAT1.o)
      have HBw := zh (HB8.o.trans (HB.o.mono HB8.o.size))
      rw [show (IN == IN) = true by simp] at HC
      clear hkn hu3 HAT5 HCH HKP HAN HL0 HJ HO HJ3 HO3
      have x0 := X1.o.row 0 _ rfl
      have x1 := X1.o.row 1 _ rfl
      have x2 := X1.o.row 2 _ rfl
      have x3 := X1.o.row 3 _ rfl
      have x4 := X1.o.row 4 _ rfl
      have hlx := X1.o.lt
      go_wp2_with fail
      refine HC.o.mono ?_
      rintro e W10 ⟨rfl, hb10⟩
      have HAT1 := zh (M.At.below hb10 HAT1.o)
      have HAT2 := zh (M.At.below hb10 HAT2.o)
      have HAT3 := zh (M.At.below hb10 HAT3.o)
      have X2 := zh (X2.o.below hb10 X2.o.lt)
      have HB10 := zh (HBw.o.trans (hb10.mono HBw.o.size))
      clear hb10 HC hbu x0 x1 x2 x3 x4 hlx
      have HE1 := zh (fun t => eqp_calls (w := W10.drewN t) (M.At.below (below_drewN (Below.refl _ W10) t) (pairs_left HAT3.o)) (M.At.below (below_drewN (Below.refl _ W10) t) HAT2.o))
      rw [show (LE == LE) = true by simp, ← HNL.o] at HE1
      have HE2 := zh (fun (W : World) (hb : Below W10.heap.size W10 W) => rest_calls (n := n) (B := usedB G m) (M.At.below hb (by have := pairs_right HAT3.o HNL.o; rw [HFF.o] at this; exact this)) (M.At.below hb HAT1.o) hn4 HIR.o HUS.o)
      rw [← HFF.o, ← HFR.o] at HE2
      obtain ⟨nf, hnf⟩ : ∃ nf, nf = nl + fr := ⟨_, rfl⟩
      rw [← hnf] at hc1 ⊢
      have HNF := zh hnf
      have hnle : nl ≤ nf := by omega
      have hge : decide ((nl : Int) ≤ (nf : Int)) = true := decide_eq_true (by omega)
      clear hnf
      go_wp2_with fail
      refine Mix.region 25 (by kernel_rfl) rfl ?_
      refine Mix.phase2 (ft := 14) (ph := [0, 1, 2, 3, 4, 5, 6, 7, 8, 9, 10]) (.cons rfl (.cons rfl (.cons rfl (.cons rfl (.cons rfl (.cons rfl (.cons rfl (.cons rfl (.cons rfl (.cons rfl (.cons rfl (.nil)))))))))))) (by kernel_rfl) ?_
      repeat (go_big_quiet_step (fail))
      refine wpQuiet_nil ?_
      rintro _ ⟨nq, rfl⟩
      refine Mix.alone (i := 11) (by kernel_rfl) rfl (by rfl) (fun K hK => ?_)
      go_step
      refine (HE1.o (1 + nq)).mono ?_
      rintro e W11 ⟨rfl, hb11⟩
      refine hK _ _ ?_
      have HB11 : Hid (Below W10.heap.size W10 W11) := zh ((below_drewN (Below.refl _ W10) (1 + nq)).trans hb11)
      have X2 := zh (X2.o.below HB11.o X2.o.lt)
      clear hK K hb11
      have y2 := X2.o.row 2 _ rfl
      have hly := X2.o.lt
      refine Mix.phase2 (ft := 3) (ph := [12, 13, 14, 15, 16, 17, 18, 19, 20, 21]) (.cons rfl (.cons rfl (.cons rfl (.cons rfl (.cons rfl (.cons rfl (.cons rfl (.cons rfl (.cons rfl (.cons rfl (.nil))))))))))) (by kernel_rfl) ?_
      repeat (go_big_quiet_step (fail))
      refine wpQuiet_nil ?_
      rintro _ ⟨nr, rfl⟩
      rw [show fr = nf - nl by have := HNF.o; omega] at HE2
      refine Mix.alone (i := 22) (by kernel_rfl) rfl (by rfl) (fun K hK => ?_)
      go_step
      refine (HE2.o (W11.drewN nr) (below_drewN HB11.o nr)).mono ?_
      rintro e W12 ⟨rfl, hb12⟩
      refine hK _ _ ?_
      have HB12 : Hid (Below w.heap.size w W12) := zh (HB10.o.trans ((HB11.o.trans (((below_drewN (Below.refl _ W11) nr).trans hb12).mono HB11.o.size)).mono HB10.o.size))
      clear hK K hb12 y2 hly
      refine Mix.phase2 (ft := 0) (ph := [23, 24]) (.cons rfl (.cons rfl (.nil))) (by kernel_rfl) ?_
      repeat (go_big_quiet_step (fail))
      refine wpQuiet_nil ?_
      rintro _ ⟨ns, rfl⟩
      refine Mix.done (by kernel_rfl) ?_
      go_wp2_with fail
      all_goals
       go_ret
       exact ⟨rfl, below_drewN HB12.o _⟩
end Go.Fld
