import Derived.Test.YtkhpgcbjmopkfaaGreatDoorT00
import Derived.Test.YtkhpgcbjmopkfaaGreatDoorT25
import Derived.Defers
import Derived.Recover
set_option linter.unusedVariables false
set_option linter.unusedSimpArgs false
set_option linter.unnecessarySimpa false
set_option maxRecDepth 100000
namespace Go.Fld
open Go Go.RowKit Go.Proofs Go.ChangeShapes Go.WideShapes Go.ChangeAt Go.Shelf Go.Fld.Late
theorem frame116 (a v : Value) : #[a] ++ ((Array.replicate 17 undef).setIfInBounds 4 v).setIfInBounds 1 v = #[a, undef, v, undef, undef, v, undef, undef, undef, undef, undef, undef, undef, undef, undef, undef, undef, undef] := by kernel_rfl
theorem ta_none : ∀ w : World, (Instr.typeAssert (.iface 201 (.agg #[])) 20 201 true).run Tryz.prog w = .ok (.tuple #[.agg #[], .bool true]) w := fun w => rfl
set_option maxHeartbeats 4000000 in
theorem caught_idle (p : Addr) (w : World) :
  CallsD Tryz.prog 116 #[.pointer (some p)] .returning w fun e u' w' => e = .returned (.tuple #[]) ∧ u' = .returning ∧ w' = w := by
 refine callsD_of_wpS Tryz.func116 rfl fun c₀ cs hu => ?_
 apply wpS_seq
 apply wpS_region
 simp [wpOpsS, go_sem, recoverD, hu, Tryz.ntmps116, Exit.thenS]
 rw [frame116]
 refine wpS_of_wp ?_
 go_wp2_with fail
 cases c₀
 simp_all [bodyPostS, results, Tryz.results116]
set_option maxHeartbeats 4000000 in
theorem caught_none (b : Nat) (x : Int) (w : World) (hb : BoxN w b 33 [.int .i64 x]) :
  CallsD Tryz.prog 116 #[.pointer (some ⟨b, 0, none⟩)] (.panicking [{ v := .iface 201 (.agg #[]), recovered := false }]) w fun e u' w' =>
   e = .returned (.tuple #[]) ∧ u' = .panicking [{ v := .iface 201 (.agg #[]), recovered := true }] ∧ w' = (w.setCell ⟨b, 0, none⟩ (.int .i64 7)).alloc (.cells #[] 201) := by
 have hc := hb.row 0 _ rfl
 have hz := hb.frozen 0
 have hlt := hb.lt
 have hta := ta_none
 refine callsD_of_wpS Tryz.func116 rfl fun c₀ cs hu => ?_
 apply wpS_seq
 apply wpS_region
 simp [wpOpsS, go_sem, recoverD, hu, Tryz.ntmps116, Exit.thenS]
 rw [frame116]
 refine wpS_of_wp ?_
 clear hu
 go_wp2_with fail
 cases c₀
 simp_all [bodyPostS, results, Tryz.results116]
def getV (f : Fd) (d : Dt) (r : Nat) : Rd := readV (dtDepth d) f d r 4194304
def getA (f : Fd) (d : Dt) (r : Nat) : Vl × Int := match getV f d r with
 | none => (.mk false 0 ⟨#[]⟩ [], 7)
 | some (v, _) => (v, 0)
def getT (f : Fd) (d : Dt) (r : Nat) : Int := match getV f d r with
 | none => 0
 | some (_, y) => 4194304 - y
def GetPost (w : World) (f : Fd) (d : Dt) (r : Nat) (e : Ending) (w' : World) : Prop := ∃ vs, e = .returned (.tuple #[.agg vs.toArray, .int .i64 (getT f d r), .int .i64 (getA f d r).2]) ∧ VAt (fun b => w.heap.size ≤ b) w' (getA f d r).1 vs ∧ Below w.heap.size w w'
theorem get_res {fn : Func} {i j k : Nat} (hfn : fn.results = #[.cell i 135, .tmp j, .cell k 33]) {W : World} {tmps : Array Value} {rb eb : Nat} {u c0 c1 c2 c3 x : Value} (ht : tmps.getD i undef = .pointer (some ⟨rb, 0, none⟩)) (hu : tmps.getD j undef = u) (hk : tmps.getD k undef = .pointer (some ⟨eb, 0, none⟩)) (hw : RowAt W rb [c0, c1, c2, c3]) (he : RowAt W eb [x]) :
  (results fn tmps).run Tryz.prog W = .ok (.tuple #[.agg #[c0, c1, c2, c3], u, x]) W := by
 have h0 := hw 0 _ rfl
 have h1 := hw 1 _ rfl
 have h2 := hw 2 _ rfl
 have h3 := hw 3 _ rfl
 have h4 := he 0 _ rfl
 rw [Array.getD_eq_getD_getElem?] at ht hu hk
 simp [results, hfn, go_sem, ht, hu, hk, h0, h1, h2, h3, h4]
theorem leaves_tmps {fn : Func} {t t' : Array Value} {R : Ending → World → Prop} (h : results fn t' = results fn t) : ∀ (ds : List Deferred) (u : FrameMode) (w : World), Leaves Tryz.prog fn t R ds u w → Leaves Tryz.prog fn t' R ds u w
 | [], .returning, w, hl => by unfold Leaves at hl ⊢; rw [h]; exact hl
 | [], .panicking chain, w, hl => hl
 | [], .run, w, hl => hl
 | d :: ds, u, w, hl => by
  unfold Leaves at hl ⊢
  obtain ⟨h1, fv, cap, f, args, h2, h3, h4⟩ := hl
  refine ⟨h1, fv, cap, f, args, h2, h3, h4.mono fun e u' w' hh => ?_⟩
  cases e with
  | returned v => exact leaves_tmps h ds _ _ hh
  | panicked c => exact leaves_tmps h ds _ _ hh
  | outgrown => exact hh
theorem res_put (t : Array Value) (i : Nat) (hi : i ≠ 4 ∧ i ≠ 5 ∧ i ≠ 6) (v : Value) : results Tryz.f104 t = results Tryz.f104 (t.setIfInBounds i v) := by
 have g4 : (t.setIfInBounds i v)[4]? = t[4]? := Array.getElem?_setIfInBounds_ne hi.1
 have g5 : (t.setIfInBounds i v)[5]? = t[5]? := Array.getElem?_setIfInBounds_ne hi.2.1
 have g6 : (t.setIfInBounds i v)[6]? = t[6]? := Array.getElem?_setIfInBounds_ne hi.2.2
 simp only [results, Tryz.results104]
 simp [g4, g5, g6]
theorem panic_put {R : Ending → World → Prop} {K : Act → World → Prop} {i : Nat} (hi : i ≠ 4 ∧ i ≠ 5 ∧ i ≠ 6) {v : Value} {c : List PanicEntry} {a : Act} {w : World} (h : Exit.then K (bodyPostD Tryz.prog Tryz.f104 R) (.panic c) (a.put (some i) v) w) : Exit.then K (bodyPostD Tryz.prog Tryz.f104 R) (.panic c) a w :=
 leaves_tmps (res_put a.tmps i hi v) _ _ _ h
set_option maxHeartbeats 4000000 in
theorem aget_calls {w : World} {ab fr i : Nat} {f : Fd} {d : Dt} {n : Int} (hA : ArrAt w w ab f d fr n) (hwell : (checkW f d).1 = 0) (hrow : d.off.toNat ≤ fr + i ∧ ((fr + i : Nat) : Int) < d.off + d.len) (hT : Lib.Utf8Tabs 1 2 w) :
  Calls Tryz.prog 104 #[.pointer (some ⟨ab, 0, none⟩), .int .i64 i] w (GetPost w f d (fr + i)) := by
 obtain ⟨nn, hnn⟩ : ∃ nn, dtDepth d = nn + 1 := by
  cases d with
  | mk len off nul bufs kids dict => rw [dtDepth]; exact ⟨max (dtDepthL kids) (dtDepthL dict), by omega⟩
 obtain ⟨W1, hW, a0, a1, a2, hBW⟩ := boxes3 w 135 [.bool false, .int .i64 0, .string ⟨#[]⟩, .slice none 0 0] 33 [.int .i64 0] 3 [.int .i64 4194304]
 have hab := hA.lt
 have hs1 : W1.heap.size = w.heap.size + 3 := by rw [hW, World.size_alloc, World.size_alloc, World.size_alloc]
 have HRD : Hid (RdIn w W1 ab (w.heap.size + 1 + 1) f d fr n (fr + i) 4194304) := zh ⟨hBW, hA.below hBW, a2, ⟨by omega, by omega⟩, by omega, hwell, hrow, hT⟩
 have HOC := zh (own_calls (own_all nn) HRD.o (by omega))
 have HGV := zh (show getV f d (fr + i) = readV (nn + 1) f d (fr + i) 4194304 by unfold getV; rw [hnn])
 obtain ⟨res, hres⟩ : ∃ res, readV (nn + 1) f d (fr + i) 4194304 = res := ⟨_, rfl⟩
 rw [hres] at HOC HGV
 have HW := zh hW
 have A0 := zh a0
 have A1 := zh a1
 have L1 := zh (LeftAt.refl a2)
 have HBW := zh hBW
 have HS1 := zh hs1
 clear hA hwell hrow hT hnn hres hW a0 a1 a2 hBW hs1
 go_enter_defers Tryz.func104, Tryz.ntmps104
 go_wp2_with fail
 rw [← HW.o]
 clear HW
 refine HOC.o.mono ?_
 rintro e W2 (⟨hn, rfl, z, hz⟩ | ⟨v, z, vs, hv, rfl, hvat, hz, hzb⟩)
 ·have hlt0 := A0.o.lt
  have B0 := A0.o.kept hz.grown (by intro e; have := Option.some.inj e; omega)
  have B1 := A1.o.kept hz.grown (by intro e; have := Option.some.inj e; omega)
  have HB2 : Below w.heap.size w W2 := hz.base HBW.o (by omega)
  have HNR := zh (show getA f d (fr + i) = (.mk false 0 ⟨#[]⟩ [], 7) ∧ getT f d (fr + i) = 0 by unfold getA getT; rw [HGV.o, hn]; exact ⟨rfl, rfl⟩)
  have H0 := zh B0
  have H1 := zh B1
  have H2 := zh HB2
  clear hz hn B0 B1 HB2
  go_wp2_with fail
  refine leaves_cons (f := 116) (args := #[.pointer (some ⟨w.heap.size + 1, 0, none⟩)]) (by simp) (by simp [go_sem]) ?_
  refine (caught_none (w.heap.size + 1) 0 _ H1.o).mono ?_
  rintro e u' w'' ⟨rfl, rfl, rfl⟩
  refine ⟨_, get_res (i := 4) (j := 5) (k := 6) rfl rfl rfl rfl ((H0.o.other (a := ⟨w.heap.size + 1, 0, none⟩) (by show w.heap.size ≠ w.heap.size + 1; omega) _).alloc _).row ((H1.o.set 0 (.int .i64 7)).alloc _).row, ?_⟩
  have hbw : Below w.heap.size w (W2.setCell ⟨w.heap.size + 1, 0, none⟩ (.int .i64 7)) := H2.o.setCell (p := ⟨w.heap.size + 1, 0, none⟩) (by show w.heap.size ≤ w.heap.size + 1; omega) _
  refine ⟨[.bool false, .int .i64 0, .string ⟨#[]⟩, .slice none 0 0], ?_, ?_, hbw.alloc hbw.size _⟩
  ·rw [HNR.o.1, HNR.o.2]
   rfl
  ·rw [HNR.o.1]
   exact VAt.flat false 0 ⟨#[]⟩
 ·have B0 := A0.o.kept hz.grown (by intro e; have := Option.some.inj e; omega)
  have B1 := A1.o.kept hz.grown (by intro e; have := Option.some.inj e; omega)
  have HB2 : Below w.heap.size w W2 := hz.base HBW.o (by omega)
  have HNR := zh (show getA f d (fr + i) = (v, 0) ∧ getT f d (fr + i) = IntKind.i64.wrap (4194304 - z) by unfold getA getT; rw [HGV.o, hv, IntWalk.i64_in (4194304 - z) (by omega)]; exact ⟨rfl, rfl⟩)
  have hlt1 := HS1.o
  have HV := zh (show VAt (fun b => w.heap.size + 3 ≤ b) W2 v vs from hvat.mono fun b hb => by have hb' : W1.heap.size ≤ b := hb; omega)
  obtain ⟨pp, pc, rfl, -⟩ := hvat.shape
  have H0 := zh B0
  have H1 := zh B1
  have H2 := zh HB2
  have H3 := zh hz.box
  have m0 := B0.row 0 _ rfl
  have m1 := B0.row 1 _ rfl
  have m2 := B0.row 2 _ rfl
  have m3 := B0.row 3 _ rfl
  have z0 := B0.frozen 0
  have z1 := B0.frozen 1
  have z2 := B0.frozen 2
  have z3 := B0.frozen 3
  have hl1' := B0.lt
  clear hz hv B0 B1 HB2 hvat
  go_wp2_with fail
  obtain ⟨V, hV⟩ : ∃ V, V = put4 W2 w.heap.size (.bool v.nl) (.int .i64 v.num) (.string v.tx) (.slice pp v.kids.length pc) := ⟨_, rfl⟩
  have K0 := zh (show BoxN V w.heap.size 135 [.bool v.nl, .int .i64 v.num, .string v.tx, .slice pp v.kids.length pc] by rw [hV]; exact put4_box rfl H0.o _ _ _ _)
  have K1 := zh (show BoxN V (w.heap.size + 1) 33 [.int .i64 0] by rw [hV]; exact (put4_other (by omega) _ _ _ _).trans H1.o)
  have K3 := zh (show BoxN V (w.heap.size + 1 + 1) 3 [.int .i64 z] by rw [hV]; exact (put4_other (by omega) _ _ _ _).trans H3.o)
  have K2 := zh (show Below w.heap.size w V by rw [hV]; exact put4_below H2.o (Nat.le_refl _) _ _ _ _)
  have KV := zh (show VAt (fun b => w.heap.size + 3 ≤ b) V v [.bool v.nl, .int .i64 v.num, .string v.tx, .slice pp v.kids.length pc] by rw [hV]; exact HV.o.keep fun b hb hlt => ⟨put4_other (by have hb' : w.heap.size + 3 ≤ b := hb; omega) _ _ _ _, hb⟩)
  rw [show (((W2.setCell ⟨w.heap.size, 0, none⟩ (.bool v.nl)).setCell ⟨w.heap.size, 1, none⟩ (.int .i64 v.num)).setCell ⟨w.heap.size, 2, none⟩ (.string v.tx)).setCell ⟨w.heap.size, 3, none⟩ (.slice pp v.kids.length pc) = V from hV.symm]
  clear hV m0 m1 m2 m3 z0 z1 z2 z3 hl1'
  refine Late.region (fun w' => RowAt w' w.heap.size [.bool v.nl, .int .i64 v.num, .string v.tx, .slice pp v.kids.length pc] ∧ w'.cell? ⟨w.heap.size + 1 + 1, 0, none⟩ = some (.int .i64 z)) (fun _ => false) (by kernel_rfl) ?_
  obtain ⟨Vd, hVd⟩ : ∃ Vd, Vd = V.drew := ⟨_, rfl⟩
  have J0 := zh (show BoxN Vd w.heap.size 135 [.bool v.nl, .int .i64 v.num, .string v.tx, .slice pp v.kids.length pc] by rw [hVd]; exact K0.o)
  have J1 := zh (show BoxN Vd (w.heap.size + 1) 33 [.int .i64 0] by rw [hVd]; exact K1.o)
  have J3 := zh (show BoxN Vd (w.heap.size + 1 + 1) 3 [.int .i64 z] by rw [hVd]; exact K3.o)
  have J2 := zh (show Below w.heap.size w Vd by rw [hVd]; exact below_drew K2.o)
  have JV := zh (show VAt (fun b => w.heap.size + 3 ≤ b) Vd v [.bool v.nl, .int .i64 v.num, .string v.tx, .slice pp v.kids.length pc] by rw [hVd]; exact KV.o.below (below_drew (Below.refl _ V)))
  rw [← hVd]
  clear hVd K0 K1 K2 K3 KV
  have HS0 := zh (And.intro J0.o.row (J3.o.row 0 _ rfl))
  refine Late.take (i := 0) (v := ?_) rfl (by kernel_rfl) (by kernel_rfl) (by kernel_rfl) (by kernel_rfl) (fun _ _ _ h => panic_put (i := 11) (by decide) h) (Or.inl ⟨by rfl, ?_⟩) HS0.o ?_
  rotate_left
  ·intro w' hS
   have p0 := hS.1 0 _ rfl; have p1 := hS.1 1 _ rfl; have p2 := hS.1 2 _ rfl; have p3 := hS.1 3 _ rfl; clear hS
   go_simp
   rfl
  refine Late.take (i := 1) (v := ?_) rfl (by kernel_rfl) (by kernel_rfl) (by kernel_rfl) (by kernel_rfl) (fun _ _ _ h => panic_put (i := 12) (by decide) h) (Or.inl ⟨by rfl, ?_⟩) HS0.o ?_
  rotate_left
  ·intro w' hS
   have p0 := hS.2; clear hS
   go_simp
   rfl
  refine Late.take (i := 2) (v := ?_) rfl (by kernel_rfl) (by kernel_rfl) (by kernel_rfl) (by kernel_rfl) (fun _ _ _ h => panic_put (i := 13) (by decide) h) (Or.inl ⟨by rfl, ?_⟩) HS0.o ?_
  rotate_left
  ·intro w' hS
   clear hS
   go_simp
   rfl
  have m0 := J0.o.row 0 _ rfl
  have m1 := J0.o.row 1 _ rfl
  have m2 := J0.o.row 2 _ rfl
  have m3 := J0.o.row 3 _ rfl
  have z0 := J0.o.frozen 0
  have z1 := J0.o.frozen 1
  have z2 := J0.o.frozen 2
  have z3 := J0.o.frozen 3
  have hl1' := J0.o.lt
  refine Late.one (i := 3) (by kernel_rfl) rfl (fun K hK => ?_)
  go_simp
  obtain ⟨U, hU⟩ : ∃ U, U = put4 Vd w.heap.size (.bool v.nl) (.int .i64 v.num) (.string v.tx) (.slice pp v.kids.length pc) := ⟨_, rfl⟩
  have K0 := zh (show BoxN U w.heap.size 135 [.bool v.nl, .int .i64 v.num, .string v.tx, .slice pp v.kids.length pc] by rw [hU]; exact put4_box rfl J0.o _ _ _ _)
  have K1 := zh (show BoxN U (w.heap.size + 1) 33 [.int .i64 0] by rw [hU]; exact (put4_other (by omega) _ _ _ _).trans J1.o)
  have K3 := zh (show BoxN U (w.heap.size + 1 + 1) 3 [.int .i64 z] by rw [hU]; exact (put4_other (by omega) _ _ _ _).trans J3.o)
  have K2 := zh (show Below w.heap.size w U by rw [hU]; exact put4_below J2.o (Nat.le_refl _) _ _ _ _)
  have KV := zh (show VAt (fun b => w.heap.size + 3 ≤ b) U v [.bool v.nl, .int .i64 v.num, .string v.tx, .slice pp v.kids.length pc] by rw [hU]; exact JV.o.keep fun b hb hlt => ⟨put4_other (by have hb' : w.heap.size + 3 ≤ b := hb; omega) _ _ _ _, hb⟩)
  rw [show (((Vd.setCell ⟨w.heap.size, 0, none⟩ (.bool v.nl)).setCell ⟨w.heap.size, 1, none⟩ (.int .i64 v.num)).setCell ⟨w.heap.size, 2, none⟩ (.string v.tx)).setCell ⟨w.heap.size, 3, none⟩ (.slice pp v.kids.length pc) = U from hU.symm]
  clear hU m0 m1 m2 m3 z0 z1 z2 z3 hl1'
  have HS1' := zh (And.intro K0.o.row (K3.o.row 0 _ rfl))
  refine hK _ _ (fun _ => HS1'.o) ?_
  clear hK K
  refine Late.one (i := 4) (by kernel_rfl) rfl (fun K hK => ?_)
  go_simp
  refine hK _ _ (fun _ => HS1'.o) ?_
  clear hK K
  have e0 := K1.o.row 0 _ rfl
  have ez := K1.o.frozen 0
  have el := K1.o.lt
  refine Late.one (i := 5) (by kernel_rfl) rfl (fun K hK => ?_)
  go_simp
  have hne : w.heap.size ≠ w.heap.size + 1 := by omega
  have hne2 : w.heap.size + 1 + 1 ≠ w.heap.size + 1 := by omega
  have D0 := zh (K0.o.other (a := ⟨w.heap.size + 1, 0, none⟩) hne (.int .i64 0))
  have D1 := zh (K1.o.set 0 (.int .i64 0))
  have D3 := zh (K3.o.other (a := ⟨w.heap.size + 1, 0, none⟩) hne2 (.int .i64 0))
  have hq := And.intro D0.o.row (D3.o.row 0 _ rfl)
  refine hK _ _ (fun _ => hq) ?_
  clear hK K hq
  refine Late.done (by kernel_rfl) ?_ _
  go_wp2_with fail
  refine leaves_cons (f := 116) (args := #[.pointer (some ⟨w.heap.size + 1, 0, none⟩)]) (by simp) (by simp [go_sem]) ?_
  refine (caught_idle ⟨w.heap.size + 1, 0, none⟩ _).mono ?_
  rintro e u' w'' ⟨rfl, rfl, rfl⟩
  refine ⟨_, get_res (i := 4) (j := 5) (k := 6) rfl rfl rfl rfl D0.o.row D1.o.row, ?_⟩
  refine ⟨[.bool v.nl, .int .i64 v.num, .string v.tx, .slice pp v.kids.length pc], ?_, ?_, K2.o.setCell (p := ⟨w.heap.size + 1, 0, none⟩) (by show w.heap.size ≤ w.heap.size + 1; omega) _⟩
  ·rw [HNR.o.1, HNR.o.2]
   rfl
  ·rw [HNR.o.1]
   exact KV.o.keep fun b hb hlt => ⟨Below.heap_setCell _ _ _ b (by have hb' : w.heap.size + 3 ≤ b := hb; show b ≠ w.heap.size + 1; omega), (by have hb' : w.heap.size + 3 ≤ b := hb; show w.heap.size ≤ b; omega)⟩
theorem getA_err (f : Fd) (d : Dt) (r : Nat) : ((getA f d r).2 = 7 ∧ (getA f d r).1 = .mk false 0 ⟨#[]⟩ []) ∨ (getA f d r).2 = 0 := by
 unfold getA
 cases getV f d r with
 | none => exact .inl ⟨rfl, rfl⟩
 | some p => exact .inr rfl
theorem athere_calls {w : World} {ab i n : Nat} {l : List Value} (hb : BoxN w ab 147 l) (hc : l[14]? = some (.int .i64 n)) (hi : i < n) (hn : n ≤ 4611686018427387904) : Calls Tryz.prog 103 #[.pointer (some ⟨ab, 0, none⟩), .int .i64 i] w (StillPost w (.bool true)) := by
 have p14 := hb.row 14 _ hc
 have hlt := hb.lt
 clear hb hc
 go_enter Tryz.func103, Tryz.ntmps103
 go_wp2_with fail
 go_ret
 exact still_post rfl rfl
def GotPost (w : World) (a : Vl × Int) (e : Ending) (w' : World) : Prop := ∃ pp pc, e = .returned (.tuple #[.agg #[.bool a.1.nl, .int .i64 a.1.num, .string a.1.tx, .slice pp a.1.kids.length pc], .int .i64 a.2]) ∧ VAt (fun b => w.heap.size ≤ b) w' a.1 [.bool a.1.nl, .int .i64 a.1.num, .string a.1.tx, .slice pp a.1.kids.length pc] ∧ Below w.heap.size w w'
theorem got_res {fn : Func} {i j : Nat} (hfn : fn.results = #[.cell i 135, .tmp j]) {W : World} {tmps : Array Value} {rb : Nat} {u c0 c1 c2 c3 : Value} (ht : tmps.getD i undef = .pointer (some ⟨rb, 0, none⟩)) (hu : tmps.getD j undef = u) (hw : RowAt W rb [c0, c1, c2, c3]) :
  (results fn tmps).run Tryz.prog W = .ok (.tuple #[.agg #[c0, c1, c2, c3], u]) W := by
 have h0 := hw 0 _ rfl
 have h1 := hw 1 _ rfl
 have h2 := hw 2 _ rfl
 have h3 := hw 3 _ rfl
 rw [Array.getD_eq_getD_getElem?] at ht hu
 simp [results, hfn, go_sem, ht, hu, h0, h1, h2, h3]
set_option maxHeartbeats 4000000 in
theorem Get_calls {w : World} {ab fr i n : Nat} {f : Fd} {d : Dt} (hA : ArrAt w w ab f d fr n) (hwell : (checkW f d).1 = 0) (hrow : d.off.toNat ≤ fr + i ∧ ((fr + i : Nat) : Int) < d.off + d.len) (hT : Lib.Utf8Tabs 1 2 w) (hi : i < n) (hn : n ≤ 4096) :
  Calls Tryz.prog 93 #[.pointer (some ⟨ab, 0, none⟩), .int .i64 i] w (GotPost w (getA f d (fr + i))) := by
 obtain ⟨W1, hW, a0, hBW⟩ := boxes1 w 135 [.bool false, .int .i64 0, .string ⟨#[]⟩, .slice none 0 0]
 have hAW := hA.below hBW
 obtain ⟨fp, fc, bp, bc, kp, kc, dp, dc, hbx, -, -⟩ := hAW.at'
 have HTH := zh (athere_calls hbx rfl hi (by omega))
 have HGC := zh (aget_calls (w := W1) (hAW.base hBW) hwell hrow (Utf8Tabs_below hT hBW))
 have HW := zh hW
 have A0 := zh a0
 have HBW := zh hBW
 have hErr := getA_err f d (fr + i)
 have HERR := zh hErr
 clear hA hwell hrow hT hi hn hW a0 hBW hAW hbx hErr
 go_enter Tryz.func93, Tryz.ntmps93
 go_wp2_with fail
 rw [← HW.o]
 clear HW
 refine HTH.o.mono ?_
 rintro e W2 ⟨rfl, rfl⟩
 go_wp2_with fail
 refine HGC.o.mono ?_
 rintro e W3 ⟨vs, rfl, hv, hb3⟩
 obtain ⟨pp, pc, rfl, -⟩ := hv.shape
 have HV := zh hv
 have B0 := zh (A0.o.below hb3 A0.o.lt)
 have HB3 := zh (HBW.o.trans (hb3.mono HBW.o.size))
 have hsz := HBW.o.size
 have hlt0 := A0.o.lt
 have hsz3 := hb3.size
 clear hv hb3
 obtain ⟨av, hav⟩ : ∃ av, av = getA f d (fr + i) := ⟨_, rfl⟩
 rw [← hav] at HERR HV ⊢
 have HAV := zh hav
 obtain ⟨tw, htw⟩ : ∃ tw, tw = getT f d (fr + i) := ⟨_, rfl⟩
 rw [← htw]
 clear hav htw
 obtain ⟨v, er⟩ := av
 simp only at HERR HV ⊢
 rcases HERR.o with ⟨h7, hv0⟩ | h0
 ·subst h7
  subst hv0
  clear HERR
  have m0 := B0.o.row 0 _ rfl
  have m1 := B0.o.row 1 _ rfl
  have m2 := B0.o.row 2 _ rfl
  have m3 := B0.o.row 3 _ rfl
  have z0 := B0.o.frozen 0
  have z1 := B0.o.frozen 1
  have z2 := B0.o.frozen 2
  have z3 := B0.o.frozen 3
  have hl1' := B0.o.lt
  go_wp2_with fail
  have hbb : Below w.heap.size w (put4 W3 w.heap.size (.bool false) (.int .i64 0) (.string ⟨#[]⟩) (.slice none 0 0)) := put4_below HB3.o (Nat.le_refl _) _ _ _ _
  refine bodyPost_ret (got_res (i := 4) (j := 5) rfl rfl rfl ((put4_box rfl B0.o (.bool false) (.int .i64 0) (.string ⟨#[]⟩) (.slice none 0 0)).alloc _).row) rfl ⟨none, 0, ?_, ?_, hbb.alloc hbb.size _⟩
  ·rw [← HAV.o]; rfl
  ·rw [← HAV.o]
   exact VAt.flat false 0 ⟨#[]⟩
 ·subst h0
  clear HERR
  have m0 := B0.o.row 0 _ rfl
  have m1 := B0.o.row 1 _ rfl
  have m2 := B0.o.row 2 _ rfl
  have m3 := B0.o.row 3 _ rfl
  have z0 := B0.o.frozen 0
  have z1 := B0.o.frozen 1
  have z2 := B0.o.frozen 2
  have z3 := B0.o.frozen 3
  have hl1' := B0.o.lt
  go_wp2_with fail
  have hbb : Below w.heap.size w (put4 W3 w.heap.size (.bool v.nl) (.int .i64 v.num) (.string v.tx) (.slice pp v.kids.length pc)) := put4_below HB3.o (Nat.le_refl _) _ _ _ _
  refine bodyPost_ret (got_res (i := 4) (j := 5) rfl rfl rfl ((put4_box rfl B0.o (.bool v.nl) (.int .i64 v.num) (.string v.tx) (.slice pp v.kids.length pc)).alloc _).row) rfl ⟨pp, pc, ?_, ?_, hbb.alloc hbb.size _⟩
  ·rw [← HAV.o]; rfl
  ·rw [← HAV.o]
   have hk : VAt (fun b => w.heap.size ≤ b) (put4 W3 w.heap.size (.bool v.nl) (.int .i64 v.num) (.string v.tx) (.slice pp v.kids.length pc)) v [.bool v.nl, .int .i64 v.num, .string v.tx, .slice pp v.kids.length pc] := HV.o.keep fun b hb hlt => ⟨put4_other (by have hb' : W2.heap.size ≤ b := hb; omega) _ _ _ _, (by have hb' : W2.heap.size ≤ b := hb; omega)⟩
   exact hk.below ((Below.refl _ _).alloc (Nat.le_refl _) _)
structure HashAt (w w' : World) (hb : Nat) (x : Int) : Prop where
 grown : w.grownBy w' (some hb)
 box : BoxN w' hb 167 [.int .u64 x]
theorem HashAt.refl {w : World} {hb : Nat} {x : Int} (h : BoxN w hb 167 [.int .u64 x]) : HashAt w w hb x := ⟨⟨rfl, rfl, rfl, Nat.le_refl _, fun _ _ _ => rfl⟩, h⟩
theorem HashAt.below {w w' w'' : World} {hb : Nat} {x : Int} (h : HashAt w w' hb x) (hbl : Below w'.heap.size w' w'') : HashAt w w'' hb x :=
 ⟨⟨hbl.os.trans h.grown.os, hbl.tape.trans h.grown.tape, hbl.output.trans h.grown.output, Nat.le_trans h.grown.size hbl.size, fun i hi hn => (hbl.block i (Nat.lt_of_lt_of_le hi h.grown.size)).trans (h.grown.block i hi hn)⟩, h.box.below hbl h.box.lt⟩
theorem HashAt.set {w w' : World} {hb : Nat} {x : Int} (h : HashAt w w' hb x) (y : Int) : HashAt w (w'.setCell ⟨hb, 0, none⟩ (.int .u64 y)) hb y :=
 ⟨⟨h.grown.os, h.grown.tape, h.grown.output, by rw [World.size_setCell]; exact h.grown.size, fun i hi hn => (Below.heap_setCell _ _ _ i (fun e => hn (by rw [e]))).trans (h.grown.block i hi hn)⟩, h.box.set 0 _⟩
theorem HashAt.trans {w w' w'' : World} {hb : Nat} {x y : Int} (h : HashAt w w' hb x) (h' : HashAt w' w'' hb y) : HashAt w w'' hb y :=
 ⟨⟨h'.grown.os.trans h.grown.os, h'.grown.tape.trans h.grown.tape, h'.grown.output.trans h.grown.output, Nat.le_trans h.grown.size h'.grown.size, fun i hi hn => (h'.grown.block i (Nat.lt_of_lt_of_le hi h.grown.size) hn).trans (h.grown.block i hi hn)⟩, h'.box⟩
theorem HashAt.base {w0 w w' : World} {hb : Nat} {x : Int} (h : HashAt w w' hb x) (hbl : Below w0.heap.size w0 w) (hl : w0.heap.size ≤ hb) : Below w0.heap.size w0 w' :=
 ⟨h.grown.os.trans hbl.os, h.grown.tape.trans hbl.tape, h.grown.output.trans hbl.output, Nat.le_trans hbl.size h.grown.size, fun i hi => (h.grown.block i (Nat.lt_of_lt_of_le hi hbl.size) (fun e => by cases e; omega)).trans (hbl.block i hi)⟩
def HashPost (w : World) (hb : Nat) (x : Int) (e : Ending) (w' : World) : Prop := e = .returned (.tuple #[]) ∧ HashAt w w' hb x
def takeF (x c : Int) : Int := IntKind.u64.wrap (bits BinOp.xor IntKind.u64 x c * 1099511628211)
theorem takeF_bound (x c : Int) : 0 ≤ takeF x c ∧ takeF x c ≤ 18446744073709551615 := by
 unfold takeF
 generalize bits BinOp.xor IntKind.u64 x c * 1099511628211 = y
 show 0 ≤ y % 18446744073709551616 ∧ y % 18446744073709551616 ≤ 18446744073709551615
 omega
theorem take_calls {w : World} {hb : Nat} {x : Int} (h : BoxN w hb 167 [.int .u64 x]) (c : Int) (hc : 0 ≤ c ∧ c < 256) :
  Calls Tryz.prog 105 #[.pointer (some ⟨hb, 0, none⟩), .int .u8 c] w (HashPost w hb (takeF x c)) := by
 have p0 := h.row 0 _ rfl
 have z0 := h.frozen 0
 have hlt := h.lt
 have H := zh h
 clear h
 go_enter Tryz.func105, Tryz.ntmps105
 go_wp2_with fail
 go_end0
 exact ⟨rfl, (HashAt.refl H.o).set _⟩
def numH : Nat → Int → Int → Int
 | 0, h, _ => h
 | n + 1, h, v => numH n (takeF h (v % 256)) (v / 256)
theorem numH_step {k : Nat} (hk : k < 8) (h v : Int) : numH (8 - k) h v = numH (8 - (k + 1)) (takeF h (v % 256)) (v / 256) := by
 obtain ⟨m, hm⟩ : ∃ m, 8 - k = m + 1 := ⟨8 - k - 1, by omega⟩
 rw [hm, show 8 - (k + 1) = m by omega]; rfl
theorem numberh_calls {w : World} {hb : Nat} {x : Int} (h : BoxN w hb 167 [.int .u64 x]) (v : Int) (hv : 0 ≤ v ∧ v ≤ 18446744073709551615) :
  Calls Tryz.prog 106 #[.pointer (some ⟨hb, 0, none⟩), .int .u64 v] w (HashPost w hb (numH 8 x v)) := by
 have H := zh h
 obtain ⟨RES, hR⟩ : ∃ RES, numH 8 x v = RES := ⟨_, rfl⟩
 have HR0 := zh hR
 rw [hR]
 clear h hR
 go_enter Tryz.func106, Tryz.ntmps106
 go_wp2_with fail
 go_loopw [1, 4] (fun u i wr => ∃ (k : Nat) (y h' : Int), k ≤ 8 ∧ i = .int .i64 k ∧ u = .int .u64 y ∧ (0 ≤ y ∧ y ≤ 18446744073709551615) ∧ Hid (HashAt w wr hb h') ∧ Hid (numH (8 - k) h' y = RES)) (fun _ i _ => 8 - (intOf i).toNat)
 case atStart => exact ⟨0, v, x, by omega, rfl, rfl, hv, zh (HashAt.refl H.o), zh (by rw [Nat.sub_zero]; exact HR0.o)⟩
 case round =>
  obtain ⟨k, y, h', hk, rfl, rfl, hy, HA, HR⟩ := hrel
  by_cases hlt : k < 8
  ·have HC := zh (take_calls HA.o.box (y % 256) (by omega))
   have HN := zh (show numH (8 - (k + 1)) (takeF h' (y % 256)) (y / 256) = RES by rw [← HR.o]; exact (numH_step hlt h' y).symm)
   go_wp2_with fail
   refine HC.o.mono ?_
   rintro e W2 ⟨rfl, h2⟩
   have HA2 := zh (HA.o.trans h2)
   clear h2
   go_wp2_with fail
   go_roundw
   case rel => exact ⟨k + 1, y / 256, takeF h' (y % 256), by omega, by go_num, rfl, by omega, HA2, HN⟩
   case measure => simp [intOf]; omega
  ·have hk8 : 8 - k = 0 := by omega
   have HE := zh (show h' = RES by rw [← HR.o, hk8]; rfl)
   clear hk8
   go_wp2_with fail
   go_end0
   exact ⟨rfl, by rw [← HE.o]; exact HA.o⟩
def bytesH (s : ByteArray) : Nat → Nat → Int → Int
 | 0, _, h => h
 | n + 1, i, h => bytesH s n (i + 1) (takeF h (byteAt s i))
theorem bytesH_step {s : ByteArray} {N k : Nat} (hk : k < N) (h : Int) : bytesH s (N - k) k h = bytesH s (N - (k + 1)) (k + 1) (takeF h (byteAt s k)) := by
 obtain ⟨m, hm⟩ : ∃ m, N - k = m + 1 := ⟨N - k - 1, by omega⟩
 rw [hm, show N - (k + 1) = m by omega]; rfl
mutual
def valH : Vl → Int → Int
 | .mk nl num tx kids, h => valsH kids (numH 8 (bytesH tx tx.size 0 (numH 8 (numH 8 (takeF h (if nl then 1 else 0)) (IntKind.u64.wrap num)) tx.size)) kids.length)
def valsH : List Vl → Int → Int
 | [], h => h
 | v :: r, h => valsH r (valH v h)
end
theorem valsH_drop {l : List Vl} {k : Nat} (hk : k < l.length) (h : Int) : valsH (l.drop k) h = valsH (l.drop (k + 1)) (valH l[k] h) := by
 rw [List.drop_eq_getElem_cons hk, valsH]
theorem valH_eq (v : Vl) (h : Int) : valH v h = valsH v.kids (numH 8 (bytesH v.tx v.tx.size 0 (numH 8 (numH 8 (takeF h (if v.nl then 1 else 0)) (IntKind.u64.wrap v.num)) v.tx.size)) v.kids.length) := by
 cases v with
 | mk nl num tx kids => rw [valH]; rfl
inductive VlOk : Vl → Prop
 | mk {v : Vl} : v.tx.size ≤ 4194304 → (∀ u ∈ v.kids, VlOk u) → VlOk v
theorem VlOk.tx {v : Vl} (h : VlOk v) : v.tx.size ≤ 4194304 := by cases h; assumption
theorem vl_get {S : Nat → Prop} {w : World} {l : List Vl} {p : Option Addr} {n cap : Nat} (h : M.At S w (.many 4 (l.map vlR)) (.slice p n cap)) (i : Nat) (hi : i < l.length) : ∃ b o q c, p = some ⟨b, o, none⟩ ∧ S b ∧
  w.cell? ⟨b, o + i * 4, none⟩ = some (.bool l[i].nl) ∧ w.cell? ⟨b, o + i * 4 + 1, none⟩ = some (.int .i64 l[i].num) ∧ w.cell? ⟨b, o + i * 4 + 2, none⟩ = some (.string l[i].tx) ∧ w.cell? ⟨b, o + i * 4 + 3, none⟩ = some (.slice q l[i].kids.length c) ∧
  VAt S w l[i] [.bool l[i].nl, .int .i64 l[i].num, .string l[i].tx, .slice q l[i].kids.length c] := by
 obtain ⟨b, o, cs, rfl, hS, h2, h3, h4⟩ := M.At.get h i (by simpa using hi)
 simp only [List.getElem_map] at h4
 obtain ⟨q, c, rfl, _⟩ := VAt.shape (show VAt S w l[i] cs from h4)
 exact ⟨b, o, q, c, rfl, hS, h3 0 _ rfl, h3 1 _ rfl, h3 2 _ rfl, h3 3 _ rfl, h4⟩
theorem u64w (x : Int) : 0 ≤ IntKind.u64.wrap x ∧ IntKind.u64.wrap x ≤ 18446744073709551615 := by
 show 0 ≤ x % 18446744073709551616 ∧ x % 18446744073709551616 ≤ 18446744073709551615
 omega
set_option maxHeartbeats 4000000 in
theorem valh_step {w0 w : World} {hb : Nat} {x : Int} {v : Vl} {cs : List Value} (hb0 : Below w0.heap.size w0 w) (hv : VAt (fun _ => True) w0 v cs) (hbx : BoxN w hb 167 [.int .u64 x]) (hfar : w0.heap.size ≤ hb) (hok : VlOk v)
  (ih : ∀ u ∈ v.kids, ∀ (w : World) (x : Int) (cs : List Value), Below w0.heap.size w0 w → VAt (fun _ => True) w0 u cs → BoxN w hb 167 [.int .u64 x] → Calls Tryz.prog 94 #[.pointer (some ⟨hb, 0, none⟩), .agg cs.toArray] w (HashPost w hb (valH u x))) :
  Calls Tryz.prog 94 #[.pointer (some ⟨hb, 0, none⟩), .agg cs.toArray] w (HashPost w hb (valH v x)) := by
 obtain ⟨vp, vc, rfl, hki⟩ := hv.shape
 obtain ⟨nl, num, tx, kids⟩ := v
 dsimp only [Vl.nl, Vl.num, Vl.tx, Vl.kids] at *
 obtain ⟨-, hl1, hl2⟩ := list_room hki
 simp only [List.length_map] at hl1
 unfold maxLen at hl2
 have hts : tx.size ≤ 4194304 := hok.tx
 obtain ⟨W1, hW, a0, hBW⟩ := boxes1 w 135 [.bool nl, .int .i64 num, .string tx, .slice vp kids.length vc]
 have HW := zh hW
 have A0 := zh a0
 have H1 := zh ((HashAt.refl hbx).below hBW)
 have HB0 := zh hb0
 have HKI := zh hki
 have HIH := zh ih
 have hlt := hbx.lt
 have HFAR := zh hfar
 have hsz := hBW.size
 have HVH := zh (valH_eq (.mk nl num tx kids) x)
 obtain ⟨RES, hR⟩ : ∃ RES, valH (.mk nl num tx kids) x = RES := ⟨_, rfl⟩
 rw [hR] at HVH ⊢
 clear hb0 hv hbx hfar hok ih hki hW a0 hBW hR
 cases nl with
 | true =>
  go_enter Tryz.func94, Tryz.ntmps94
  go_wp2_with fail
  rw [← HW.o]
  refine (take_calls H1.o.box 1 (by omega)).mono ?_
  rintro e W2 ⟨rfl, h2⟩
  have H2 := zh (H1.o.trans h2)
  have A2 := zh (A0.o.kept h2.grown (by intro e; have := Option.some.inj e; omega))
  have r0 := A2.o.row 0 _ rfl
  have r1 := A2.o.row 1 _ rfl
  have r2 := A2.o.row 2 _ rfl
  have r3 := A2.o.row 3 _ rfl
  have hlt2 := A2.o.lt
  clear h2
  go_wp2_with fail
  refine (numberh_calls H2.o.box (IntKind.u64.wrap num) (u64w num)).mono ?_
  rintro e W3 ⟨rfl, h3⟩
  have H3 := zh (H2.o.trans h3)
  have A3 := zh (A2.o.kept h3.grown (by intro e; have := Option.some.inj e; omega))
  clear h3 r0 r1 r2 r3 hlt2
  have r2 := A3.o.row 2 _ rfl
  have hlt2 := A3.o.lt
  go_wp2_with fail
  refine (numberh_calls H3.o.box (tx.size : Int) (by omega)).mono ?_
  rintro e W4 ⟨rfl, h4⟩
  have H4 := zh (H3.o.trans h4)
  have A4 := zh (A3.o.kept h4.grown (by intro e; have := Option.some.inj e; omega))
  clear h4 r2 hlt2
  have r2 := A4.o.row 2 _ rfl
  have hlt2 := A4.o.lt
  obtain ⟨B0, hB0⟩ : ∃ B0, bytesH tx tx.size 0 (numH 8 (numH 8 (takeF x 1) (IntKind.u64.wrap num)) tx.size) = B0 := ⟨_, rfl⟩
  have HB1 := zh hB0
  have HVH1 := zh (show RES = valsH kids (numH 8 B0 kids.length) by rw [HVH.o, ← hB0]; rfl)
  clear HVH hB0
  go_wp2_with fail
  clear r2 hlt2
  go_loopw [27] (fun i wr => ∃ (k : Nat) (h' : Int), k ≤ tx.size ∧ i = .int .i64 k ∧ Hid (HashAt w wr hb h') ∧ Hid (BoxN wr w.heap.size 135 [.bool true, .int .i64 num, .string tx, .slice vp kids.length vc]) ∧ Hid (bytesH tx (tx.size - k) k h' = B0)) (fun i _ => tx.size - (intOf i).toNat)
  case atStart => exact ⟨0, _, by omega, rfl, H4, A4, zh (by rw [Nat.sub_zero]; exact HB1.o)⟩
  case round =>
   obtain ⟨k, h', hk, rfl, HA, AR, HR⟩ := hrel
   have r2 := AR.o.row 2 _ rfl
   have r3 := AR.o.row 3 _ rfl
   have hlt2 := AR.o.lt
   by_cases hk2 : k < tx.size
   ·have hbb := byteAt_bound tx k
    have hget : (tx[k].toNat : Int) = byteAt tx k := by
     unfold byteAt
     rw [Array.getElem?_eq_getElem (show k < tx.data.size from hk2)]
     rfl
    have HC := zh (take_calls HA.o.box (byteAt tx k) hbb)
    rw [← hget] at HC
    have HN := zh (show bytesH tx (tx.size - (k + 1)) (k + 1) (takeF h' (tx[k].toNat : Int)) = B0 by rw [← HR.o, hget]; exact (bytesH_step hk2 h').symm)
    clear hget hbb
    go_wp2_with fail
    refine HC.o.mono ?_
    rintro e W5 ⟨rfl, h5⟩
    have H5 := zh (HA.o.trans h5)
    have A5 := zh (AR.o.kept h5.grown (by intro e; have := Option.some.inj e; omega))
    clear h5 r2 r3 hlt2
    go_wp2_with fail
    go_roundw
    case rel => exact ⟨k + 1, _, by omega, by go_num, H5, A5, HN⟩
    case measure => simp [intOf]; omega
   ·have hk8 : tx.size - k = 0 := by omega
    have HE := zh (show h' = B0 by rw [← HR.o, hk8]; rfl)
    clear hk8
    go_wp2_with fail
    refine (numberh_calls HA.o.box (kids.length : Int) (by omega)).mono ?_
    rintro e W5 ⟨rfl, h5⟩
    rw [HE.o] at h5
    have H5 := zh (HA.o.trans h5)
    have A5 := zh (AR.o.kept h5.grown (by intro e; have := Option.some.inj e; omega))
    clear h5 r2 r3 hlt2
    have r3 := A5.o.row 3 _ rfl
    have hlt2 := A5.o.lt
    go_wp2_with fail
    clear r3 hlt2
    go_loopw [46] (fun i wr => ∃ (k : Nat) (h' : Int), k ≤ kids.length ∧ i = .int .i64 k ∧ Hid (HashAt w wr hb h') ∧ Hid (valsH (kids.drop k) h' = RES)) (fun i _ => kids.length - (intOf i).toNat)
    case atStart => exact ⟨0, _, by omega, rfl, H5, zh (by rw [List.drop_zero]; exact HVH1.o.symm)⟩
    case round =>
     obtain ⟨k, h', hk, rfl, HA, HR⟩ := hrel
     by_cases hk2 : k < kids.length
     ·obtain ⟨kb, ko, q, c, rfl, -, t0, t1, t2, t3, hvk⟩ := vl_get HKI.o k hk2
      have HBz := zh (HA.o.base HB0.o HFAR.o)
      have s0 := cell_below HBz.o t0
      have s1 := cell_below HBz.o t1
      have s2 := cell_below HBz.o t2
      have s3 := cell_below HBz.o t3
      have HVK := zh hvk
      have HMEM := zh (List.getElem_mem hk2)
      have HN := zh (show valsH (kids.drop (k + 1)) (valH kids[k] h') = RES by rw [← HR.o]; exact (valsH_drop hk2 h').symm)
      clear t0 t1 t2 t3 hvk
      generalize kids[k] = u at *
      obtain ⟨Z, hZ⟩ : ∃ Z, Z = wr.alloc (.cells #[.bool u.nl, .int .i64 u.num, .string u.tx, .slice q u.kids.length c] 135) := ⟨_, rfl⟩
      have hbZ : Below wr.heap.size wr Z := by rw [hZ]; exact (Below.refl _ wr).alloc (Nat.le_refl _) _
      have HZ := zh hZ
      have HZA := zh (HA.o.below hbZ)
      have HC := zh (HIH.o u HMEM.o Z h' _ (HBz.o.trans (hbZ.mono HBz.o.size)) HVK.o HZA.o.box)
      clear hbZ hZ
      go_wp2_with fail
      rw [← HZ.o]
      refine HC.o.mono ?_
      rintro e W6 ⟨rfl, h6⟩
      have H6 := zh (HZA.o.trans h6)
      clear h6
      go_wp2_with fail
      go_roundw
      case rel => exact ⟨k + 1, _, by omega, by go_num, H6, HN⟩
      case measure => simp [intOf]; omega
     ·have hk8 : kids.drop k = [] := List.drop_eq_nil_of_le (by omega)
      have HE := zh (show h' = RES by rw [← HR.o, hk8]; rfl)
      clear hk8
      go_wp2_with fail
      go_end0
      exact ⟨rfl, by rw [← HE.o]; exact HA.o⟩
 | false =>
  go_enter Tryz.func94, Tryz.ntmps94
  go_wp2_with fail
  rw [← HW.o]
  refine (take_calls H1.o.box 0 (by omega)).mono ?_
  rintro e W2 ⟨rfl, h2⟩
  have H2 := zh (H1.o.trans h2)
  have A2 := zh (A0.o.kept h2.grown (by intro e; have := Option.some.inj e; omega))
  have r0 := A2.o.row 0 _ rfl
  have r1 := A2.o.row 1 _ rfl
  have r2 := A2.o.row 2 _ rfl
  have r3 := A2.o.row 3 _ rfl
  have hlt2 := A2.o.lt
  clear h2
  go_wp2_with fail
  refine (numberh_calls H2.o.box (IntKind.u64.wrap num) (u64w num)).mono ?_
  rintro e W3 ⟨rfl, h3⟩
  have H3 := zh (H2.o.trans h3)
  have A3 := zh (A2.o.kept h3.grown (by intro e; have := Option.some.inj e; omega))
  clear h3 r0 r1 r2 r3 hlt2
  have r2 := A3.o.row 2 _ rfl
  have hlt2 := A3.o.lt
  go_wp2_with fail
  refine (numberh_calls H3.o.box (tx.size : Int) (by omega)).mono ?_
  rintro e W4 ⟨rfl, h4⟩
  have H4 := zh (H3.o.trans h4)
  have A4 := zh (A3.o.kept h4.grown (by intro e; have := Option.some.inj e; omega))
  clear h4 r2 hlt2
  have r2 := A4.o.row 2 _ rfl
  have hlt2 := A4.o.lt
  obtain ⟨B0, hB0⟩ : ∃ B0, bytesH tx tx.size 0 (numH 8 (numH 8 (takeF x 0) (IntKind.u64.wrap num)) tx.size) = B0 := ⟨_, rfl⟩
  have HB1 := zh hB0
  have HVH1 := zh (show RES = valsH kids (numH 8 B0 kids.length) by rw [HVH.o, ← hB0]; rfl)
  clear HVH hB0
  go_wp2_with fail
  clear r2 hlt2
  go_loopw [27] (fun i wr => ∃ (k : Nat) (h' : Int), k ≤ tx.size ∧ i = .int .i64 k ∧ Hid (HashAt w wr hb h') ∧ Hid (BoxN wr w.heap.size 135 [.bool false, .int .i64 num, .string tx, .slice vp kids.length vc]) ∧ Hid (bytesH tx (tx.size - k) k h' = B0)) (fun i _ => tx.size - (intOf i).toNat)
  case atStart => exact ⟨0, _, by omega, rfl, H4, A4, zh (by rw [Nat.sub_zero]; exact HB1.o)⟩
  case round =>
   obtain ⟨k, h', hk, rfl, HA, AR, HR⟩ := hrel
   have r2 := AR.o.row 2 _ rfl
   have r3 := AR.o.row 3 _ rfl
   have hlt2 := AR.o.lt
   by_cases hk2 : k < tx.size
   ·have hbb := byteAt_bound tx k
    have hget : (tx[k].toNat : Int) = byteAt tx k := by
     unfold byteAt
     rw [Array.getElem?_eq_getElem (show k < tx.data.size from hk2)]
     rfl
    have HC := zh (take_calls HA.o.box (byteAt tx k) hbb)
    rw [← hget] at HC
    have HN := zh (show bytesH tx (tx.size - (k + 1)) (k + 1) (takeF h' (tx[k].toNat : Int)) = B0 by rw [← HR.o, hget]; exact (bytesH_step hk2 h').symm)
    clear hget hbb
    go_wp2_with fail
    refine HC.o.mono ?_
    rintro e W5 ⟨rfl, h5⟩
    have H5 := zh (HA.o.trans h5)
    have A5 := zh (AR.o.kept h5.grown (by intro e; have := Option.some.inj e; omega))
    clear h5 r2 r3 hlt2
    go_wp2_with fail
    go_roundw
    case rel => exact ⟨k + 1, _, by omega, by go_num, H5, A5, HN⟩
    case measure => simp [intOf]; omega
   ·have hk8 : tx.size - k = 0 := by omega
    have HE := zh (show h' = B0 by rw [← HR.o, hk8]; rfl)
    clear hk8
    go_wp2_with fail
    refine (numberh_calls HA.o.box (kids.length : Int) (by omega)).mono ?_
    rintro e W5 ⟨rfl, h5⟩
    rw [HE.o] at h5
    have H5 := zh (HA.o.trans h5)
    have A5 := zh (AR.o.kept h5.grown (by intro e; have := Option.some.inj e; omega))
    clear h5 r2 r3 hlt2
    have r3 := A5.o.row 3 _ rfl
    have hlt2 := A5.o.lt
    go_wp2_with fail
    clear r3 hlt2
    go_loopw [46] (fun i wr => ∃ (k : Nat) (h' : Int), k ≤ kids.length ∧ i = .int .i64 k ∧ Hid (HashAt w wr hb h') ∧ Hid (valsH (kids.drop k) h' = RES)) (fun i _ => kids.length - (intOf i).toNat)
    case atStart => exact ⟨0, _, by omega, rfl, H5, zh (by rw [List.drop_zero]; exact HVH1.o.symm)⟩
    case round =>
     obtain ⟨k, h', hk, rfl, HA, HR⟩ := hrel
     by_cases hk2 : k < kids.length
     ·obtain ⟨kb, ko, q, c, rfl, -, t0, t1, t2, t3, hvk⟩ := vl_get HKI.o k hk2
      have HBz := zh (HA.o.base HB0.o HFAR.o)
      have s0 := cell_below HBz.o t0
      have s1 := cell_below HBz.o t1
      have s2 := cell_below HBz.o t2
      have s3 := cell_below HBz.o t3
      have HVK := zh hvk
      have HMEM := zh (List.getElem_mem hk2)
      have HN := zh (show valsH (kids.drop (k + 1)) (valH kids[k] h') = RES by rw [← HR.o]; exact (valsH_drop hk2 h').symm)
      clear t0 t1 t2 t3 hvk
      generalize kids[k] = u at *
      obtain ⟨Z, hZ⟩ : ∃ Z, Z = wr.alloc (.cells #[.bool u.nl, .int .i64 u.num, .string u.tx, .slice q u.kids.length c] 135) := ⟨_, rfl⟩
      have hbZ : Below wr.heap.size wr Z := by rw [hZ]; exact (Below.refl _ wr).alloc (Nat.le_refl _) _
      have HZ := zh hZ
      have HZA := zh (HA.o.below hbZ)
      have HC := zh (HIH.o u HMEM.o Z h' _ (HBz.o.trans (hbZ.mono HBz.o.size)) HVK.o HZA.o.box)
      clear hbZ hZ
      go_wp2_with fail
      rw [← HZ.o]
      refine HC.o.mono ?_
      rintro e W6 ⟨rfl, h6⟩
      have H6 := zh (HZA.o.trans h6)
      clear h6
      go_wp2_with fail
      go_roundw
      case rel => exact ⟨k + 1, _, by omega, by go_num, H6, HN⟩
      case measure => simp [intOf]; omega
     ·have hk8 : kids.drop k = [] := List.drop_eq_nil_of_le (by omega)
      have HE := zh (show h' = RES by rw [← HR.o, hk8]; rfl)
      clear hk8
      go_wp2_with fail
      go_end0
      exact ⟨rfl, by rw [← HE.o]; exact HA.o⟩
theorem valh_calls {v : Vl} (hok : VlOk v) : ∀ {w0 w : World} {hb : Nat} {x : Int} {cs : List Value}, Below w0.heap.size w0 w → VAt (fun _ => True) w0 v cs → BoxN w hb 167 [.int .u64 x] → w0.heap.size ≤ hb →
  Calls Tryz.prog 94 #[.pointer (some ⟨hb, 0, none⟩), .agg cs.toArray] w (HashPost w hb (valH v x)) := by
 induction hok with
 | mk h1 h2 ih =>
  intro w0 w hb x cs hb0 hv hbx hfar
  exact valh_step hb0 hv hbx hfar (.mk h1 h2) (fun u hu w x cs b0 hv hbx => ih u hu b0 hv hbx hfar)
def hashF (v : Vl) : Int := valH v 14695981039346656037
set_option maxHeartbeats 4000000 in
theorem Hash_calls {w : World} {v : Vl} {cs : List Value} (hok : VlOk v) (hv : VAt (fun _ => True) w v cs) : Calls Tryz.prog 86 #[.agg cs.toArray] w (BackPost w (.int .u64 (hashF v))) := by
 obtain ⟨vp, vc, rfl, -⟩ := hv.shape
 obtain ⟨W1, hW, a0, a1, hBW⟩ := boxes2 w 135 [.bool v.nl, .int .i64 v.num, .string v.tx, .slice vp v.kids.length vc] 167 [.int .u64 14695981039346656037]
 have HC := zh (valh_calls hok hBW hv a1 (by omega))
 have HW := zh hW
 have HBW := zh hBW
 have hlt := a1.lt
 unfold hashF
 generalize valH v 14695981039346656037 = RES at *
 clear hok hv hW a0 a1 hBW
 go_enter Tryz.func86, Tryz.ntmps86
 go_wp2_with fail
 rw [← HW.o]
 refine HC.o.mono ?_
 rintro e W2 ⟨rfl, h2⟩
 have HB2 := zh (h2.base HBW.o (by omega))
 have r0 := h2.box.row 0 _ rfl
 have hlt2 := h2.box.lt
 clear h2
 go_wp2_with fail
 go_ret
 exact ⟨rfl, HB2.o⟩
def hashL (l : List Vl) : Int := hashF (.mk false 0 ⟨#[]⟩ l)
theorem hashl_calls {w : World} {l : List Vl} {p : Option Addr} {c : Nat} (hok : ∀ v ∈ l, VlOk v) (hv : M.At (fun _ => True) w (.many 4 (l.map vlR)) (.slice p l.length c)) : Calls Tryz.prog 70 #[.slice p l.length c] w (BackPost w (.int .u64 (hashL l))) := by
 have HC := zh (Hash_calls (v := .mk false 0 ⟨#[]⟩ l) (.mk (by show (0 : Nat) ≤ _; omega) hok) (VAt.make false 0 ⟨#[]⟩ l hv))
 unfold hashL
 generalize hashF (.mk false 0 ⟨#[]⟩ l) = RES at *
 clear hok hv
 go_enter Tryz.func70, Tryz.ntmps70
 go_wp2_with fail
 refine HC.o.mono ?_
 rintro e W2 ⟨rfl, hb⟩
 have HB := zh hb
 clear hb
 go_wp2_with fail
 go_ret
 exact ⟨rfl, HB.o⟩
mutual
def sameV : Vl → Vl → Bool
 | .mk n1 a1 t1 k1, .mk n2 a2 t2 k2 => if n1 ≠ n2 ∨ a1 ≠ a2 ∨ t1.toList ≠ t2.toList ∨ k1.length ≠ k2.length then false else sameL k1 k2
def sameL : List Vl → List Vl → Bool
 | a :: r, b :: s => sameV a b && sameL r s
 | _, _ => true
end
theorem sameL_drop {k : Nat} {l m : List Vl} (h1 : k < l.length) (h2 : k < m.length) : sameL (l.drop k) (m.drop k) = (sameV l[k] m[k] && sameL (l.drop (k + 1)) (m.drop (k + 1))) := by
 rw [List.drop_eq_getElem_cons h1, List.drop_eq_getElem_cons h2, sameL]
theorem sameL_end {l m : List Vl} {k : Nat} (h : l.length ≤ k) : sameL (l.drop k) (m.drop k) = true := by
 rw [List.drop_eq_nil_of_le h]
 unfold sameL
 rfl
set_option maxHeartbeats 4000000 in
theorem same_step {w : World} {a b : Vl} {cs ds : List Value} (ha : VAt (fun _ => True) w a cs) (hb : VAt (fun _ => True) w b ds)
  (ih : ∀ u ∈ a.kids, ∀ (v : Vl) (w : World) (cs ds : List Value), VAt (fun _ => True) w u cs → VAt (fun _ => True) w v ds → Calls Tryz.prog 73 #[.agg cs.toArray, .agg ds.toArray] w (BackPost w (.bool (sameV u v)))) :
  Calls Tryz.prog 73 #[.agg cs.toArray, .agg ds.toArray] w (BackPost w (.bool (sameV a b))) := by
 obtain ⟨ap, ac, rfl, hka⟩ := ha.shape
 obtain ⟨bp, bc, rfl, hkb⟩ := hb.shape
 obtain ⟨n1, a1, t1, k1⟩ := a
 obtain ⟨n2, a2, t2, k2⟩ := b
 dsimp only [Vl.nl, Vl.num, Vl.tx, Vl.kids] at *
 obtain ⟨-, hl1, hl2⟩ := list_room hka
 obtain ⟨-, hm1, hm2⟩ := list_room hkb
 simp only [List.length_map] at hl1 hm1
 unfold maxLen at hl2 hm2
 obtain ⟨W1, hW, a0, a1', hBW⟩ := boxes2 w 135 [.bool n1, .int .i64 a1, .string t1, .slice ap k1.length ac] 135 [.bool n2, .int .i64 a2, .string t2, .slice bp k2.length bc]
 have HW := zh hW
 have A0 := zh a0
 have A1 := zh a1'
 have HBW := zh hBW
 have HKA := zh hka
 have HKB := zh hkb
 have HIH := zh ih
 have HS := zh (show sameV (.mk n1 a1 t1 k1) (.mk n2 a2 t2 k2) = if n1 ≠ n2 ∨ a1 ≠ a2 ∨ t1.toList ≠ t2.toList ∨ k1.length ≠ k2.length then false else sameL k1 k2 by rw [sameV])
 obtain ⟨RES, hR⟩ : ∃ RES, sameV (.mk n1 a1 t1 k1) (.mk n2 a2 t2 k2) = RES := ⟨_, rfl⟩
 rw [hR] at HS ⊢
 clear ha hb hka hkb ih hW a0 a1' hBW hR
 by_cases hn : ¬ n1 = n2
 ·have HE := zh (show RES = false by rw [HS.o, if_pos (.inl hn)])
  cases n1 <;> cases n2
  ·exact absurd rfl hn
  ·clear hn
   go_enter Tryz.func73, Tryz.ntmps73
   go_wp2_with fail
   rw [HE.o]
   go_ret
   exact ⟨rfl, by rw [← HW.o]; exact HBW.o⟩
  ·clear hn
   go_enter Tryz.func73, Tryz.ntmps73
   go_wp2_with fail
   rw [HE.o]
   go_ret
   exact ⟨rfl, by rw [← HW.o]; exact HBW.o⟩
  ·exact absurd rfl hn
 replace hn : n1 = n2 := by simpa using hn
 by_cases ha : ¬ a1 = a2
 ·have HE := zh (show RES = false by rw [HS.o, if_pos (.inr (.inl ha))])
  have q : (a1 != a2) = true := by simpa using ha
  subst hn
  clear ha
  go_enter Tryz.func73, Tryz.ntmps73
  go_wp2_with fail
  rw [HE.o]
  go_ret
  exact ⟨rfl, by rw [← HW.o]; exact HBW.o⟩
 replace ha : a1 = a2 := by simpa using ha
 by_cases ht : ¬ t1.toList = t2.toList
 ·have HE := zh (show RES = false by rw [HS.o, if_pos (.inr (.inr (.inl ht)))])
  have q : (t1.toList == t2.toList) = false := by simpa using ht
  subst hn
  subst ha
  clear ht
  go_enter Tryz.func73, Tryz.ntmps73
  go_wp2_with fail
  rw [HE.o]
  go_ret
  exact ⟨rfl, by rw [← HW.o]; exact HBW.o⟩
 replace ht : t1.toList = t2.toList := by simpa using ht
 by_cases hk : ¬ k1.length = k2.length
 ·have HE := zh (show RES = false by rw [HS.o, if_pos (.inr (.inr (.inr hk)))])
  have q : (t1.toList == t2.toList) = true := by simpa using ht
  have q2 : ((k1.length : Int) != (k2.length : Int)) = true := bne_iff_ne.2 (by omega)
  subst hn
  subst ha
  clear ht hk
  go_enter Tryz.func73, Tryz.ntmps73
  go_wp2_with fail
  rw [HE.o]
  go_ret
  exact ⟨rfl, by rw [← HW.o]; exact HBW.o⟩
 replace hk : k1.length = k2.length := by simpa using hk
 have HE := zh (show RES = sameL k1 k2 by rw [HS.o, if_neg (by rintro (h | h | h | h); exact h hn; exact h ha; exact h ht; exact h hk)])
 have q : (t1.toList == t2.toList) = true := by simpa using ht
 have q2 : ((k1.length : Int) != (k2.length : Int)) = false := by rw [hk]; simp
 have hk' : k1.length ≤ k2.length ∧ k2.length ≤ k1.length := by omega
 obtain ⟨hk1, hk2⟩ := hk'
 subst hn
 subst ha
 clear ht hk HS
 go_enter Tryz.func73, Tryz.ntmps73
 go_wp2_with fail
 rw [← HW.o]
 clear HW q q2
 go_loopw [37] (fun i wr => ∃ k : Nat, k ≤ k1.length ∧ i = .int .i64 k ∧ Hid (Below w.heap.size w wr) ∧ Hid (BoxN wr w.heap.size 135 [.bool n1, .int .i64 a1, .string t1, .slice ap k1.length ac]) ∧ Hid (BoxN wr (w.heap.size + 1) 135 [.bool n1, .int .i64 a1, .string t2, .slice bp k2.length bc]) ∧ Hid (RES = sameL (k1.drop k) (k2.drop k))) (fun i _ => k1.length - (intOf i).toNat)
 case atStart => exact ⟨0, by omega, rfl, HBW, A0, A1, zh (by rw [List.drop_zero, List.drop_zero]; exact HE.o)⟩
 case round =>
  obtain ⟨k, hk, rfl, HB, R0, R1, HR⟩ := hrel
  by_cases hlt : k < k1.length
  ·have hlt2 : k < k2.length := by omega
   obtain ⟨xb, xo, xq, xc, rfl, -, s0, s1, s2, s3, hu⟩ := vl_get HKA.o k hlt
   obtain ⟨yb, yo, yq, yc, rfl, -, t0, t1', t2', t3, hv⟩ := vl_get HKB.o k hlt2
   have HU := zh hu
   have HV := zh hv
   have HMEM := zh (List.getElem_mem hlt)
   have HN := zh (show RES = (sameV k1[k] k2[k] && sameL (k1.drop (k + 1)) (k2.drop (k + 1))) by rw [HR.o]; exact sameL_drop hlt hlt2)
   generalize k1[k] = u at *
   generalize k2[k] = v at *
   obtain ⟨wd, hwd⟩ : ∃ wd, wd = wr.drew := ⟨_, rfl⟩
   have HBd := zh (show Below w.heap.size w wd by rw [hwd]; exact below_drew HB.o)
   have R0d := zh (show BoxN wd w.heap.size 135 [.bool n1, .int .i64 a1, .string t1, .slice (some ⟨xb, xo, none⟩) k1.length ac] by rw [hwd]; exact R0.o)
   have R1d := zh (show BoxN wd (w.heap.size + 1) 135 [.bool n1, .int .i64 a1, .string t2, .slice (some ⟨yb, yo, none⟩) k2.length bc] by rw [hwd]; exact R1.o)
   have HS0 := zh (And.intro R0d.o.row (And.intro R1d.o.row (And.intro (And.intro (cell_below HBd.o s0) (And.intro (cell_below HBd.o s1) (And.intro (cell_below HBd.o s2) (cell_below HBd.o s3)))) (And.intro (cell_below HBd.o t0) (And.intro (cell_below HBd.o t1') (And.intro (cell_below HBd.o t2') (cell_below HBd.o t3)))))))
   have HC := zh (HIH.o u HMEM.o v wd _ _ (HU.o.below HBd.o) (HV.o.below HBd.o))
   have HWD := zh hwd
   clear s0 s1 s2 s3 t0 t1' t2' t3 hu hv hwd
   go_wp2_with fail
   refine Late.region (fun w' => RowAt w' w.heap.size [.bool n1, .int .i64 a1, .string t1, .slice (some ⟨xb, xo, none⟩) k1.length ac] ∧ RowAt w' (w.heap.size + 1) [.bool n1, .int .i64 a1, .string t2, .slice (some ⟨yb, yo, none⟩) k2.length bc] ∧ (w'.cell? ⟨xb, xo + k * 4, none⟩ = some (.bool u.nl) ∧ w'.cell? ⟨xb, xo + k * 4 + 1, none⟩ = some (.int .i64 u.num) ∧ w'.cell? ⟨xb, xo + k * 4 + 2, none⟩ = some (.string u.tx) ∧ w'.cell? ⟨xb, xo + k * 4 + 3, none⟩ = some (.slice xq u.kids.length xc)) ∧ (w'.cell? ⟨yb, yo + k * 4, none⟩ = some (.bool v.nl) ∧ w'.cell? ⟨yb, yo + k * 4 + 1, none⟩ = some (.int .i64 v.num) ∧ w'.cell? ⟨yb, yo + k * 4 + 2, none⟩ = some (.string v.tx) ∧ w'.cell? ⟨yb, yo + k * 4 + 3, none⟩ = some (.slice yq v.kids.length yc))) (fun _ => false) (by kernel_rfl) ?_
   rw [← HWD.o]
   clear HWD
   refine Late.tk (i := 0) (v := ?_) rfl (by kernel_rfl) ⟨by rfl, ?_⟩ HS0.o ?_
   rotate_left
   ·intro w' hS
    clear hS
    go_simp
    rfl
   refine Late.tk (i := 1) (v := ?_) rfl (by kernel_rfl) ⟨by rfl, ?_⟩ HS0.o ?_
   rotate_left
   ·intro w' hS
    obtain ⟨h1, h2, h3, h4⟩ := hS; have p3 := h1 3 _ rfl; clear h1 h2 h3 h4
    go_simp
    rfl
   refine Late.tk (i := 2) (v := ?_) rfl (by kernel_rfl) ⟨by rfl, ?_⟩ HS0.o ?_
   rotate_left
   ·intro w' hS
    clear hS
    go_simp
    rfl
   refine Late.tk (i := 3) (v := ?_) rfl (by kernel_rfl) ⟨by rfl, ?_⟩ HS0.o ?_
   rotate_left
   ·intro w' hS
    clear hS
    go_simp
    rfl
   refine Late.tk (i := 4) (v := ?_) rfl (by kernel_rfl) ⟨by rfl, ?_⟩ HS0.o ?_
   rotate_left
   ·intro w' hS
    obtain ⟨h1, h2, ⟨x0, x1, x2, x3⟩, h4⟩ := hS; clear h1 h2 h4
    go_simp
    rfl
   refine Late.tk (i := 5) (v := ?_) rfl (by kernel_rfl) ⟨by rfl, ?_⟩ HS0.o ?_
   rotate_left
   ·intro w' hS
    clear hS
    go_simp
    rfl
   refine Late.tk (i := 6) (v := ?_) rfl (by kernel_rfl) ⟨by rfl, ?_⟩ HS0.o ?_
   rotate_left
   ·intro w' hS
    obtain ⟨h1, h2, h3, h4⟩ := hS; have p3 := h2 3 _ rfl; clear h1 h2 h3 h4
    go_simp
    rfl
   refine Late.tk (i := 7) (v := ?_) rfl (by kernel_rfl) ⟨by rfl, ?_⟩ HS0.o ?_
   rotate_left
   ·intro w' hS
    clear hS
    go_simp
    rfl
   refine Late.tk (i := 8) (v := ?_) rfl (by kernel_rfl) ⟨by rfl, ?_⟩ HS0.o ?_
   rotate_left
   ·intro w' hS
    clear hS
    go_simp
    rfl
   refine Late.tk (i := 9) (v := ?_) rfl (by kernel_rfl) ⟨by rfl, ?_⟩ HS0.o ?_
   rotate_left
   ·intro w' hS
    obtain ⟨h1, h2, h3, ⟨x0, x1, x2, x3⟩⟩ := hS; clear h1 h2 h3
    go_simp
    rfl
   refine Late.one (i := 10) (by kernel_rfl) rfl (fun K hK => ?_)
   go_simp
   refine HC.o.mono ?_
   rintro e W2 ⟨rfl, hb2⟩
   have S0 := zh (R0d.o.below hb2 R0d.o.lt)
   have S1 := zh (R1d.o.below hb2 R1d.o.lt)
   have HB2 := zh (HBd.o.trans (hb2.mono HBd.o.size))
   have hs := HS0.o
   have HS2 := zh (And.intro (hs.1.below hb2) (And.intro (hs.2.1.below hb2) (And.intro (And.intro (cell_below hb2 hs.2.2.1.1) (And.intro (cell_below hb2 hs.2.2.1.2.1) (And.intro (cell_below hb2 hs.2.2.1.2.2.1) (cell_below hb2 hs.2.2.1.2.2.2)))) (And.intro (cell_below hb2 hs.2.2.2.1) (And.intro (cell_below hb2 hs.2.2.2.2.1) (And.intro (cell_below hb2 hs.2.2.2.2.2.1) (cell_below hb2 hs.2.2.2.2.2.2)))))))
   clear hs hb2
   refine hK _ _ (fun _ => HS2.o) ?_
   clear hK K
   refine Late.one (i := 11) (by kernel_rfl) rfl (fun K hK => ?_)
   go_simp
   refine hK _ _ (fun _ => HS2.o) ?_
   clear hK K
   refine Late.done (by kernel_rfl) ?_ _
   cases hsv : sameV u v with
   | true =>
    have HN2 := zh (show RES = sameL (k1.drop (k + 1)) (k2.drop (k + 1)) by rw [HN.o, hsv]; rfl)
    clear hsv
    go_wp2_with fail
    go_roundw
    case rel => exact ⟨k + 1, by omega, by go_num, HB2, S0, S1, HN2⟩
    case measure => simp [intOf]; omega
   | false =>
    have HN2 := zh (show RES = false by rw [HN.o, hsv]; rfl)
    clear hsv
    go_wp2_with fail
    rw [HN2.o]
    go_ret
    exact ⟨rfl, HB2.o⟩
  ·have HN := zh (show RES = true by rw [HR.o]; exact sameL_end (by omega))
   go_wp2_with fail
   rw [HN.o]
   go_ret
   exact ⟨rfl, HB.o⟩
mutual
theorem vl_ind {P : Vl → Prop} (h : ∀ v : Vl, (∀ u ∈ v.kids, P u) → P v) : ∀ v : Vl, P v
 | .mk nl num tx kids => h _ (vl_indL h kids)
theorem vl_indL {P : Vl → Prop} (h : ∀ v : Vl, (∀ u ∈ v.kids, P u) → P v) : ∀ l : List Vl, ∀ u ∈ l, P u
 | [], u, hu => by cases hu
 | v :: r, u, hu => by
  rcases List.mem_cons.1 hu with e | e
  ·rw [e]; exact vl_ind h v
  ·exact vl_indL h r u e
end
theorem vsame_calls (a b : Vl) (w : World) (cs ds : List Value) (ha : VAt (fun _ => True) w a cs) (hb : VAt (fun _ => True) w b ds) : Calls Tryz.prog 73 #[.agg cs.toArray, .agg ds.toArray] w (BackPost w (.bool (sameV a b))) :=
 vl_ind (P := fun a => ∀ (b : Vl) (w : World) (cs ds : List Value), VAt (fun _ => True) w a cs → VAt (fun _ => True) w b ds → Calls Tryz.prog 73 #[.agg cs.toArray, .agg ds.toArray] w (BackPost w (.bool (sameV a b))))
  (fun a ih b w cs ds ha hb => same_step ha hb ih) a b w cs ds ha hb
def sameK (l m : List Vl) : Bool := if l.length ≠ m.length then false else sameL l m
def sameFn : Value := .func (.func 73) #[] #[]
set_option maxHeartbeats 4000000 in
theorem equal_calls {w : World} {l m : List Vl} {p q : Option Addr} {c e : Nat} (hl : M.At (fun _ => True) w (.many 4 (l.map vlR)) (.slice p l.length c)) (hm : M.At (fun _ => True) w (.many 4 (m.map vlR)) (.slice q m.length e)) :
  Calls Tryz.prog 72 #[.slice p l.length c, .slice q m.length e, sameFn] w (BackPost w (.bool (sameK l m))) := by
 obtain ⟨-, hl1, hl2⟩ := list_room hl
 obtain ⟨-, hm1, hm2⟩ := list_room hm
 simp only [List.length_map] at hl1 hm1
 unfold maxLen at hl2 hm2
 have HL := zh hl
 have HM := zh hm
 obtain ⟨RES, hR⟩ : ∃ RES, sameK l m = RES := ⟨_, rfl⟩
 have HR := zh (show RES = if l.length ≠ m.length then false else sameL l m from hR.symm)
 rw [hR]
 unfold sameFn
 clear hl hm hR
 by_cases hk : l.length ≠ m.length
 ·have HE := zh (show RES = false by rw [HR.o, if_pos hk])
  have q2 : ((l.length : Int) != (m.length : Int)) = true := bne_iff_ne.2 (by omega)
  clear hk
  go_enter Tryz.func72, Tryz.ntmps72
  go_wp2_with fail
  rw [HE.o]
  go_ret
  exact ⟨rfl, Below.refl _ _⟩
 ·have HE := zh (show RES = sameL l m by rw [HR.o, if_neg hk])
  have hk' : l.length ≤ m.length ∧ m.length ≤ l.length := by omega
  have q2 : ((l.length : Int) != (m.length : Int)) = false := by
   have : l.length = m.length := by omega
   rw [this]; simp
  obtain ⟨hk1, hk2⟩ := hk'
  clear hk HR
  go_enter Tryz.func72, Tryz.ntmps72
  go_wp2_with fail
  clear q2
  go_loopw [17] (fun i wr => ∃ k : Nat, k ≤ l.length ∧ i = .int .i64 k ∧ Hid (Below w.heap.size w wr) ∧ Hid (RES = sameL (l.drop k) (m.drop k))) (fun i _ => l.length - (intOf i).toNat)
  case atStart => exact ⟨0, by omega, rfl, zh (Below.refl _ _), zh (by rw [List.drop_zero, List.drop_zero]; exact HE.o)⟩
  case round =>
   obtain ⟨k, hk, rfl, HB, HR⟩ := hrel
   by_cases hlt : k < l.length
   ·have hlt2 : k < m.length := by omega
    obtain ⟨xb, xo, xq, xc, rfl, -, s0, s1, s2, s3, hu⟩ := vl_get HL.o k hlt
    obtain ⟨yb, yo, yq, yc, rfl, -, t0, t1, t2, t3, hv⟩ := vl_get HM.o k hlt2
    have HU := zh hu
    have HV := zh hv
    have HN := zh (show RES = (sameV l[k] m[k] && sameL (l.drop (k + 1)) (m.drop (k + 1))) by rw [HR.o]; exact sameL_drop hlt hlt2)
    have r0 := cell_below HB.o s0
    have r1 := cell_below HB.o s1
    have r2 := cell_below HB.o s2
    have r3 := cell_below HB.o s3
    have n0 := cell_below HB.o t0
    have n1 := cell_below HB.o t1
    have n2 := cell_below HB.o t2
    have n3 := cell_below HB.o t3
    have hxl := World.block_lt_of_cell? wr _ r0
    have hyl := World.block_lt_of_cell? wr _ n0
    simp only at hxl hyl
    clear s0 s1 s2 s3 t0 t1 t2 t3 hu hv
    generalize l[k] = u at *
    generalize m[k] = v at *
    obtain ⟨W1, hW, a0, a1, hBW⟩ := boxes2 wr 135 [.bool u.nl, .int .i64 u.num, .string u.tx, .slice xq u.kids.length xc] 135 [.bool v.nl, .int .i64 v.num, .string v.tx, .slice yq v.kids.length yc]
    have HW := zh hW
    have HB1 := zh (HB.o.trans (hBW.mono HB.o.size))
    have HC := zh (vsame_calls u v W1 _ _ (HU.o.below HB1.o) (HV.o.below HB1.o))
    clear hW a0 a1 hBW
    go_wp2_with fail
    rw [← HW.o]
    refine HC.o.mono ?_
    rintro e W2 ⟨rfl, hb2⟩
    have HB2 := zh (HB1.o.trans (hb2.mono HB1.o.size))
    clear hb2
    cases hsv : sameV u v with
    | true =>
     have HN2 := zh (show RES = sameL (l.drop (k + 1)) (m.drop (k + 1)) by rw [HN.o, hsv]; rfl)
     clear hsv
     go_wp2_with fail
     go_roundw
     case rel => exact ⟨k + 1, by omega, by go_num, HB2, HN2⟩
     case measure => simp [intOf]; omega
    | false =>
     have HN2 := zh (show RES = false by rw [HN.o, hsv]; rfl)
     clear hsv
     go_wp2_with fail
     rw [HN2.o]
     go_ret
     exact ⟨rfl, HB2.o⟩
   ·have HN := zh (show RES = true by rw [HR.o]; exact sameL_end (by omega))
    go_wp2_with fail
    rw [HN.o]
    go_ret
    exact ⟨rfl, HB.o⟩
theorem textF_size (s : ByteArray) (a k : Nat) : (textF s a k).size ≤ k := by
 unfold textF
 split
 ·show (List.toArray _).size ≤ k
  simp
  omega
 ·exact Nat.zero_le k
def OkRd (o : Rd) (x : Int) : Prop := ∀ v y, o = some (v, y) → VlOk v ∧ y ≤ x
theorem manyA_ok {g : Nat → Int → Rd} (hg : ∀ i y, y ≤ 4194304 → OkRd (g i y) y) : ∀ (n i : Nat) (acc : List Vl) (x : Int), x ≤ 4194304 → (∀ v ∈ acc, VlOk v) → ∀ l z, manyA g n i acc x = some (l, z) → (∀ v ∈ l, VlOk v) ∧ z ≤ x
 | 0, i, acc, x, hx, ha, l, z, h => by
  unfold manyA at h
  cases h
  exact ⟨ha, Int.le_refl _⟩
 | n + 1, i, acc, x, hx, ha, l, z, h => by
  unfold manyA at h
  cases hgi : g i x with
  | none => rw [hgi] at h; cases h
  | some p =>
   obtain ⟨v, y⟩ := p
   rw [hgi] at h
   obtain ⟨h1, h2⟩ := hg i x hx v y hgi
   obtain ⟨h3, h4⟩ := manyA_ok hg n (i + 1) (acc ++ [v]) y (Int.le_trans h2 hx) (fun u hu => by
    rcases List.mem_append.1 hu with e | e
    ·exact ha u e
    ·simp at e; rw [e]; exact h1) l z h
   exact ⟨h3, Int.le_trans h4 h2⟩
theorem vlOk_flat {nl : Bool} {num : Int} {tx : ByteArray} (h : tx.size ≤ 4194304) : VlOk (.mk nl num tx []) := .mk h (fun u hu => by cases hu)
theorem vlOk_list {nl : Bool} {num : Int} {l : List Vl} (h : ∀ v ∈ l, VlOk v) : VlOk (.mk nl num ⟨#[]⟩ l) := .mk (by show (0 : Nat) ≤ _; omega) h
theorem readV_ok : ∀ (n : Nat) {f : Fd} {d : Dt} {r : Nat} {x : Int}, (checkW f d).1 = 0 → x ≤ 4194304 → OkRd (readV n f d r x) x
 | 0, f, d, r, x, hw, hx => fun v y h => by cases h
 | n + 1, f, d, r, x, hw, hx => fun v y h => by
  have W0 := WellD.of hw
  obtain ⟨n', o', F⟩ := Fit.of W0.sizes
  have own : ∀ (k i : Nat) (y : Int), y ≤ 4194304 → OkRd (ownV (readV n) f d k i y) y := fun k i y hy u z h => by
   by_cases hk : k < (partsD d).length
   ·rw [own_at hk] at h
    exact readV_ok n (W0.parts k hk) hy u z h
   ·unfold ownV at h
    rw [List.getElem?_eq_none (by omega)] at h
    cases h
  unfold readV at h
  by_cases hn : nullB f.k d.bufs r = true
  ·rw [if_pos hn] at h
   by_cases h1 : x - 16 < 0
   ·rw [if_pos h1] at h; cases h
   ·rw [if_neg h1] at h
    cases h
    exact ⟨vlOk_flat (by show (0 : Nat) ≤ _; omega), by omega⟩
  rw [if_neg hn, famV_of] at h
  by_cases h12 : f.k = 12 ∨ f.k = 13
  ·rw [if_pos h12] at h
   unfold textV at h
   cases hb : btwF (buf d 1) r (buf d 2).size with
   | none => rw [hb] at h; cases h
   | some pq =>
    obtain ⟨p, q⟩ := pq
    obtain ⟨b1, b2, b3⟩ := btwF_some hb
    rw [hb] at h
    simp only at h
    by_cases h1 : x - (16 + q - p) < 0
    ·rw [if_pos h1] at h; cases h
    rw [if_neg h1] at h
    split at h
    ·cases h
    ·cases h
     have := textF_size (buf d 2) p.toNat (q - p).toNat
     exact ⟨vlOk_flat (by omega), by omega⟩
  rw [if_neg h12] at h
  by_cases h15 : f.k = 15 ∨ f.k = 16
  ·rw [if_pos h15] at h
   unfold listV at h
   cases hi : itemsF f d r with
   | none => rw [hi] at h; cases h
   | some pq =>
    obtain ⟨p, q⟩ := pq
    rw [hi] at h
    simp only at h
    by_cases h1 : x - 16 < 0
    ·rw [if_pos h1] at h; cases h
    rw [if_neg h1] at h
    obtain ⟨⟨l, z⟩, h2, h3⟩ := Option.map_eq_some_iff.1 h
    cases h3
    obtain ⟨h4, h5⟩ := manyA_ok (own 0) _ _ [] _ (by omega) (fun v hv => by cases hv) l _ h2
    exact ⟨vlOk_list h4, by omega⟩
  rw [if_neg h15] at h
  by_cases h17 : f.k = 17
  ·rw [if_pos h17] at h
   unfold structV at h
   by_cases h1 : x - 16 < 0
   ·rw [if_pos h1] at h; cases h
   rw [if_neg h1] at h
   obtain ⟨⟨l, z⟩, h2, h3⟩ := Option.map_eq_some_iff.1 h
   cases h3
   obtain ⟨h4, h5⟩ := manyA_ok (fun k y hy => own k r y hy) _ _ [] _ (by omega) (fun v hv => by cases hv) l _ h2
   exact ⟨vlOk_list h4, by omega⟩
  rw [if_neg h17] at h
  by_cases h18 : f.k = 18
  ·rw [if_pos h18] at h
   unfold choiceV at h
   split at h
   ·cases h
   by_cases h1 : x - 16 < 0
   ·rw [if_pos h1] at h; cases h
   rw [if_neg h1] at h
   obtain ⟨⟨u, z⟩, h2, h3⟩ := Option.map_eq_some_iff.1 h
   cases h3
   obtain ⟨h4, h5⟩ := own _ _ _ (by omega) u _ h2
   exact ⟨vlOk_list (fun w hw => by simp at hw; rw [hw]; exact h4), by omega⟩
  rw [if_neg h18] at h
  by_cases h19 : f.k = 19
  ·rw [if_pos h19] at h
   unfold dictV at h
   split at h
   ·cases h
   ·exact own _ _ _ hx v y h
  rw [if_neg h19] at h
  by_cases h20 : f.k = 20
  ·rw [if_pos h20] at h
   unfold runsV at h
   split at h
   ·cases h
   ·exact own _ _ _ hx v y h
  rw [if_neg h20] at h
  have hkk := kind_of F
  have hk1 : f.k ≠ 1 := fun e => hn (by unfold nullB; rw [if_pos e])
  obtain ⟨-, hwd⟩ := flat_bufs F (by omega)
  unfold flatV at h
  by_cases h1 : x - 16 < 0
  ·rw [if_pos h1] at h; cases h
  rw [if_neg h1] at h
  by_cases h2 : f.k = 2
  ·rw [if_pos h2] at h
   cases h
   exact ⟨vlOk_flat (by show (0 : Nat) ≤ _; omega), by omega⟩
  rw [if_neg h2] at h
  by_cases h14 : f.k = 14
  ·have hw14 := hwd h14
   rw [if_pos h14] at h
   split at h
   ·cases h
   ·cases h
    have := textF_size (buf d 1) (r * f.wd.toNat) f.wd.toNat
    exact ⟨vlOk_flat (by omega), by omega⟩
  rw [if_neg h14] at h
  cases h
  exact ⟨vlOk_flat (by show (0 : Nat) ≤ _; omega), by omega⟩
theorem getA_ok {f : Fd} {d : Dt} (hw : (checkW f d).1 = 0) (r : Nat) : VlOk (getA f d r).1 := by
 unfold getA
 cases hg : getV f d r with
 | none => exact vlOk_flat (by show (0 : Nat) ≤ _; omega)
 | some p =>
  obtain ⟨v, y⟩ := p
  exact (readV_ok _ hw (Int.le_refl _) v y hg).1
abbrev DtsM (l : List Dt) : M := .many 6 (l.map dtR)
theorem column_calls {w : World} {d : Dt} {ds : List Value} (hd : DAt (fun _ => True) w d ds) {b : Nat} {n : Int} {bv : Value} (hb : BoxN w b 29 [.int .i64 n, bv]) :
  Calls Tryz.prog 60 #[.agg ds.toArray, .pointer (some ⟨b, 0, none⟩)] w (BackPost w (.bool (d.len != n))) := by
 obtain ⟨bp, bc, kp, kc, dp, dc, rfl, -⟩ := hd.shape
 have hlt := hb.lt
 have c0 := hb.row 0 _ rfl
 obtain ⟨W1, hW, a0, hBW⟩ := boxes1 w 75 [.int .i64 d.len, .int .i64 d.off, .int .i64 d.nul, .slice bp d.bufs.length bc, .slice kp d.kids.length kc, .slice dp d.dict.length dc]
 have HW := zh hW
 have HBW := zh hBW
 clear hd hb hW a0 hBW
 go_enter Tryz.func60, Tryz.ntmps60
 go_wp2_with fail
 go_ret
 exact ⟨rfl, by rw [← HW.o]; exact HBW.o⟩
def lenBad (l : List Dt) (n : Int) : Bool := l.any fun d => d.len != n
theorem lenBad_drop {l : List Dt} {n : Int} {k : Nat} (h : k < l.length) : lenBad (l.drop k) n = (l[k].len != n || lenBad (l.drop (k + 1)) n) := by
 unfold lenBad
 rw [List.drop_eq_getElem_cons h, List.any_cons]
theorem lenBad_end {l : List Dt} {n : Int} {k : Nat} (h : l.length ≤ k) : lenBad (l.drop k) n = false := by
 rw [List.drop_eq_nil_of_le h]; rfl
def columnFn (b : Nat) : Value := .func (.func 60) #[] #[.pointer (some ⟨b, 0, none⟩)]
def PlacePost (w : World) (t : Bool) (e : Ending) (w' : World) : Prop := ∃ x : Int, e = .returned (.int .i64 x) ∧ decide (0 ≤ x) = t ∧ Below w.heap.size w w'
set_option maxHeartbeats 4000000 in
theorem idxf_calls {w : World} {l : List Dt} {p : Option Addr} {c : Nat} (hl : M.At (fun _ => True) w (DtsM l) (.slice p l.length c)) {b : Nat} {n : Int} {bv : Value} (hb : BoxN w b 29 [.int .i64 n, bv]) :
  Calls Tryz.prog 64 #[.slice p l.length c, columnFn b] w (PlacePost w (lenBad l n)) := by
 obtain ⟨-, hl1, hl2⟩ := list_room hl
 simp only [List.length_map] at hl1
 unfold maxLen at hl2
 have HL := zh hl
 have HBX := zh hb
 obtain ⟨RES, hR⟩ : ∃ RES, lenBad l n = RES := ⟨_, rfl⟩
 have HR := zh hR
 rw [hR]
 unfold columnFn
 clear hl hb hR
 go_enter Tryz.func64, Tryz.ntmps64
 go_wp2_with fail
 go_loopw [8] (fun i wr => ∃ k : Nat, k ≤ l.length ∧ i = .int .i64 k ∧ Hid (Below w.heap.size w wr) ∧ Hid (RES = lenBad (l.drop k) n)) (fun i _ => l.length - (intOf i).toNat)
 case atStart => exact ⟨0, by omega, rfl, zh (Below.refl _ _), zh (by rw [List.drop_zero]; exact HR.o.symm)⟩
 case round =>
  obtain ⟨k, hk, rfl, HB, HK⟩ := hrel
  by_cases hlt : k < l.length
  ·obtain ⟨xb, xo, bp, bc, kp, kc, dp, dc, rfl, -, s0, s1, s2, s3, s4, s5, hx⟩ := kid_get HL.o k hlt
   have HX := zh hx
   have HN := zh (show RES = (l[k].len != n || lenBad (l.drop (k + 1)) n) by rw [HK.o]; exact lenBad_drop hlt)
   have r0 := cell_below HB.o s0
   have r1 := cell_below HB.o s1
   have r2 := cell_below HB.o s2
   have r3 := cell_below HB.o s3
   have r4 := cell_below HB.o s4
   have r5 := cell_below HB.o s5
   clear s0 s1 s2 s3 s4 s5 hx
   generalize l[k] = d at *
   have HC := zh (column_calls (HX.o.below HB.o) (HBX.o.below HB.o HBX.o.lt))
   go_wp2_with fail
   refine HC.o.mono ?_
   rintro e W2 ⟨rfl, hb2⟩
   have HB2 := zh (HB.o.trans (hb2.mono HB.o.size))
   clear hb2
   cases hsv : (d.len != n) with
   | true =>
    have HN2 := zh (show RES = true by rw [HN.o, hsv]; rfl)
    clear hsv
    go_wp2_with fail
    go_ret
    exact ⟨_, rfl, by rw [HN2.o]; simp, HB2.o⟩
   | false =>
    have HN2 := zh (show RES = lenBad (l.drop (k + 1)) n by rw [HN.o, hsv]; rfl)
    clear hsv
    go_wp2_with fail
    go_roundw
    case rel => exact ⟨k + 1, by omega, by go_num, HB2, HN2⟩
    case measure => simp [intOf]; omega
  ·have HN := zh (show RES = false by rw [HK.o]; exact lenBad_end (by omega))
   go_wp2_with fail
   go_ret
   exact ⟨_, rfl, by rw [HN.o]; decide, HB.o⟩
theorem conf_calls {w : World} {l : List Dt} {p : Option Addr} {c : Nat} (hl : M.At (fun _ => True) w (DtsM l) (.slice p l.length c)) {b : Nat} {n : Int} {bv : Value} (hb : BoxN w b 29 [.int .i64 n, bv]) :
  Calls Tryz.prog 59 #[.slice p l.length c, columnFn b] w (BackPost w (.bool (lenBad l n))) := by
 have HC := zh (idxf_calls hl hb)
 clear hl hb
 unfold columnFn at *
 go_enter Tryz.func59, Tryz.ntmps59
 go_wp2_with fail
 refine HC.o.mono ?_
 rintro e W2 ⟨x, rfl, hx, hb2⟩
 have HB2 := zh hb2
 have HX := zh hx
 clear hx hb2
 by_cases h : 0 ≤ x
 ·go_wp2_with fail
  go_ret
  exact ⟨by rw [← HX.o]; simp [h], HB2.o⟩
 ·go_wp2_with fail
  go_ret
  exact ⟨by rw [← HX.o]; simp [h], HB2.o⟩
structure ArrS (S : Nat → Prop) (w : World) (b : Nat) (f : Fd) (d : Dt) (fr n : Int) : Prop where
 ok : FdOk f
 at' : ∃ fp fc bp bc kp kc dp dc, BoxN w b 147 (arrL f fp fc d bp bc kp kc dp dc fr n) ∧ M.AtL S w (fdR f) [.string f.nm, .bool f.nl, .int .i64 f.k, .int .i64 f.wd, .int .i64 f.id, .int .i64 f.ix, .slice fp f.kids.length fc] ∧ DAt S w d [.int .i64 d.len, .int .i64 d.off, .int .i64 d.nul, .slice bp d.bufs.length bc, .slice kp d.kids.length kc, .slice dp d.dict.length dc]
theorem ArrS.arr {S : Nat → Prop} {w : World} {b : Nat} {f : Fd} {d : Dt} {fr n : Int} (h : ArrS S w b f d fr n) : ArrAt w w b f d fr n := by
 obtain ⟨fp, fc, bp, bc, kp, kc, dp, dc, h1, h2, h3⟩ := h.at'
 exact ⟨fp, fc, bp, bc, kp, kc, dp, dc, h1, FdAt.ofM h.ok h2, h3.mono fun _ _ => trivial⟩
theorem ArrS.lt {S : Nat → Prop} {w : World} {b : Nat} {f : Fd} {d : Dt} {fr n : Int} (h : ArrS S w b f d fr n) : b < w.heap.size := h.arr.lt
theorem ArrS.keep {S T : Nat → Prop} {w w' : World} {b : Nat} {f : Fd} {d : Dt} {fr n : Int} (h : ArrS S w b f d fr n) (hS : ∀ k, S k → k < w.heap.size → w'.heap[k]? = w.heap[k]? ∧ T k) (hb : w'.heap[b]? = w.heap[b]?) : ArrS T w' b f d fr n := by
 obtain ⟨fp, fc, bp, bc, kp, kc, dp, dc, h1, h2, h3⟩ := h.at'
 exact ⟨h.ok, fp, fc, bp, bc, kp, kc, dp, dc, hb.trans h1, M.AtL.keep (T := T) hS h2, M.AtL.keep (T := T) hS h3⟩
theorem ArrS.below {S : Nat → Prop} {w w' : World} {b : Nat} {f : Fd} {d : Dt} {fr n : Int} (h : ArrS S w b f d fr n) (hb : Below w.heap.size w w') : ArrS S w' b f d fr n :=
 h.keep (fun k hk hlt => ⟨hb.block k hlt, hk⟩) (hb.block b h.lt)
def OpenS (S : Nat → Prop) (w : World) (f : Fd) (d : Dt) (e : Ending) (w' : World) : Prop := Below w.heap.size w w' ∧
 ((openE f d ≠ 0 ∧ ∃ (pq : Option Addr) (pd pc : Nat) (a : Int), e = .returned (.tuple #[.pointer none, .agg #[.int .i64 (openE f d), .slice pq pd pc, .int .i64 a]])) ∨
  (openE f d = 0 ∧ ∃ b, e = .returned (.tuple #[.pointer (some ⟨b, 0, none⟩), .agg #[.int .i64 0, .slice none 0 0, .int .i64 0]]) ∧ w.heap.size ≤ b ∧ ArrS S w' b f d d.off d.len))
set_option maxHeartbeats 4000000 in
theorem opened_box (w : World) (f : Fd) (d : Dt) (fp : Option Addr) (fc : Nat) (bp : Option Addr) (bc : Nat) (kp : Option Addr) (kc : Nat) (dp : Option Addr) (dc : Nat) :
  Calls Tryz.prog 66 #[.agg #[.string f.nm, .bool f.nl, .int .i64 f.k, .int .i64 f.wd, .int .i64 f.id, .int .i64 f.ix, .slice fp f.kids.length fc], .agg #[.int .i64 d.len, .int .i64 d.off, .int .i64 d.nul, .slice bp d.bufs.length bc, .slice kp d.kids.length kc, .slice dp d.dict.length dc], .pointer none] w (fun e w' => ∃ b, e = .returned (.pointer (some ⟨b, 0, none⟩)) ∧ w.heap.size ≤ b ∧ BoxN w' b 147 (arrL f fp fc d bp bc kp kc dp dc d.off d.len) ∧ Below w.heap.size w w') := by
 obtain ⟨W, hW, a1, a2, hBW⟩ := boxes2 w 59 [.string f.nm, .bool f.nl, .int .i64 f.k, .int .i64 f.wd, .int .i64 f.id, .int .i64 f.ix, .slice fp f.kids.length fc] 75 [.int .i64 d.len, .int .i64 d.off, .int .i64 d.nul, .slice bp d.bufs.length bc, .slice kp d.kids.length kc, .slice dp d.dict.length dc]
 have hws : W.heap.size = w.heap.size + 1 + 1 := by rw [hW, World.size_alloc, World.size_alloc]
 have HWS := zh hws
 have HBW := zh hBW
 have HW := zh hW
 have hs0 : RowAt W.drew w.heap.size [.string f.nm, .bool f.nl, .int .i64 f.k, .int .i64 f.wd, .int .i64 f.id, .int .i64 f.ix, .slice fp f.kids.length fc] ∧ RowAt W.drew (w.heap.size + 1) [.int .i64 d.len, .int .i64 d.off, .int .i64 d.nul, .slice bp d.bufs.length bc, .slice kp d.kids.length kc, .slice dp d.dict.length dc] := ⟨a1.row, a2.row⟩
 have HS0 := zh hs0
 clear a1 a2 hBW hW hs0 hws
 obtain ⟨fam, hfam⟩ : ∃ fam, Value.iface fam (.agg #[]) = familyI f.k := ⟨_, rfl⟩
 have HFAM := zh hfam
 clear hfam
 go_enter Tryz.func66, Tryz.ntmps66
 go_wp2_with fail
 rw [← HW.o]
 clear HW
 refine Late.region (fun w' => RowAt w' w.heap.size [.string f.nm, .bool f.nl, .int .i64 f.k, .int .i64 f.wd, .int .i64 f.id, .int .i64 f.ix, .slice fp f.kids.length fc] ∧ RowAt w' (w.heap.size + 1) [.int .i64 d.len, .int .i64 d.off, .int .i64 d.nul, .slice bp d.bufs.length bc, .slice kp d.kids.length kc, .slice dp d.dict.length dc]) (fun _ => false) (by kernel_rfl) ?_
 refine Late.tk (i := 0) (v := ?_) rfl (by kernel_rfl) ⟨by rfl, ?_⟩ HS0.o ?_
 rotate_left
 ·intro w' hS
  have p0 := hS.1 0 _ rfl; have p1 := hS.1 1 _ rfl; have p2 := hS.1 2 _ rfl; have p3 := hS.1 3 _ rfl; have p4 := hS.1 4 _ rfl; have p5 := hS.1 5 _ rfl; have p6 := hS.1 6 _ rfl; clear hS
  go_simp
  rfl
 refine Late.tk (i := 1) (v := ?_) rfl (by kernel_rfl) ⟨by rfl, ?_⟩ HS0.o ?_
 rotate_left
 ·intro w' hS
  have r0 := hS.2 0 _ rfl; have r1 := hS.2 1 _ rfl; have r2 := hS.2 2 _ rfl; have r3 := hS.2 3 _ rfl; have r4 := hS.2 4 _ rfl; have r5 := hS.2 5 _ rfl; clear hS
  go_simp
  rfl
 refine Late.tk (i := 2) (v := ?_) rfl (by kernel_rfl) ⟨by rfl, ?_⟩ HS0.o ?_
 rotate_left
 ·intro w' hS
  clear hS
  go_simp
  rfl
 refine Late.tk (i := 3) (v := ?_) rfl (by kernel_rfl) ⟨by rfl, ?_⟩ HS0.o ?_
 rotate_left
 ·intro w' hS
  have r0 := hS.2 0 _ rfl; have r1 := hS.2 1 _ rfl; have r2 := hS.2 2 _ rfl; have r3 := hS.2 3 _ rfl; have r4 := hS.2 4 _ rfl; have r5 := hS.2 5 _ rfl; clear hS
  go_simp
  rfl
 refine Late.tk (i := 4) (v := ?_) rfl (by kernel_rfl) ⟨by rfl, ?_⟩ HS0.o ?_
 rotate_left
 ·intro w' hS
  clear hS
  go_simp
  rfl
 refine Late.tk (i := 5) (v := ?_) rfl (by kernel_rfl) ⟨by rfl, ?_⟩ HS0.o ?_
 rotate_left
 ·intro w' hS
  have r0 := hS.2 0 _ rfl; have r1 := hS.2 1 _ rfl; have r2 := hS.2 2 _ rfl; have r3 := hS.2 3 _ rfl; have r4 := hS.2 4 _ rfl; have r5 := hS.2 5 _ rfl; clear hS
  go_simp
  rfl
 refine Late.tk (i := 6) (v := ?_) rfl (by kernel_rfl) ⟨by rfl, ?_⟩ HS0.o ?_
 rotate_left
 ·intro w' hS
  clear hS
  go_simp
  rfl
 refine Late.tk (i := 7) (v := ?_) rfl (by kernel_rfl) ⟨by rfl, ?_⟩ HS0.o ?_
 rotate_left
 ·intro w' hS
  clear hS
  go_simp
  rfl
 refine Late.tk (i := 8) (v := ?_) rfl (by kernel_rfl) ⟨by rfl, ?_⟩ HS0.o ?_
 rotate_left
 ·intro w' hS
  clear hS
  go_simp
  rfl
 refine Late.tk (i := 9) (v := ?_) rfl (by kernel_rfl) ⟨by rfl, ?_⟩ HS0.o ?_
 rotate_left
 ·intro w' hS
  have p0 := hS.1 0 _ rfl; have p1 := hS.1 1 _ rfl; have p2 := hS.1 2 _ rfl; have p3 := hS.1 3 _ rfl; have p4 := hS.1 4 _ rfl; have p5 := hS.1 5 _ rfl; have p6 := hS.1 6 _ rfl; clear hS
  go_simp
  rfl
 refine Late.one (i := 10) (by kernel_rfl) rfl (fun K hK => ?_)
 go_simp
 refine (family_calls f.k _).mono ?_
 rintro e W2 ⟨rfl, rfl⟩
 rw [← HFAM.o]
 refine hK _ _ (fun _ => HS0.o) ?_
 clear hK K
 refine Late.one (i := 11) (by kernel_rfl) rfl (fun K hK => ?_)
 go_simp
 refine hK _ _ (fun _ => HS0.o) ?_
 clear hK K
 refine Late.one (i := 12) (by kernel_rfl) rfl (fun K hK => ?_)
 go_simp
 have hq := HS0.o
 refine hK _ _ (fun _ => ⟨hq.1.alloc _, hq.2.alloc _⟩) ?_
 clear hK K hq
 refine Late.one (i := 13) (by kernel_rfl) rfl (fun K hK => ?_)
 go_simp
 have hq := HS0.o
 refine hK _ _ (fun _ => ⟨hq.1.alloc _, hq.2.alloc _⟩) ?_
 clear hK K hq
 refine Late.done (by kernel_rfl) ?_ _
 go_wp2_with fail
 go_ret
 refine ⟨_, rfl, ?_, ?_, ?_⟩
 ·have := HWS.o; show w.heap.size ≤ W.heap.size; omega
 ·unfold arrL
  rw [← HFAM.o]
  exact BoxN.new W 147 _
 ·exact (below_drew HBW.o).alloc (show w.heap.size ≤ W.drew.heap.size by have := HWS.o; show w.heap.size ≤ W.heap.size; omega) _
set_option maxHeartbeats 4000000 in
theorem openS_calls {S : Nat → Prop} {w : World} (hSb : ∀ b, w.heap.size ≤ b → S b) {f : Fd} {d : Dt} {fs ds : List Value} (hf : FdAt w f fs) (hd : DAt S w d ds) (hS : SaysAt w) (hW' : SaysW w) (hT : Lib.Utf8Tabs 1 2 w) (hok : DtOk d) :
  Calls Tryz.prog 61 #[.agg fs.toArray, .agg ds.toArray] w (OpenS S w f d) := by
 have HSB := zh hSb
 clear hSb
 obtain ⟨fp, fc, rfl, -⟩ := hf.shape
 obtain ⟨bp, bc, kp, kc, dp, dc, rfl, -, -, -⟩ := hd.shape
 have HF := zh hf
 have HD := zh hd
 have HT := zh hT
 have HS := zh hS
 have HSW := zh hW'
 have HOK := zh hok
 clear hf hd hT hS hW' hok
 obtain ⟨W1, hW, x0, x1, x2, hBW⟩ := boxes3 w 59 [.string f.nm, .bool f.nl, .int .i64 f.k, .int .i64 f.wd, .int .i64 f.id, .int .i64 f.ix, .slice fp f.kids.length fc] 75 [.int .i64 d.len, .int .i64 d.off, .int .i64 d.nul, .slice bp d.bufs.length bc, .slice kp d.kids.length kc, .slice dp d.dict.length dc] 64 [.int .i64 0, .slice none 0 0, .int .i64 0]
 have hs1 : W1.heap.size = w.heap.size + 3 := by rw [hW, World.size_alloc, World.size_alloc, World.size_alloc]
 have X0 := zh x0
 have X1 := zh x1
 have X2 := zh x2
 have HB1 := zh hBW
 have HW := zh hW
 have HS1 := zh hs1
 have p0 := x0.row 0 _ rfl
 have p1 := x0.row 1 _ rfl
 have p2 := x0.row 2 _ rfl
 have p3 := x0.row 3 _ rfl
 have p4 := x0.row 4 _ rfl
 have p5 := x0.row 5 _ rfl
 have p6 := x0.row 6 _ rfl
 have r0 := x1.row 0 _ rfl
 have r1 := x1.row 1 _ rfl
 have r2 := x1.row 2 _ rfl
 have r3 := x1.row 3 _ rfl
 have r4 := x1.row 4 _ rfl
 have r5 := x1.row 5 _ rfl
 have hl1 := x0.lt
 have hl2 := x1.lt
 clear x0 x1 x2 hBW hW hs1
 go_enter Tryz.func61, Tryz.ntmps61
 go_wp2_with fail
 rw [← HW.o]
 clear HW
 refine (Check_calls (HF.o.below HB1.o) ((HD.o.mono fun _ _ => trivial).below HB1.o) (HS.o.below HB1.o) (HSW.o.below HB1.o) (Utf8Tabs_below HT.o HB1.o) HOK.o).mono ?_
 rintro e V2 ⟨d2, pv2, at2, rfl, hwv, hb⟩
 obtain ⟨pq2, pc2, rfl, -⟩ := hwv
 have HV2 := zh (HB1.o.trans (hb.mono HB1.o.size))
 have X0' := zh (X0.o.below hb X0.o.lt)
 have X1' := zh (X1.o.below hb X1.o.lt)
 have X2' := zh (X2.o.below hb X2.o.lt)
 have HSZ := zh hb.size
 clear hb p0 p1 p2 p3 p4 p5 p6 r0 r1 r2 r3 r4 r5 hl1 hl2
 obtain ⟨er, her⟩ : ∃ er, er = openE f d := ⟨_, rfl⟩
 rw [← her]
 have HER := zh her
 clear her
 by_cases hne : er ≠ 0
 ·have hnb : (er != 0) = true := by simpa using hne
  have HNE := zh hne
  clear hne
  go_wp2_with fail
  obtain ⟨V3, hV3⟩ : ∃ V3, V3 = V2.alloc (Obj.cells #[.int .i64 er, .slice pq2 d2 pc2, .int .i64 at2] 64) := ⟨_, rfl⟩
  have b3 : BoxN V3 V2.heap.size 64 [.int .i64 er, .slice pq2 d2 pc2, .int .i64 at2] := by rw [hV3]; exact BoxN.new V2 64 _
  have hb3 : Below V2.heap.size V2 V3 := by rw [hV3]; exact (Below.refl _ V2).alloc (Nat.le_refl _) _
  rw [← hV3]
  have X2d := zh (X2'.o.below hb3 X2'.o.lt)
  have HV3 := zh (HV2.o.trans (hb3.mono HV2.o.size))
  have hs0 : RowAt V3.drew V2.heap.size [.int .i64 er, .slice pq2 d2 pc2, .int .i64 at2] := b3.row
  have HS0 := zh hs0
  have hx2 : BoxN V3.drew (w.heap.size + 1 + 1) 64 [.int .i64 0, .slice none 0 0, .int .i64 0] := X2d.o
  have q0 := hx2.row 0 _ rfl
  have q1 := hx2.row 1 _ rfl
  have q2 := hx2.row 2 _ rfl
  have z0 := hx2.frozen 0
  have z1 := hx2.frozen 1
  have z2 := hx2.frozen 2
  have hl3 := hx2.lt
  have hne3 : w.heap.size + 1 + 1 < V2.heap.size := X2'.o.lt
  have HX2 := zh hx2
  clear hV3 b3 hb3 hs0 hx2 q0 q1 q2 z0 z1 z2 hl3
  obtain ⟨V3d, hV3d⟩ : ∃ V3d, V3d = V3.drew := ⟨_, rfl⟩
  have HV3d := zh (below_drew HV3.o)
  refine Late.region (fun w' => RowAt w' V2.heap.size [.int .i64 er, .slice pq2 d2 pc2, .int .i64 at2]) (fun _ => false) (by kernel_rfl) ?_
  rw [← hV3d] at HS0 HX2 HV3d ⊢
  clear hV3d
  have q0 := HX2.o.row 0 _ rfl
  have q1 := HX2.o.row 1 _ rfl
  have q2 := HX2.o.row 2 _ rfl
  have z0 := HX2.o.frozen 0
  have z1 := HX2.o.frozen 1
  have z2 := HX2.o.frozen 2
  have hl3 := HX2.o.lt
  refine Late.tk (i := 0) (v := ?_) rfl (by kernel_rfl) ⟨by rfl, ?_⟩ HS0.o ?_
  rotate_left
  ·intro w' hS
   have s0 := hS 0 _ rfl; have s1 := hS 1 _ rfl; have s2 := hS 2 _ rfl; clear hS
   go_simp
   rfl
  refine Late.tk (i := 1) (v := ?_) rfl (by kernel_rfl) ⟨by rfl, ?_⟩ HS0.o ?_
  rotate_left
  ·intro w' hS
   clear hS
   go_simp
   rfl
  refine Late.one (i := 2) (by kernel_rfl) rfl (fun K hK => ?_)
  go_simp
  have hq : RowAt (((V3d.setCell ⟨w.heap.size + 1 + 1, 0, none⟩ (.int .i64 er)).setCell ⟨w.heap.size + 1 + 1, 1, none⟩ (.slice pq2 d2 pc2)).setCell ⟨w.heap.size + 1 + 1, 2, none⟩ (.int .i64 at2)) V2.heap.size [.int .i64 er, .slice pq2 d2 pc2, .int .i64 at2] := row_other (row_other (row_other HS0.o (by omega) _ _) (by omega) _ _) (by omega) _ _
  refine hK _ _ (fun _ => hq) ?_
  clear hK K hq
  refine Late.done (by kernel_rfl) ?_ _
  go_wp2_with fail
  refine bodyPost_ret (open_res (i := 4) (j := 5) rfl rfl rfl (put3_box rfl HX2.o _ _ _).row) rfl ⟨put3_below HV3d.o (by omega) _ _ _, .inl ⟨by rw [← HER.o]; exact HNE.o, pq2, d2, pc2, at2, by rw [← HER.o]; rfl⟩⟩
 ·have h0 : er = 0 := by simpa using hne
  subst h0
  clear hne
  have hnb : ((0 : Int) != 0) = false := rfl
  have hOE := HER.o
  have hfE : fieldE f = 0 ∧ (checkW f d).1 = 0 := by
   unfold openE at hOE
   by_cases h1 : fieldE f ≠ 0
   ·rw [if_pos h1] at hOE; omega
   ·rw [if_neg h1] at hOE; exact ⟨by simpa using h1, hOE.symm⟩
  have HCF := zh (cf_calls (few_of_field hfE.1))
  have HCD := zh (copied_calls (few_of_well _ (Nat.le_refl _) hfE.2))
  clear hOE hfE
  go_wp2_with fail
  obtain ⟨V3, hV3⟩ : ∃ V3, V3 = V2.alloc (Obj.cells #[.int .i64 0, .slice pq2 d2 pc2, .int .i64 at2] 64) := ⟨_, rfl⟩
  have hb3 : Below V2.heap.size V2 V3 := by rw [hV3]; exact (Below.refl _ V2).alloc (Nat.le_refl _) _
  rw [← hV3]
  have X2d := zh (X2'.o.below hb3 X2'.o.lt)
  have HV3 := zh (below_drew (HV2.o.trans (hb3.mono HV2.o.size)))
  have hs0 : RowAt V3.drew w.heap.size [.string f.nm, .bool f.nl, .int .i64 f.k, .int .i64 f.wd, .int .i64 f.id, .int .i64 f.ix, .slice fp f.kids.length fc] ∧ RowAt V3.drew (w.heap.size + 1) [.int .i64 d.len, .int .i64 d.off, .int .i64 d.nul, .slice bp d.bufs.length bc, .slice kp d.kids.length kc, .slice dp d.dict.length dc] := ⟨(X0'.o.below hb3 X0'.o.lt).row, (X1'.o.below hb3 X1'.o.lt).row⟩
  have HS0 := zh hs0
  have hx2 : BoxN V3.drew (w.heap.size + 1 + 1) 64 [.int .i64 0, .slice none 0 0, .int .i64 0] := X2d.o
  have HX2 := zh hx2
  clear hV3 hb3 hs0 hx2
  obtain ⟨V3d, hV3d⟩ : ∃ V3d, V3d = V3.drew := ⟨_, rfl⟩
  refine Late.region (fun w' => RowAt w' w.heap.size [.string f.nm, .bool f.nl, .int .i64 f.k, .int .i64 f.wd, .int .i64 f.id, .int .i64 f.ix, .slice fp f.kids.length fc] ∧ RowAt w' (w.heap.size + 1) [.int .i64 d.len, .int .i64 d.off, .int .i64 d.nul, .slice bp d.bufs.length bc, .slice kp d.kids.length kc, .slice dp d.dict.length dc]) (fun _ => false) (by kernel_rfl) ?_
  rw [← hV3d] at HS0 HX2 HV3 ⊢
  clear hV3d
  refine Late.tk (i := 0) (v := ?_) rfl (by kernel_rfl) ⟨by rfl, ?_⟩ HS0.o ?_
  rotate_left
  ·intro w' hS
   have p0 := hS.1 0 _ rfl; have p1 := hS.1 1 _ rfl; have p2 := hS.1 2 _ rfl; have p3 := hS.1 3 _ rfl; have p4 := hS.1 4 _ rfl; have p5 := hS.1 5 _ rfl; have p6 := hS.1 6 _ rfl; clear hS
   go_simp
   rfl
  refine Late.tk (i := 2) (v := ?_) rfl (by kernel_rfl) ⟨by rfl, ?_⟩ HS0.o ?_
  rotate_left
  ·intro w' hS
   have r0 := hS.2 0 _ rfl; have r1 := hS.2 1 _ rfl; have r2 := hS.2 2 _ rfl; have r3 := hS.2 3 _ rfl; have r4 := hS.2 4 _ rfl; have r5 := hS.2 5 _ rfl; clear hS
   go_simp
   rfl
  refine Late.tk (i := 5) (v := ?_) rfl (by kernel_rfl) ⟨by rfl, ?_⟩ HS0.o ?_
  rotate_left
  ·intro w' hS
   clear hS
   go_simp
   rfl
  refine Late.one (i := 1) (by kernel_rfl) rfl (fun K hK => ?_)
  go_simp
  refine (HCF.o V3d _ (HF.o.below HV3.o).toM.2).mono ?_
  rintro e V4 ⟨p4, c4, rfl, hfd, hb4⟩
  have HF4 := zh hfd
  have HB4 := zh hb4
  have HS4 := zh (And.intro (HS0.o.1.below hb4) (HS0.o.2.below hb4))
  have X4 := zh (HX2.o.below hb4 HX2.o.lt)
  have HV4 := zh (HV3.o.trans (hb4.mono HV3.o.size))
  clear hfd hb4
  refine hK _ _ (fun _ => HS4.o) ?_
  clear hK K
  refine Late.one (i := 3) (by kernel_rfl) rfl (fun K hK => ?_)
  go_simp
  refine (HCD.o S V4 _ (fun b hb => HSB.o b (Nat.le_trans HV4.o.size hb)) (HD.o.below HV4.o)).mono ?_
  rintro e V5 ⟨bp5, bc5, kp5, kc5, dp5, dc5, rfl, hdd, hb5⟩
  have HD5 := zh hdd
  have HS5 := zh (And.intro (HS4.o.1.below hb5) (HS4.o.2.below hb5))
  have X5 := zh (X4.o.below hb5 X4.o.lt)
  have HV5 := zh (HV4.o.trans (hb5.mono HV4.o.size))
  have HF5 := zh (M.AtL.mono (T := S) (fun b hb => HSB.o b (Nat.le_trans HV3.o.size hb)) (M.AtL.below hb5 HF4.o))
  clear hdd hb5
  refine hK _ _ (fun _ => HS5.o) ?_
  clear hK K
  refine Late.one (i := 4) (by kernel_rfl) rfl (fun K hK => ?_)
  go_simp
  refine (opened_box V5 f d _ _ _ _ _ _ _ _).mono ?_
  rintro e V6 ⟨b6, rfl, hn6, hA6, hb6⟩
  have HA6 : Hid (ArrS S V6 b6 f d d.off d.len) := zh ⟨HF.o.toM.1, _, _, _, _, _, _, _, _, hA6, M.AtL.below hb6 HF5.o, HD5.o.below hb6⟩
  have HS6 := zh (And.intro (HS5.o.1.below hb6) (HS5.o.2.below hb6))
  have hx6 := X5.o.below hb6 X5.o.lt
  have q0 := hx6.row 0 _ rfl
  have q1 := hx6.row 1 _ rfl
  have q2 := hx6.row 2 _ rfl
  have z0 := hx6.frozen 0
  have z1 := hx6.frozen 1
  have z2 := hx6.frozen 2
  have hl3 := hx6.lt
  have HX6 := zh hx6
  have HV6 := zh (HV5.o.trans (hb6.mono HV5.o.size))
  have hz5 := HV5.o.size
  have hx5 := X5.o.lt
  have HN6 := zh hn6
  clear hA6 hb6 hx6
  refine hK _ _ (fun _ => HS6.o) ?_
  clear hK K
  refine Late.one (i := 6) (by kernel_rfl) rfl (fun K hK => ?_)
  go_simp
  refine hK _ _ (fun _ => HS6.o) ?_
  clear hK K
  refine Late.one (i := 7) (by kernel_rfl) rfl (fun K hK => ?_)
  go_simp
  have hne2 : w.heap.size ≠ w.heap.size + 1 + 1 := by omega
  have hne3 : w.heap.size + 1 ≠ w.heap.size + 1 + 1 := by omega
  have hq := And.intro (row_other (row_other (row_other HS6.o.1 hne2 0 (.int .i64 0)) hne2 1 (.slice none 0 0)) hne2 2 (.int .i64 0)) (row_other (row_other (row_other HS6.o.2 hne3 0 (.int .i64 0)) hne3 1 (.slice none 0 0)) hne3 2 (.int .i64 0))
  refine hK _ _ (fun _ => hq) ?_
  clear hK K hq
  refine Late.done (by kernel_rfl) ?_ _
  go_wp2_with fail
  refine bodyPost_ret (open_res (i := 4) (j := 5) rfl rfl rfl (put3_box rfl HX6.o _ _ _).row) rfl ⟨put3_below HV6.o (by omega) _ _ _, .inr ⟨HER.o.symm, b6, rfl, by have := HN6.o; omega, HA6.o.below (put3_same HX6.o)⟩⟩
theorem und52 : Tryz.prog.underlying 52 = some (.slice 112) := by kernel_rfl
theorem info112_parts : ∃ i z, Tryz.prog.info? 112 = some i ∧ i.zero = some z ∧ z.cells.size = 1 ∧ i.size = 1 ∧ i.bytes = 8 := ⟨_, _, rfl, rfl, rfl, rfl, rfl⟩
def ptrV (b : Nat) : Value := .pointer (some ⟨b, 0, none⟩)
def rowP (b : Nat) : List M := [.one (ptrV b)]
def cellP (b : Nat) : List Value := [ptrV b]
theorem rowP_at {S : Nat → Prop} {w : World} {bs : List Nat} (j : Nat) (h1 : j < (bs.map rowP).length) (h2 : j < (bs.map cellP).length) : M.AtL S w (bs.map rowP)[j] (bs.map cellP)[j] := by
 rw [List.getElem_map, List.getElem_map]
 exact M.AtL.cons M.At.one M.AtL.nil
structure ArrsAt (m0 base nb : Nat) (w : World) (L : List Fd) (l : List Dt) (q : Option Addr) (c k : Nat) (bs : List Nat) : Prop where
 len : bs.length = k
 g : M.Grow 112 1 w nb (.slice q k c) (bs.map rowP) (bs.map cellP)
 arrs : ∀ (j : Nat) (h : j < bs.length) (h1 : j < L.length) (h2 : j < l.length), nb ≤ bs[j] ∧ (Value.slice q k c).ownBlock ≠ some bs[j] ∧ ArrS (fun b => (b < m0 ∨ base ≤ b) ∧ (Value.slice q k c).ownBlock ≠ some b) w bs[j] L[j] l[j] l[j].off l[j].len
theorem ArrsAt.nil (m0 base nb : Nat) (w : World) (L : List Fd) (l : List Dt) : ArrsAt m0 base nb w L l none 0 0 [] := ⟨rfl, M.Grow.nil _ _ _ _, fun j h => absurd h (Nat.not_lt_zero _)⟩
theorem ArrsAt.below {m0 base nb : Nat} {w w' : World} {L : List Fd} {l : List Dt} {q : Option Addr} {c k : Nat} {bs : List Nat} (h : ArrsAt m0 base nb w L l q c k bs) (hb : Below w.heap.size w w') : ArrsAt m0 base nb w' L l q c k bs :=
 ⟨h.len, h.g.below hb, fun j h0 h1 h2 => ⟨(h.arrs j h0 h1 h2).1, (h.arrs j h0 h1 h2).2.1, (h.arrs j h0 h1 h2).2.2.below hb⟩⟩
theorem ArrsAt.kept {m0 base nb : Nat} {w w' : World} {sb : Nat} {L : List Fd} {l : List Dt} {q : Option Addr} {c k : Nat} {bs : List Nat} (h : ArrsAt m0 base nb w L l q c k bs) (hg : w.grownBy w' (some sb)) (h1 : m0 ≤ sb) (h2 : sb < base) (h3 : base ≤ nb) : ArrsAt m0 base nb w' L l q c k bs := by
 refine ⟨h.len, h.g.kept hg ?_ (fun j h4 h5 => rowP_at j h4 h5), fun j h4 h5 h6 => ?_⟩
 ·rcases hv : (Value.slice q k c).ownBlock with _ | g
  ·exact .inl rfl
  ·right
   have := (h.g.own.lt g hv).1
   intro e
   cases e
   omega
 ·obtain ⟨g1, g2, g3⟩ := h.arrs j h4 h5 h6
  refine ⟨g1, g2, g3.keep (fun x hx hlt => ⟨hg.block x hlt (fun e => ?_), hx⟩) (hg.block _ g3.lt (fun e => ?_))⟩
  ·cases e; have := hx.1; omega
  ·injection e with e; omega
theorem grown_of {w w' : World} (h : Below w.heap.size w w') (row : Option Nat) : w.grownBy w' row := ⟨h.os, h.tape, h.output, h.size, fun k hk _ => h.block k hk⟩
theorem grown_set {w : World} {sb i : Nat} (v : Value) : w.grownBy (w.setCell ⟨sb, i, none⟩ v) (some sb) := ⟨rfl, rfl, rfl, by rw [World.size_setCell]; exact Nat.le_refl _, fun k hk hn => Below.heap_setCell _ _ _ k (fun e => hn (by rw [e]))⟩
theorem ArrsAt.owns {m0 base nb : Nat} {w : World} {L : List Fd} {l : List Dt} {q : Option Addr} {c k : Nat} {bs : List Nat} (h : ArrsAt m0 base nb w L l q c k bs) : w.ownsRow nb 112 1 (.slice q k c) k ((bs.map cellP).flatMap id) := by
 have := h.g.own
 rwa [List.length_map, h.len] at this
theorem ArrsAt.push {m0 base nb : Nat} {w W1 : World} {L : List Fd} {l : List Dt} {q : Option Addr} {c k : Nat} {bs : List Nat} (h : ArrsAt m0 base nb w L l q c k bs) {b : Nat} (hb : nb ≤ b) (hbn : base ≤ nb) (hne : (Value.slice q k c).ownBlock ≠ some b)
  (hA : ∀ (h1 : k < L.length) (h2 : k < l.length), ArrS (fun x => (x < m0 ∨ base ≤ x) ∧ (Value.slice q k c).ownBlock ≠ some x) w b L[k] l[k] l[k].off l[k].len) (hblt : b < w.heap.size)
  {gg cap1 : Nat} (hown : W1.ownsRow nb 112 1 (.slice (some ⟨gg, 0, none⟩) (k + 1) cap1) (k + 1) ((bs.map cellP).flatMap id ++ [ptrV b])) (hgrow : w.grownBy W1 (Value.slice q k c).ownBlock) (hat : (Value.slice q k c).ownBlock = some gg ∨ gg = w.heap.size) :
  ArrsAt m0 base nb W1 L l (some ⟨gg, 0, none⟩) cap1 (k + 1) (bs ++ [b]) := by
 have hgg : ∀ x, x < w.heap.size → (Value.slice q k c).ownBlock ≠ some x → x ≠ gg := by
  intro x hx hn e
  rcases hat with h | h
  ·exact hn (by rw [h, e])
  ·omega
 have keep : ∀ {x : Nat} {f : Fd} {d : Dt} {fr n : Int}, (Value.slice q k c).ownBlock ≠ some x → x < w.heap.size → ArrS (fun x => (x < m0 ∨ base ≤ x) ∧ (Value.slice q k c).ownBlock ≠ some x) w x f d fr n → ArrS (fun x => (x < m0 ∨ base ≤ x) ∧ (Value.slice (some ⟨gg, 0, none⟩) (k + 1) cap1).ownBlock ≠ some x) W1 x f d fr n := fun hn hlt hA =>
  hA.keep (fun y hy hyl => ⟨hgrow.block y hyl (fun e => hy.2 e.symm), hy.1, fun e => hgg y hyl hy.2 (by simp [Value.ownBlock] at e; exact e.symm)⟩) (hgrow.block _ hlt (fun e => hn e.symm))
 refine ⟨by simp [h.len], ?_, fun j h0 h1 h2 => ?_⟩
 ·have := h.g.push (r := rowP b) (cs := cellP b) (M.AtL.cons M.At.one M.AtL.nil) rfl (by rw [List.length_map, h.len]) hown hgrow hat
  simpa using this
 ·by_cases hj : j < bs.length
  ·obtain ⟨g1, g2, g3⟩ := h.arrs j hj h1 h2
   rw [List.getElem_append_left hj]
   refine ⟨g1, fun e => hgg _ g3.lt g2 (by simp [Value.ownBlock] at e; exact e.symm), keep g2 g3.lt g3⟩
  ·have e : j = k := by have := h.len; simp at h0; omega
   subst e
   have hl := h.len
   rw [List.getElem_append_right (by omega)]
   simp only [hl, Nat.sub_self, List.getElem_cons_zero]
   exact ⟨hb, fun e => hgg _ hblt hne (by simp [Value.ownBlock] at e; exact e.symm), keep hne hblt (hA h1 h2)⟩
theorem ArrsAt.get {m0 base nb : Nat} {w : World} {L : List Fd} {l : List Dt} {q : Option Addr} {c k : Nat} {bs : List Nat} (h : ArrsAt m0 base nb w L l q c k bs) (j : Nat) (hj : j < k) (h1 : j < L.length) (h2 : j < l.length) :
  ∃ b o x, q = some ⟨b, o, none⟩ ∧ w.cell? ⟨b, o + j, none⟩ = some (.pointer (some ⟨x, 0, none⟩)) ∧ ArrAt w w x L[j] l[j] l[j].off l[j].len := by
 have hlen := h.len
 subst hlen
 have hat : M.At (fun _ => True) w (.many 1 (bs.map rowP)) (.slice q bs.length c) := grow_list (S := fun _ => True) (by decide) h.g (fun j h1 h2 => rowP_at j h1 h2) (fun _ _ => trivial) (fun _ _ => trivial)
 obtain ⟨b, o, cs, rfl, -, hl, hc, hr⟩ := M.At.get hat j (by simpa using hj)
 rw [List.getElem_map] at hr
 obtain ⟨_, rfl, h9⟩ := M.AtL.one hr
 cases M.AtL.end h9
 exact ⟨b, o, bs[j], rfl, by have := hc 0 _ rfl; simpa [ptrV] using this, (h.arrs j hj h1 h2).2.2.arr⟩
def firstO : List Fd → List Dt → Int
 | f :: L, d :: l => if openE f d ≠ 0 then openE f d else firstO L l
 | _, _ => 0
theorem firstO_drop {L : List Fd} {l : List Dt} {k : Nat} (h1 : k < L.length) (h2 : k < l.length) : firstO (L.drop k) (l.drop k) = if openE L[k] l[k] ≠ 0 then openE L[k] l[k] else firstO (L.drop (k + 1)) (l.drop (k + 1)) := by
 rw [List.drop_eq_getElem_cons h1, List.drop_eq_getElem_cons h2, firstO]
theorem firstO_end {L : List Fd} {l : List Dt} {k : Nat} (h : l.length ≤ k) : firstO (L.drop k) (l.drop k) = 0 := by
 rw [List.drop_eq_nil_of_le h]
 unfold firstO
 split
 ·rename_i h0; cases h0
 ·rfl
theorem firstO_zero : ∀ {L : List Fd} {l : List Dt}, firstO L l = 0 → ∀ (j : Nat) (h1 : j < L.length) (h2 : j < l.length), openE L[j] l[j] = 0
 | f :: L, d :: l, h, j, h1, h2 => by
  unfold firstO at h
  by_cases h0 : openE f d ≠ 0
  ·rw [if_pos h0] at h; exact absurd h h0
  ·rw [if_neg h0] at h
   cases j with
   | zero => simpa using h0
   | succ j => exact firstO_zero h j (by simpa using h1) (by simpa using h2)
 | [], _, _, j, h1, _ => absurd h1 (Nat.not_lt_zero _)
 | _ :: _, [], _, j, _, h2 => absurd h2 (Nat.not_lt_zero _)
def sideE (L : List Fd) (l : List Dt) (n : Int) : Int := if n < 0 ∨ 4096 < n ∨ ¬ l.length = L.length then 110 else if lenBad l n = true then 110 else firstO L l
structure SideAt (m0 base : Nat) (w : World) (sb : Nat) (L : List Fd) (l : List Dt) (fv nv kv : Value) (n : Int) : Prop where
 at' : ∃ nb q c bs, base ≤ nb ∧ BoxN w sb 54 [fv, nv, kv, .slice q l.length c, .int .i64 n] ∧ ArrsAt m0 base nb w L l q c l.length bs
theorem SideAt.below {m0 base : Nat} {w w' : World} {sb : Nat} {L : List Fd} {l : List Dt} {fv nv kv : Value} {n : Int} (h : SideAt m0 base w sb L l fv nv kv n) (hb : Below w.heap.size w w') : SideAt m0 base w' sb L l fv nv kv n := by
 obtain ⟨nb, q, c, bs, h1, h2, h3⟩ := h.at'
 exact ⟨nb, q, c, bs, h1, h2.below hb h2.lt, h3.below hb⟩
theorem SideAt.kept {m0 base : Nat} {w w' : World} {sb tb : Nat} {L : List Fd} {l : List Dt} {fv nv kv : Value} {n : Int} (h : SideAt m0 base w sb L l fv nv kv n) (hg : w.grownBy w' (some tb)) (hne : sb ≠ tb) (h1 : m0 ≤ tb) (h2 : tb < base) : SideAt m0 base w' sb L l fv nv kv n := by
 obtain ⟨nb, q, c, bs, h3, h4, h5⟩ := h.at'
 exact ⟨nb, q, c, bs, h3, h4.kept hg (fun e => hne (by injection e)), h5.kept hg h1 h2 h3⟩
def SopenPost (m0 base : Nat) (w : World) (sb : Nat) (L : List Fd) (l : List Dt) (fv nv kv : Value) (n : Int) (e : Ending) (w' : World) : Prop := w.grownBy w' (some sb) ∧
 ((sideE L l n ≠ 0 ∧ e = .returned (.int .i64 (sideE L l n))) ∨ (sideE L l n = 0 ∧ e = .returned (.int .i64 0) ∧ SideAt m0 base w' sb L l fv nv kv n))
end Go.Fld
