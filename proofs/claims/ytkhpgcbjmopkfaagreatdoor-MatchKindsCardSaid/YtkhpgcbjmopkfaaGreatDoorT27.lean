import Derived.Test.YtkhpgcbjmopkfaaGreatDoorT00
import Derived.Test.YtkhpgcbjmopkfaaGreatDoorT26
set_option linter.unusedVariables false
set_option linter.unusedSimpArgs false
set_option linter.unnecessarySimpa false
set_option maxRecDepth 100000
namespace Go.Fld
open Go Go.RowKit Go.Proofs Go.ChangeShapes Go.WideShapes Go.ChangeAt Go.Shelf Go.Fld.Late
theorem grown_base {w0 w w' : World} {sb : Nat} (hb : Below w0.heap.size w0 w) (hg : w.grownBy w' (some sb)) (hl : w0.heap.size ≤ sb) : Below w0.heap.size w0 w' :=
 ⟨hg.os.trans hb.os, hg.tape.trans hb.tape, hg.output.trans hb.output, Nat.le_trans hb.size hg.size, fun i hi => (hg.block i (Nat.lt_of_lt_of_le hi hb.size) (fun e => by cases e; omega)).trans (hb.block i hi)⟩
theorem grown_trans {w w' w'' : World} {row : Option Nat} (h : w.grownBy w' row) (h' : w'.grownBy w'' row) : w.grownBy w'' row :=
 ⟨h'.os.trans h.os, h'.tape.trans h.tape, h'.output.trans h.output, Nat.le_trans h.size h'.size, fun i hi hn => (h'.block i (Nat.lt_of_lt_of_le hi h.size) hn).trans (h.block i hi hn)⟩
theorem grown_below {w w' w'' : World} {row : Option Nat} (h : w.grownBy w' row) (h' : Below w'.heap.size w' w'') : w.grownBy w'' row := grown_trans h (grown_of h' row)
theorem OpenS.one {S : Nat → Prop} {w w' : World} {f : Fd} {d : Dt} {e : Ending} (h : OpenS S w f d e w') : Below w.heap.size w w' ∧ ∃ (pp pq : Option Addr) (pd pc : Nat) (a : Int), e = .returned (.tuple #[.pointer pp, .agg #[.int .i64 (openE f d), .slice pq pd pc, .int .i64 a]]) ∧
  (openE f d ≠ 0 ∨ (openE f d = 0 ∧ ∃ b, pp = some ⟨b, 0, none⟩ ∧ w.heap.size ≤ b ∧ ArrS S w' b f d d.off d.len)) := by
 refine ⟨h.1, ?_⟩
 rcases h.2 with ⟨h1, pq, pd, pc, a, rfl⟩ | ⟨h1, b, rfl, h2, h3⟩
 ·exact ⟨none, pq, pd, pc, a, rfl, .inl h1⟩
 ·exact ⟨some ⟨b, 0, none⟩, none, 0, 0, 0, by rw [h1], .inr ⟨h1, b, rfl, h2, h3⟩⟩
theorem grown_belowN {w w' w'' : World} {row : Option Nat} (h : w.grownBy w' row) (h' : Below w.heap.size w' w'') : w.grownBy w'' row :=
 ⟨h'.os.trans h.os, h'.tape.trans h.tape, h'.output.trans h.output, Nat.le_trans h.size h'.size, fun i hi hn => (h'.block i hi).trans (h.block i hi hn)⟩
theorem open1_bad {L : List Fd} {l : List Dt} {n : Int} (h : n < 0 ∨ 4096 < n ∨ ¬ l.length = L.length) : sideE L l n = 110 := if_pos h
set_option maxHeartbeats 16000000 in
theorem sopen_calls {w0 w : World} {base sb : Nat} {L : List Fd} {l : List Dt} {fv nv kv : Value} {n : Int} {p : Option Addr} {c : Nat} (hb0 : Below w0.heap.size w0 w) (hm0 : w0.heap.size ≤ sb) (hsb : sb < base) (hbw : base ≤ w.heap.size)
  (hbx : BoxN w sb 54 [fv, nv, kv, .slice none 0 0, .int .i64 0]) (hL : FdsAt w0 L fv) (hl : M.At (fun _ => True) w0 (DtsM l) (.slice p l.length c)) (hS : SaysAt w0) (hW' : SaysW w0) (hT : Lib.Utf8Tabs 1 2 w0) (hok : ∀ d ∈ l, DtOk d) (hn : i64B n) (hmany : L.length ≤ 1000000000000) :
  Calls Tryz.prog 53 #[.pointer (some ⟨sb, 0, none⟩), .agg #[.int .i64 n, .slice p l.length c]] w (SopenPost w0.heap.size base w sb L l fv nv kv n) := by
 have hmf : ∀ (fn : Fn) (first cap : Array Value) (w : World), (Instr.makeFunc fn first cap).run Tryz.prog w = .ok (.func fn first cap) w := fun _ _ _ _ => rfl
 obtain ⟨i1, z1, hi1, hz1, hzc1, hsz1, hby1⟩ := info112_parts
 obtain ⟨fp, fc, rfl, hlf, hmf1, hCF⟩ := hL
 unfold maxLen at hmf1
 obtain ⟨-, hl1, hl2⟩ := list_room hl
 simp only [List.length_map] at hl1
 unfold maxLen at hl2
 obtain ⟨W1, hW, a0, hBW⟩ := boxes1 w 29 [.int .i64 n, .slice p l.length c]
 have HW := zh hW
 have A0 : Hid (BoxN W1.drew w.heap.size 29 [.int .i64 n, .slice p l.length c]) := zh a0
 have HBX : Hid (BoxN W1.drew sb 54 [.slice fp L.length fc, nv, kv, .slice none 0 0, .int .i64 0]) := zh (hbx.below (below_drew hBW) hbx.lt)
 have HB1 : Hid (Below w.heap.size w W1.drew) := zh (below_drew hBW)
 have HB0 := zh hb0
 have HS0 : Hid (RowAt W1.drew w.heap.size [.int .i64 n, .slice p l.length c] ∧ RowAt W1.drew sb [.slice fp L.length fc, nv, kv, .slice none 0 0, .int .i64 0]) := zh ⟨A0.o.row, HBX.o.row⟩
 have HL := zh hCF
 have HD := zh hl
 have HSA := zh hS
 have HSW := zh hW'
 have HT := zh hT
 have HOK := zh hok
 have HN := zh hn
 unfold i64B at hn
 obtain ⟨m0, hm⟩ : ∃ m0, m0 = w0.heap.size := ⟨_, rfl⟩
 have HM := zh hm
 rw [← hm] at hm0 ⊢
 clear hm hb0 hbx hCF hl hS hW' hT hok hW a0 hBW
 go_enter Tryz.func53, Tryz.ntmps53
 go_wp2_with fail
 rw [← HW.o]
 clear HW
 by_cases hn0 : n < 0
 ·have HE := zh (open1_bad (L := L) (l := l) (.inl hn0))
  refine Late.region (fun w' => RowAt w' w.heap.size [.int .i64 n, .slice p l.length c] ∧ RowAt w' sb [.slice fp L.length fc, nv, kv, .slice none 0 0, .int .i64 0]) (fun _ => false) (by kernel_rfl) ?_
  refine Late.tk (i := 0) (v := ?_) rfl (by kernel_rfl) ⟨by kernel_rfl, ?_⟩ HS0.o ?_
  rotate_left
  ·intro w' hS
   clear hS
   go_simp
   rfl
  refine Late.tk (i := 1) (v := ?_) rfl (by kernel_rfl) ⟨by kernel_rfl, ?_⟩ HS0.o ?_
  rotate_left
  ·intro w' hS
   have p0 := hS.1 0 _ rfl; have p1 := hS.1 1 _ rfl; have q0 := hS.2 0 _ rfl; have q1 := hS.2 1 _ rfl; have q2 := hS.2 2 _ rfl; clear hS
   go_simp
   rfl
  refine Late.tk (i := 2) (v := ?_) rfl (by kernel_rfl) ⟨by kernel_rfl, ?_⟩ HS0.o ?_
  rotate_left
  ·intro w' hS
   clear hS
   go_simp
   rfl
  refine Late.tk (i := 3) (v := ?_) rfl (by kernel_rfl) ⟨by kernel_rfl, ?_⟩ HS0.o ?_
  rotate_left
  ·intro w' hS
   clear hS
   go_simp
   rfl
  refine Late.take (i := 4) (v := undef) rfl (by kernel_rfl) (by kernel_rfl) (by kernel_rfl) (by kernel_rfl) (fun _ _ _ h => h) (Or.inr ⟨by kernel_rfl, rfl⟩) HS0.o ?_
  refine Late.take (i := 5) (v := undef) rfl (by kernel_rfl) (by kernel_rfl) (by kernel_rfl) (by kernel_rfl) (fun _ _ _ h => h) (Or.inr ⟨by kernel_rfl, rfl⟩) HS0.o ?_
  refine Late.take (i := 6) (v := undef) rfl (by kernel_rfl) (by kernel_rfl) (by kernel_rfl) (by kernel_rfl) (fun _ _ _ h => h) (Or.inr ⟨by kernel_rfl, rfl⟩) HS0.o ?_
  refine Late.tk (i := 7) (v := ?_) rfl (by kernel_rfl) ⟨by kernel_rfl, ?_⟩ HS0.o ?_
  rotate_left
  ·intro w' hS
   clear hS
   go_simp
   rfl
  refine Late.tk (i := 8) (v := ?_) rfl (by kernel_rfl) ⟨by kernel_rfl, ?_⟩ HS0.o ?_
  rotate_left
  ·intro w' hS
   clear hS
   go_simp
   rfl
  refine Late.take (i := 9) (v := undef) rfl (by kernel_rfl) (by kernel_rfl) (by kernel_rfl) (by kernel_rfl) (fun _ _ _ h => h) (Or.inr ⟨by kernel_rfl, rfl⟩) HS0.o ?_
  refine Late.take (i := 10) (v := undef) rfl (by kernel_rfl) (by kernel_rfl) (by kernel_rfl) (by kernel_rfl) (fun _ _ _ h => h) (Or.inr ⟨by kernel_rfl, rfl⟩) HS0.o ?_
  refine Late.take (i := 11) (v := undef) rfl (by kernel_rfl) (by kernel_rfl) (by kernel_rfl) (by kernel_rfl) (fun _ _ _ h => h) (Or.inr ⟨by kernel_rfl, rfl⟩) HS0.o ?_
  refine Late.take (i := 12) (v := undef) rfl (by kernel_rfl) (by kernel_rfl) (by kernel_rfl) (by kernel_rfl) (fun _ _ _ h => h) (Or.inr ⟨by kernel_rfl, rfl⟩) HS0.o ?_
  refine Late.take (i := 13) (v := undef) rfl (by kernel_rfl) (by kernel_rfl) (by kernel_rfl) (by kernel_rfl) (fun _ _ _ h => h) (Or.inr ⟨by kernel_rfl, rfl⟩) HS0.o ?_
  refine Late.take (i := 14) (v := undef) rfl (by kernel_rfl) (by kernel_rfl) (by kernel_rfl) (by kernel_rfl) (fun _ _ _ h => h) (Or.inr ⟨by kernel_rfl, rfl⟩) HS0.o ?_
  refine Late.take (i := 15) (v := undef) rfl (by kernel_rfl) (by kernel_rfl) (by kernel_rfl) (by kernel_rfl) (fun _ _ _ h => h) (Or.inr ⟨by kernel_rfl, rfl⟩) HS0.o ?_
  refine Late.take (i := 16) (v := undef) rfl (by kernel_rfl) (by kernel_rfl) (by kernel_rfl) (by kernel_rfl) (fun _ _ _ h => h) (Or.inr ⟨by kernel_rfl, rfl⟩) HS0.o ?_
  refine Late.take (i := 17) (v := undef) rfl (by kernel_rfl) (by kernel_rfl) (by kernel_rfl) (by kernel_rfl) (fun _ _ _ h => h) (Or.inr ⟨by kernel_rfl, rfl⟩) HS0.o ?_
  refine Late.take (i := 18) (v := undef) rfl (by kernel_rfl) (by kernel_rfl) (by kernel_rfl) (by kernel_rfl) (fun _ _ _ h => h) (Or.inr ⟨by kernel_rfl, rfl⟩) HS0.o ?_
  refine Late.tk (i := 19) (v := ?_) rfl (by kernel_rfl) ⟨by kernel_rfl, ?_⟩ HS0.o ?_
  rotate_left
  ·intro w' hS
   clear hS
   go_simp
   rfl
  refine Late.done (by kernel_rfl) ?_ _
  go_simp
  go_wp2_with fail
  go_ret
  exact ⟨grown_of HB1.o _, .inl ⟨by rw [HE.o]; decide, by rw [HE.o]; rfl⟩⟩
 by_cases hn1 : 4096 < n
 ·have HE := zh (open1_bad (L := L) (l := l) (.inr (.inl hn1)))
  refine Late.region (fun w' => RowAt w' w.heap.size [.int .i64 n, .slice p l.length c] ∧ RowAt w' sb [.slice fp L.length fc, nv, kv, .slice none 0 0, .int .i64 0]) (fun _ => false) (by kernel_rfl) ?_
  refine Late.tk (i := 0) (v := ?_) rfl (by kernel_rfl) ⟨by kernel_rfl, ?_⟩ HS0.o ?_
  rotate_left
  ·intro w' hS
   clear hS
   go_simp
   rfl
  refine Late.tk (i := 1) (v := ?_) rfl (by kernel_rfl) ⟨by kernel_rfl, ?_⟩ HS0.o ?_
  rotate_left
  ·intro w' hS
   have p0 := hS.1 0 _ rfl; have p1 := hS.1 1 _ rfl; have q0 := hS.2 0 _ rfl; have q1 := hS.2 1 _ rfl; have q2 := hS.2 2 _ rfl; clear hS
   go_simp
   rfl
  refine Late.tk (i := 2) (v := ?_) rfl (by kernel_rfl) ⟨by kernel_rfl, ?_⟩ HS0.o ?_
  rotate_left
  ·intro w' hS
   clear hS
   go_simp
   rfl
  refine Late.tk (i := 3) (v := ?_) rfl (by kernel_rfl) ⟨by kernel_rfl, ?_⟩ HS0.o ?_
  rotate_left
  ·intro w' hS
   clear hS
   go_simp
   rfl
  refine Late.tk (i := 4) (v := ?_) rfl (by kernel_rfl) ⟨by kernel_rfl, ?_⟩ HS0.o ?_
  rotate_left
  ·intro w' hS
   clear hS
   go_simp
   rfl
  refine Late.tk (i := 5) (v := ?_) rfl (by kernel_rfl) ⟨by kernel_rfl, ?_⟩ HS0.o ?_
  rotate_left
  ·intro w' hS
   have p0 := hS.1 0 _ rfl; have p1 := hS.1 1 _ rfl; have q0 := hS.2 0 _ rfl; have q1 := hS.2 1 _ rfl; have q2 := hS.2 2 _ rfl; clear hS
   go_simp
   rfl
  refine Late.tk (i := 6) (v := ?_) rfl (by kernel_rfl) ⟨by kernel_rfl, ?_⟩ HS0.o ?_
  rotate_left
  ·intro w' hS
   clear hS
   go_simp
   rfl
  refine Late.tk (i := 7) (v := ?_) rfl (by kernel_rfl) ⟨by kernel_rfl, ?_⟩ HS0.o ?_
  rotate_left
  ·intro w' hS
   clear hS
   go_simp
   rfl
  refine Late.tk (i := 8) (v := ?_) rfl (by kernel_rfl) ⟨by kernel_rfl, ?_⟩ HS0.o ?_
  rotate_left
  ·intro w' hS
   clear hS
   go_simp
   rfl
  refine Late.take (i := 9) (v := undef) rfl (by kernel_rfl) (by kernel_rfl) (by kernel_rfl) (by kernel_rfl) (fun _ _ _ h => h) (Or.inr ⟨by kernel_rfl, rfl⟩) HS0.o ?_
  refine Late.take (i := 10) (v := undef) rfl (by kernel_rfl) (by kernel_rfl) (by kernel_rfl) (by kernel_rfl) (fun _ _ _ h => h) (Or.inr ⟨by kernel_rfl, rfl⟩) HS0.o ?_
  refine Late.take (i := 11) (v := undef) rfl (by kernel_rfl) (by kernel_rfl) (by kernel_rfl) (by kernel_rfl) (fun _ _ _ h => h) (Or.inr ⟨by kernel_rfl, rfl⟩) HS0.o ?_
  refine Late.take (i := 12) (v := undef) rfl (by kernel_rfl) (by kernel_rfl) (by kernel_rfl) (by kernel_rfl) (fun _ _ _ h => h) (Or.inr ⟨by kernel_rfl, rfl⟩) HS0.o ?_
  refine Late.take (i := 13) (v := undef) rfl (by kernel_rfl) (by kernel_rfl) (by kernel_rfl) (by kernel_rfl) (fun _ _ _ h => h) (Or.inr ⟨by kernel_rfl, rfl⟩) HS0.o ?_
  refine Late.take (i := 14) (v := undef) rfl (by kernel_rfl) (by kernel_rfl) (by kernel_rfl) (by kernel_rfl) (fun _ _ _ h => h) (Or.inr ⟨by kernel_rfl, rfl⟩) HS0.o ?_
  refine Late.take (i := 15) (v := undef) rfl (by kernel_rfl) (by kernel_rfl) (by kernel_rfl) (by kernel_rfl) (fun _ _ _ h => h) (Or.inr ⟨by kernel_rfl, rfl⟩) HS0.o ?_
  refine Late.take (i := 16) (v := undef) rfl (by kernel_rfl) (by kernel_rfl) (by kernel_rfl) (by kernel_rfl) (fun _ _ _ h => h) (Or.inr ⟨by kernel_rfl, rfl⟩) HS0.o ?_
  refine Late.take (i := 17) (v := undef) rfl (by kernel_rfl) (by kernel_rfl) (by kernel_rfl) (by kernel_rfl) (fun _ _ _ h => h) (Or.inr ⟨by kernel_rfl, rfl⟩) HS0.o ?_
  refine Late.take (i := 18) (v := undef) rfl (by kernel_rfl) (by kernel_rfl) (by kernel_rfl) (by kernel_rfl) (fun _ _ _ h => h) (Or.inr ⟨by kernel_rfl, rfl⟩) HS0.o ?_
  refine Late.tk (i := 19) (v := ?_) rfl (by kernel_rfl) ⟨by kernel_rfl, ?_⟩ HS0.o ?_
  rotate_left
  ·intro w' hS
   clear hS
   go_simp
   rfl
  refine Late.done (by kernel_rfl) ?_ _
  go_simp
  go_wp2_with fail
  go_ret
  exact ⟨grown_of HB1.o _, .inl ⟨by rw [HE.o]; decide, by rw [HE.o]; rfl⟩⟩
 by_cases hn2 : ¬ l.length = L.length
 ·have HE := zh (open1_bad (n := n) (.inr (.inr hn2)))
  have q : ((l.length : Int) != (L.length : Int)) = true := bne_iff_ne.2 (by omega)
  clear hn2
  refine Late.region (fun w' => RowAt w' w.heap.size [.int .i64 n, .slice p l.length c] ∧ RowAt w' sb [.slice fp L.length fc, nv, kv, .slice none 0 0, .int .i64 0]) (fun _ => false) (by kernel_rfl) ?_
  refine Late.tk (i := 0) (v := ?_) rfl (by kernel_rfl) ⟨by kernel_rfl, ?_⟩ HS0.o ?_
  rotate_left
  ·intro w' hS
   clear hS
   go_simp
   rfl
  refine Late.tk (i := 1) (v := ?_) rfl (by kernel_rfl) ⟨by kernel_rfl, ?_⟩ HS0.o ?_
  rotate_left
  ·intro w' hS
   have p0 := hS.1 0 _ rfl; have p1 := hS.1 1 _ rfl; have q0 := hS.2 0 _ rfl; have q1 := hS.2 1 _ rfl; have q2 := hS.2 2 _ rfl; clear hS
   go_simp
   rfl
  refine Late.tk (i := 2) (v := ?_) rfl (by kernel_rfl) ⟨by kernel_rfl, ?_⟩ HS0.o ?_
  rotate_left
  ·intro w' hS
   clear hS
   go_simp
   rfl
  refine Late.tk (i := 3) (v := ?_) rfl (by kernel_rfl) ⟨by kernel_rfl, ?_⟩ HS0.o ?_
  rotate_left
  ·intro w' hS
   clear hS
   go_simp
   rfl
  refine Late.tk (i := 4) (v := ?_) rfl (by kernel_rfl) ⟨by kernel_rfl, ?_⟩ HS0.o ?_
  rotate_left
  ·intro w' hS
   clear hS
   go_simp
   rfl
  refine Late.tk (i := 5) (v := ?_) rfl (by kernel_rfl) ⟨by kernel_rfl, ?_⟩ HS0.o ?_
  rotate_left
  ·intro w' hS
   have p0 := hS.1 0 _ rfl; have p1 := hS.1 1 _ rfl; have q0 := hS.2 0 _ rfl; have q1 := hS.2 1 _ rfl; have q2 := hS.2 2 _ rfl; clear hS
   go_simp
   rfl
  refine Late.tk (i := 6) (v := ?_) rfl (by kernel_rfl) ⟨by kernel_rfl, ?_⟩ HS0.o ?_
  rotate_left
  ·intro w' hS
   clear hS
   go_simp
   rfl
  refine Late.tk (i := 7) (v := ?_) rfl (by kernel_rfl) ⟨by kernel_rfl, ?_⟩ HS0.o ?_
  rotate_left
  ·intro w' hS
   clear hS
   go_simp
   rfl
  refine Late.tk (i := 8) (v := ?_) rfl (by kernel_rfl) ⟨by kernel_rfl, ?_⟩ HS0.o ?_
  rotate_left
  ·intro w' hS
   clear hS
   go_simp
   rfl
  refine Late.tk (i := 9) (v := ?_) rfl (by kernel_rfl) ⟨by kernel_rfl, ?_⟩ HS0.o ?_
  rotate_left
  ·intro w' hS
   clear hS
   go_simp
   rfl
  refine Late.tk (i := 10) (v := ?_) rfl (by kernel_rfl) ⟨by kernel_rfl, ?_⟩ HS0.o ?_
  rotate_left
  ·intro w' hS
   have p0 := hS.1 0 _ rfl; have p1 := hS.1 1 _ rfl; have q0 := hS.2 0 _ rfl; have q1 := hS.2 1 _ rfl; have q2 := hS.2 2 _ rfl; clear hS
   go_simp
   rfl
  refine Late.tk (i := 11) (v := ?_) rfl (by kernel_rfl) ⟨by kernel_rfl, ?_⟩ HS0.o ?_
  rotate_left
  ·intro w' hS
   clear hS
   go_simp
   rfl
  refine Late.tk (i := 12) (v := ?_) rfl (by kernel_rfl) ⟨by kernel_rfl, ?_⟩ HS0.o ?_
  rotate_left
  ·intro w' hS
   clear hS
   go_simp
   rfl
  refine Late.tk (i := 13) (v := ?_) rfl (by kernel_rfl) ⟨by kernel_rfl, ?_⟩ HS0.o ?_
  rotate_left
  ·intro w' hS
   clear hS
   go_simp
   rfl
  refine Late.tk (i := 14) (v := ?_) rfl (by kernel_rfl) ⟨by kernel_rfl, ?_⟩ HS0.o ?_
  rotate_left
  ·intro w' hS
   clear hS
   go_simp
   rfl
  refine Late.tk (i := 15) (v := ?_) rfl (by kernel_rfl) ⟨by kernel_rfl, ?_⟩ HS0.o ?_
  rotate_left
  ·intro w' hS
   clear hS
   go_simp
   rfl
  refine Late.tk (i := 16) (v := ?_) rfl (by kernel_rfl) ⟨by kernel_rfl, ?_⟩ HS0.o ?_
  rotate_left
  ·intro w' hS
   have p0 := hS.1 0 _ rfl; have p1 := hS.1 1 _ rfl; have q0 := hS.2 0 _ rfl; have q1 := hS.2 1 _ rfl; have q2 := hS.2 2 _ rfl; clear hS
   go_simp
   rfl
  refine Late.tk (i := 17) (v := ?_) rfl (by kernel_rfl) ⟨by kernel_rfl, ?_⟩ HS0.o ?_
  rotate_left
  ·intro w' hS
   clear hS
   go_simp
   rfl
  refine Late.tk (i := 18) (v := ?_) rfl (by kernel_rfl) ⟨by kernel_rfl, ?_⟩ HS0.o ?_
  rotate_left
  ·intro w' hS
   clear hS
   go_simp
   rfl
  refine Late.tk (i := 19) (v := ?_) rfl (by kernel_rfl) ⟨by kernel_rfl, ?_⟩ HS0.o ?_
  rotate_left
  ·intro w' hS
   clear hS
   go_simp
   rfl
  refine Late.done (by kernel_rfl) ?_ _
  go_simp
  go_wp2_with fail
  go_ret
  exact ⟨grown_of HB1.o _, .inl ⟨by rw [HE.o]; decide, by rw [HE.o]; rfl⟩⟩
 have hn2' : l.length = L.length := by omega
 have q : ((l.length : Int) != (L.length : Int)) = false := by rw [hn2']; simp
 have HLE := zh hn2'
 have HE : Hid (sideE L l n = if lenBad l n = true then 110 else firstO L l) := zh (if_neg (by omega))
 have hll1 : l.length ≤ L.length := by omega
 have hll2 : L.length ≤ l.length := by omega
 clear hn2 hn2'
 refine Late.region (fun w' => RowAt w' w.heap.size [.int .i64 n, .slice p l.length c] ∧ RowAt w' sb [.slice fp L.length fc, nv, kv, .slice none 0 0, .int .i64 0]) (fun _ => false) (by kernel_rfl) ?_
 refine Late.tk (i := 0) (v := ?_) rfl (by kernel_rfl) ⟨by kernel_rfl, ?_⟩ HS0.o ?_
 rotate_left
 ·intro w' hS
  clear hS
  go_simp
  rfl
 refine Late.tk (i := 1) (v := ?_) rfl (by kernel_rfl) ⟨by kernel_rfl, ?_⟩ HS0.o ?_
 rotate_left
 ·intro w' hS
  have p0 := hS.1 0 _ rfl; have p1 := hS.1 1 _ rfl; have q0 := hS.2 0 _ rfl; have q1 := hS.2 1 _ rfl; have q2 := hS.2 2 _ rfl; clear hS
  go_simp
  rfl
 refine Late.tk (i := 2) (v := ?_) rfl (by kernel_rfl) ⟨by kernel_rfl, ?_⟩ HS0.o ?_
 rotate_left
 ·intro w' hS
  clear hS
  go_simp
  rfl
 refine Late.tk (i := 3) (v := ?_) rfl (by kernel_rfl) ⟨by kernel_rfl, ?_⟩ HS0.o ?_
 rotate_left
 ·intro w' hS
  clear hS
  go_simp
  rfl
 refine Late.tk (i := 4) (v := ?_) rfl (by kernel_rfl) ⟨by kernel_rfl, ?_⟩ HS0.o ?_
 rotate_left
 ·intro w' hS
  clear hS
  go_simp
  rfl
 refine Late.tk (i := 5) (v := ?_) rfl (by kernel_rfl) ⟨by kernel_rfl, ?_⟩ HS0.o ?_
 rotate_left
 ·intro w' hS
  have p0 := hS.1 0 _ rfl; have p1 := hS.1 1 _ rfl; have q0 := hS.2 0 _ rfl; have q1 := hS.2 1 _ rfl; have q2 := hS.2 2 _ rfl; clear hS
  go_simp
  rfl
 refine Late.tk (i := 6) (v := ?_) rfl (by kernel_rfl) ⟨by kernel_rfl, ?_⟩ HS0.o ?_
 rotate_left
 ·intro w' hS
  clear hS
  go_simp
  rfl
 refine Late.tk (i := 7) (v := ?_) rfl (by kernel_rfl) ⟨by kernel_rfl, ?_⟩ HS0.o ?_
 rotate_left
 ·intro w' hS
  clear hS
  go_simp
  rfl
 refine Late.tk (i := 8) (v := ?_) rfl (by kernel_rfl) ⟨by kernel_rfl, ?_⟩ HS0.o ?_
 rotate_left
 ·intro w' hS
  clear hS
  go_simp
  rfl
 refine Late.tk (i := 9) (v := ?_) rfl (by kernel_rfl) ⟨by kernel_rfl, ?_⟩ HS0.o ?_
 rotate_left
 ·intro w' hS
  clear hS
  go_simp
  rfl
 refine Late.tk (i := 10) (v := ?_) rfl (by kernel_rfl) ⟨by kernel_rfl, ?_⟩ HS0.o ?_
 rotate_left
 ·intro w' hS
  have p0 := hS.1 0 _ rfl; have p1 := hS.1 1 _ rfl; have q0 := hS.2 0 _ rfl; have q1 := hS.2 1 _ rfl; have q2 := hS.2 2 _ rfl; clear hS
  go_simp
  rfl
 refine Late.tk (i := 11) (v := ?_) rfl (by kernel_rfl) ⟨by kernel_rfl, ?_⟩ HS0.o ?_
 rotate_left
 ·intro w' hS
  clear hS
  go_simp
  rfl
 refine Late.tk (i := 12) (v := ?_) rfl (by kernel_rfl) ⟨by kernel_rfl, ?_⟩ HS0.o ?_
 rotate_left
 ·intro w' hS
  clear hS
  go_simp
  rfl
 refine Late.tk (i := 13) (v := ?_) rfl (by kernel_rfl) ⟨by kernel_rfl, ?_⟩ HS0.o ?_
 rotate_left
 ·intro w' hS
  clear hS
  go_simp
  rfl
 refine Late.tk (i := 14) (v := ?_) rfl (by kernel_rfl) ⟨by kernel_rfl, ?_⟩ HS0.o ?_
 rotate_left
 ·intro w' hS
  clear hS
  go_simp
  rfl
 refine Late.tk (i := 15) (v := ?_) rfl (by kernel_rfl) ⟨by kernel_rfl, ?_⟩ HS0.o ?_
 rotate_left
 ·intro w' hS
  clear hS
  go_simp
  rfl
 refine Late.tk (i := 16) (v := ?_) rfl (by kernel_rfl) ⟨by kernel_rfl, ?_⟩ HS0.o ?_
 rotate_left
 ·intro w' hS
  have p0 := hS.1 0 _ rfl; have p1 := hS.1 1 _ rfl; have q0 := hS.2 0 _ rfl; have q1 := hS.2 1 _ rfl; have q2 := hS.2 2 _ rfl; clear hS
  go_simp
  rfl
 refine Late.tk (i := 17) (v := ?_) rfl (by kernel_rfl) ⟨by kernel_rfl, ?_⟩ HS0.o ?_
 rotate_left
 ·intro w' hS
  clear hS
  go_simp
  rfl
 refine Late.tk (i := 18) (v := ?_) rfl (by kernel_rfl) ⟨by kernel_rfl, ?_⟩ HS0.o ?_
 rotate_left
 ·intro w' hS
  clear hS
  go_simp
  rfl
 refine Late.tk (i := 19) (v := ?_) rfl (by kernel_rfl) ⟨by kernel_rfl, ?_⟩ HS0.o ?_
 rotate_left
 ·intro w' hS
  clear hS
  go_simp
  rfl
 refine Late.done (by kernel_rfl) ?_ _
 go_simp
 clear q HS0
 obtain ⟨wx, hwx⟩ : ∃ wx, wx = W1.drew := ⟨_, rfl⟩
 rw [← hwx] at A0 HBX HB1 ⊢
 clear hwx
 have p0 := A0.o.row 0 _ rfl
 have p1 := A0.o.row 1 _ rfl
 have hlt0 := A0.o.lt
 have HC := zh (conf_calls (HD.o.below (HB0.o.trans (HB1.o.mono HB0.o.size))) A0.o)
 unfold columnFn at HC
 go_wp2_with fail
 refine HC.o.mono ?_
 rintro e W2 ⟨rfl, hb2⟩
 have HB2 := zh (HB1.o.trans (hb2.mono HB1.o.size))
 have A2 := zh (A0.o.below hb2 A0.o.lt)
 have HX2 := zh (HBX.o.below hb2 HBX.o.lt)
 clear hb2 p0 p1 HC hlt0
 cases hlb : lenBad l n with
 | true =>
  have HE2 := zh (show sideE L l n = 110 by rw [HE.o, hlb]; rfl)
  clear hlb
  go_wp2_with fail
  go_ret
  exact ⟨grown_of HB2.o _, .inl ⟨by rw [HE2.o]; decide, by rw [HE2.o]; rfl⟩⟩
 | false =>
  have HE2 := zh (show sideE L l n = firstO L l by rw [HE.o, hlb]; rfl)
  clear hlb HE
  have p0 := A2.o.row 0 _ rfl
  have p1 := A2.o.row 1 _ rfl
  have hlt0 := A2.o.lt
  go_wp2_with fail
  clear p0 p1 hlt0
  go_loopw [36] (fun i wr => ∃ (k : Nat) (q : Option Addr) (c' : Nat) (bs : List Nat), k ≤ l.length ∧ i = .int .i64 k ∧ Hid (ArrsAt m0 base W2.heap.size wr L l q c' k bs) ∧ Hid (W2.grownBy wr (some sb)) ∧ Hid (BoxN wr sb 54 [.slice fp L.length fc, nv, kv, .slice q k c', .int .i64 0]) ∧ Hid (sideE L l n = firstO (L.drop k) (l.drop k))) (fun i _ => l.length - (intOf i).toNat)
  case atStart => exact ⟨0, none, 0, [], by omega, rfl, zh (ArrsAt.nil _ _ _ _ _ _), zh (World.grownBy.refl _ _), HX2, zh (by rw [List.drop_zero, List.drop_zero]; exact HE2.o)⟩
  case round =>
   obtain ⟨k, q, c', bs, hk, rfl, HA, HG, HX, HF⟩ := hrel
   by_cases hlt : k < l.length
   ·have hlt2 : k < L.length := by omega
    have HBR : Hid (Below w0.heap.size w0 wr) := zh (grown_base (HB0.o.trans (HB2.o.mono HB0.o.size)) HG.o (by rw [← HM.o]; exact hm0))
    obtain ⟨xb, xo, bp, bc, kp, kc, dp, dc, rfl, -, s0, s1, s2, s3, s4, s5, hx⟩ := kid_get HD.o k hlt
    obtain ⟨yb, yo, gp, gc, rfl, hy, g0, g1, g2, g3, g4, g5, g6⟩ := FdsC.seven HL.o k hlt2
    have HDX : Hid (DAt (fun b => b < m0) wr l[k] [.int .i64 l[k].len, .int .i64 l[k].off, .int .i64 l[k].nul, .slice bp l[k].bufs.length bc, .slice kp l[k].kids.length kc, .slice dp l[k].dict.length dc]) := zh (DAt.below (M.AtL.keep (T := fun b => b < m0) (fun b _ hlt => ⟨rfl, by rw [HM.o]; exact hlt⟩) hx) HBR.o)
    have HFX := zh (hy.below HBR.o)
    have HKO := zh (HOK.o l[k] (List.getElem_mem hlt))
    have HNX : Hid (sideE L l n = if openE L[k] l[k] ≠ 0 then openE L[k] l[k] else firstO (L.drop (k + 1)) (l.drop (k + 1))) := zh (by rw [HF.o]; exact firstO_drop hlt2 hlt)
    have r0 := cell_below HBR.o s0
    have r1 := cell_below HBR.o s1
    have r2 := cell_below HBR.o s2
    have r3 := cell_below HBR.o s3
    have r4 := cell_below HBR.o s4
    have r5 := cell_below HBR.o s5
    have HC7 := zh (And.intro (cell_below HBR.o g0) (And.intro (cell_below HBR.o g1) (And.intro (cell_below HBR.o g2) (And.intro (cell_below HBR.o g3) (And.intro (cell_below HBR.o g4) (And.intro (cell_below HBR.o g5) (cell_below HBR.o g6)))))))
    clear s0 s1 s2 s3 s4 s5 hx hy g0 g1 g2 g3 g4 g5 g6
    generalize hfe : L[k] = f at *
    generalize hde : l[k] = d at *
    have HEF := zh hfe
    have HED := zh hde
    clear hfe hde
    go_wp2_with fail
    obtain ⟨A, hA⟩ : ∃ A, A = wr.alloc (.cells #[Value.int .i64 d.len, Value.int .i64 d.off, Value.int .i64 d.nul, Value.slice bp d.bufs.length bc, Value.slice kp d.kids.length kc, Value.slice dp d.dict.length dc] 75) := ⟨_, rfl⟩
    have BA : Below wr.heap.size wr A := by rw [hA]; exact (Below.refl _ wr).alloc (Nat.le_refl _) _
    have HAX : Hid (BoxN A.drew wr.heap.size 75 [.int .i64 d.len, .int .i64 d.off, .int .i64 d.nul, .slice bp d.bufs.length bc, .slice kp d.kids.length kc, .slice dp d.dict.length dc]) := zh (by rw [hA]; exact BoxN.new wr 75 [.int .i64 d.len, .int .i64 d.off, .int .i64 d.nul, .slice bp d.bufs.length bc, .slice kp d.kids.length kc, .slice dp d.dict.length dc])
    have HBA : Hid (Below wr.heap.size wr A.drew) := zh (below_drew BA)
    have hasz : wr.heap.size < A.drew.heap.size := HAX.o.lt
    rw [← hA]
    clear hA BA r0 r1 r2 r3 r4 r5
    have HS0 : Hid (RowAt A.drew sb [.slice (some ⟨yb, yo, none⟩) L.length fc, nv, kv, .slice q k c', .int .i64 0] ∧ RowAt A.drew wr.heap.size [.int .i64 d.len, .int .i64 d.off, .int .i64 d.nul, .slice bp d.bufs.length bc, .slice kp d.kids.length kc, .slice dp d.dict.length dc] ∧ (A.drew.cell? ⟨yb, yo + k * 7, none⟩ = some (.string f.nm) ∧ A.drew.cell? ⟨yb, yo + k * 7 + 1, none⟩ = some (.bool f.nl) ∧ A.drew.cell? ⟨yb, yo + k * 7 + 2, none⟩ = some (.int .i64 f.k) ∧ A.drew.cell? ⟨yb, yo + k * 7 + 3, none⟩ = some (.int .i64 f.wd) ∧ A.drew.cell? ⟨yb, yo + k * 7 + 4, none⟩ = some (.int .i64 f.id) ∧ A.drew.cell? ⟨yb, yo + k * 7 + 5, none⟩ = some (.int .i64 f.ix) ∧ A.drew.cell? ⟨yb, yo + k * 7 + 6, none⟩ = some (.slice gp f.kids.length gc))) := zh ⟨(HX.o.below HBA.o HX.o.lt).row, HAX.o.row, cell_below HBA.o HC7.o.1, cell_below HBA.o HC7.o.2.1, cell_below HBA.o HC7.o.2.2.1, cell_below HBA.o HC7.o.2.2.2.1, cell_below HBA.o HC7.o.2.2.2.2.1, cell_below HBA.o HC7.o.2.2.2.2.2.1, cell_below HBA.o HC7.o.2.2.2.2.2.2⟩
    refine Late.region (fun w' => RowAt w' sb [.slice (some ⟨yb, yo, none⟩) L.length fc, nv, kv, .slice q k c', .int .i64 0] ∧ RowAt w' wr.heap.size [.int .i64 d.len, .int .i64 d.off, .int .i64 d.nul, .slice bp d.bufs.length bc, .slice kp d.kids.length kc, .slice dp d.dict.length dc] ∧ (w'.cell? ⟨yb, yo + k * 7, none⟩ = some (.string f.nm) ∧ w'.cell? ⟨yb, yo + k * 7 + 1, none⟩ = some (.bool f.nl) ∧ w'.cell? ⟨yb, yo + k * 7 + 2, none⟩ = some (.int .i64 f.k) ∧ w'.cell? ⟨yb, yo + k * 7 + 3, none⟩ = some (.int .i64 f.wd) ∧ w'.cell? ⟨yb, yo + k * 7 + 4, none⟩ = some (.int .i64 f.id) ∧ w'.cell? ⟨yb, yo + k * 7 + 5, none⟩ = some (.int .i64 f.ix) ∧ w'.cell? ⟨yb, yo + k * 7 + 6, none⟩ = some (.slice gp f.kids.length gc))) (fun i => i == 15) (by kernel_rfl) ?_
    obtain ⟨B, hB⟩ : ∃ B, B = A.drew := ⟨_, rfl⟩
    rw [← hB] at HS0 HAX HBA hasz ⊢
    clear hB
    refine Late.tk (i := 0) (v := ?_) rfl (by kernel_rfl) ⟨by kernel_rfl, ?_⟩ HS0.o ?_
    rotate_left
    ·intro w' hS
     clear hS
     go_simp
     rfl
    refine Late.tk (i := 1) (v := ?_) rfl (by kernel_rfl) ⟨by kernel_rfl, ?_⟩ HS0.o ?_
    rotate_left
    ·intro w' hS
     clear hS
     go_simp
     rfl
    refine Late.tk (i := 2) (v := ?_) rfl (by kernel_rfl) ⟨by kernel_rfl, ?_⟩ HS0.o ?_
    rotate_left
    ·intro w' hS
     clear hS
     go_simp
     rfl
    refine Late.tk (i := 3) (v := ?_) rfl (by kernel_rfl) ⟨by kernel_rfl, ?_⟩ HS0.o ?_
    rotate_left
    ·intro w' hS
     clear hS
     go_simp
     rfl
    refine Late.tk (i := 4) (v := ?_) rfl (by kernel_rfl) ⟨by kernel_rfl, ?_⟩ HS0.o ?_
    rotate_left
    ·intro w' hS
     have q0 := hS.1 0 _ rfl; clear hS
     go_simp
     rfl
    refine Late.tk (i := 5) (v := ?_) rfl (by kernel_rfl) ⟨by kernel_rfl, ?_⟩ HS0.o ?_
    rotate_left
    ·intro w' hS
     clear hS
     go_simp
     rfl
    refine Late.tk (i := 6) (v := ?_) rfl (by kernel_rfl) ⟨by kernel_rfl, ?_⟩ HS0.o ?_
    rotate_left
    ·intro w' hS
     clear hS
     go_simp
     rfl
    refine Late.tk (i := 7) (v := ?_) rfl (by kernel_rfl) ⟨by kernel_rfl, ?_⟩ HS0.o ?_
    rotate_left
    ·intro w' hS
     obtain ⟨-, -, f0, f1, f2, f3, f4, f5, f6⟩ := hS
     go_simp
     rfl
    refine Late.tk (i := 8) (v := ?_) rfl (by kernel_rfl) ⟨by kernel_rfl, ?_⟩ HS0.o ?_
    rotate_left
    ·intro w' hS
     have p0 := hS.2.1 0 _ rfl; have p1 := hS.2.1 1 _ rfl; have p2 := hS.2.1 2 _ rfl; have p3 := hS.2.1 3 _ rfl; have p4 := hS.2.1 4 _ rfl; have p5 := hS.2.1 5 _ rfl; clear hS
     go_simp
     rfl
    obtain ⟨er, her⟩ : ∃ er, er = openE f d := ⟨_, rfl⟩
    have HER := zh her
    clear her
    have hoff : ∀ j, (Value.slice q k c').ownBlock = some j → W2.heap.size ≤ j ∧ j < wr.heap.size := fun j e => HA.o.owns.lt j e
    have hw2 : m0 ≤ w.heap.size ∧ base ≤ w.heap.size ∧ w.heap.size ≤ W2.heap.size ∧ W2.heap.size ≤ wr.heap.size := ⟨by omega, hbw, HB2.o.size, HG.o.size⟩
    have HOF := zh hoff
    have HW2 := zh hw2
    clear hoff hw2
    refine Late.two (i := 9) (k := 13) (by kernel_rfl) rfl rfl (fun K hK => ?_) (fun K hK => ?_)
    ·go_simp
     refine (openS_calls (S := fun x => (x < m0 ∨ base ≤ x) ∧ (Value.slice q k c').ownBlock ≠ some x) (fun x hx => ⟨.inr (by have := HW2.o; have := HBA.o.size; omega), fun e => by have := HOF.o x e; have := HBA.o.size; omega⟩) (HFX.o.below HBA.o) ((DAt.below HDX.o HBA.o).mono fun x hx => ⟨.inl hx, fun e => by have := HOF.o x e; have := HW2.o; omega⟩) ((HSA.o.below HBR.o).below HBA.o) ((HSW.o.below HBR.o).below HBA.o) (Utf8Tabs_below (Utf8Tabs_below HT.o HBR.o) HBA.o) HKO.o).mono ?_
     intro e V1 hpost
     obtain ⟨hb1, pp, pq, pd, pc, av, rfl, hcase⟩ := hpost.one
     have hHS : RowAt V1 sb [.slice (some ⟨yb, yo, none⟩) L.length fc, nv, kv, .slice q k c', .int .i64 0] ∧ RowAt V1 wr.heap.size [.int .i64 d.len, .int .i64 d.off, .int .i64 d.nul, .slice bp d.bufs.length bc, .slice kp d.kids.length kc, .slice dp d.dict.length dc] ∧ (V1.cell? ⟨yb, yo + k * 7, none⟩ = some (.string f.nm) ∧ V1.cell? ⟨yb, yo + k * 7 + 1, none⟩ = some (.bool f.nl) ∧ V1.cell? ⟨yb, yo + k * 7 + 2, none⟩ = some (.int .i64 f.k) ∧ V1.cell? ⟨yb, yo + k * 7 + 3, none⟩ = some (.int .i64 f.wd) ∧ V1.cell? ⟨yb, yo + k * 7 + 4, none⟩ = some (.int .i64 f.id) ∧ V1.cell? ⟨yb, yo + k * 7 + 5, none⟩ = some (.int .i64 f.ix) ∧ V1.cell? ⟨yb, yo + k * 7 + 6, none⟩ = some (.slice gp f.kids.length gc)) := ⟨HS0.o.1.below hb1, HS0.o.2.1.below hb1, cell_below hb1 HS0.o.2.2.1, cell_below hb1 HS0.o.2.2.2.1, cell_below hb1 HS0.o.2.2.2.2.1, cell_below hb1 HS0.o.2.2.2.2.2.1, cell_below hb1 HS0.o.2.2.2.2.2.2.1, cell_below hb1 HS0.o.2.2.2.2.2.2.2.1, cell_below hb1 HS0.o.2.2.2.2.2.2.2.2⟩
     have HS1 := zh hHS
     have HBV1 := zh (HBA.o.trans (hb1.mono HBA.o.size))
     have hbv := hb1.size
     rw [← HER.o] at hcase ⊢
     have HCS1 := zh hcase
     clear hb1 hcase hpost hHS
     refine hK _ _ (fun _ => HS1.o) ?_
     clear hK K
     refine Late.tk (i := 10) (v := ?_) rfl (by kernel_rfl) ⟨by kernel_rfl, ?_⟩ HS1.o ?_
     rotate_left
     ·intro w' hS
      clear hS
      go_simp
      rfl
     refine Late.tk (i := 11) (v := ?_) rfl (by kernel_rfl) ⟨by kernel_rfl, ?_⟩ HS1.o ?_
     rotate_left
     ·intro w' hS
      clear hS
      go_simp
      rfl
     refine Late.tk (i := 12) (v := ?_) rfl (by kernel_rfl) ⟨by kernel_rfl, ?_⟩ HS1.o ?_
     rotate_left
     ·intro w' hS
      clear hS
      go_simp
      rfl
     refine Late.one (i := 13) (by kernel_rfl) rfl (fun K hK => ?_)
     go_simp
     obtain ⟨b8, hb8e⟩ : ∃ b8, b8 = V1.heap.size := ⟨_, rfl⟩
     obtain ⟨V2, hV2⟩ : ∃ V2, V2 = V1.alloc (.cells #[Value.int .i64 0, Value.slice none 0 0, Value.int .i64 0] 64) := ⟨_, rfl⟩
     have bx8 : BoxN V2 b8 64 [.int .i64 0, .slice none 0 0, .int .i64 0] := by rw [hV2, hb8e]; exact BoxN.new V1 64 _
     have hb2 : Below V1.heap.size V1 V2 := by rw [hV2]; exact (Below.refl _ V1).alloc (Nat.le_refl _) _
     have BX := zh bx8
     have HBV := zh (HBV1.o.trans (hb2.mono HBV1.o.size))
     have hb8 : wr.heap.size ≤ b8 := by rw [hb8e]; exact HBV1.o.size
     have HCS : Hid (er ≠ 0 ∨ (er = 0 ∧ ∃ b6, pp = some ⟨b6, 0, none⟩ ∧ wr.heap.size ≤ b6 ∧ b6 ≠ b8 ∧ ArrS (fun x => ((x < m0 ∨ base ≤ x) ∧ (Value.slice q k c').ownBlock ≠ some x) ∧ x ≠ b8) V2 b6 f d d.off d.len)) := zh (by
      rcases HCS1.o with h | ⟨h0, b6, h1, h2, h3⟩
      ·exact .inl h
      ·refine .inr ⟨h0, b6, h1, by omega, by have := h3.lt; omega, h3.keep (fun x hx hlt => ⟨hb2.block x hlt, hx, by omega⟩) (hb2.block _ h3.lt)⟩)
     have hHS2 : RowAt V2 sb [.slice (some ⟨yb, yo, none⟩) L.length fc, nv, kv, .slice q k c', .int .i64 0] ∧ RowAt V2 wr.heap.size [.int .i64 d.len, .int .i64 d.off, .int .i64 d.nul, .slice bp d.bufs.length bc, .slice kp d.kids.length kc, .slice dp d.dict.length dc] ∧ (V2.cell? ⟨yb, yo + k * 7, none⟩ = some (.string f.nm) ∧ V2.cell? ⟨yb, yo + k * 7 + 1, none⟩ = some (.bool f.nl) ∧ V2.cell? ⟨yb, yo + k * 7 + 2, none⟩ = some (.int .i64 f.k) ∧ V2.cell? ⟨yb, yo + k * 7 + 3, none⟩ = some (.int .i64 f.wd) ∧ V2.cell? ⟨yb, yo + k * 7 + 4, none⟩ = some (.int .i64 f.id) ∧ V2.cell? ⟨yb, yo + k * 7 + 5, none⟩ = some (.int .i64 f.ix) ∧ V2.cell? ⟨yb, yo + k * 7 + 6, none⟩ = some (.slice gp f.kids.length gc)) := ⟨HS1.o.1.below hb2, HS1.o.2.1.below hb2, cell_below hb2 HS1.o.2.2.1, cell_below hb2 HS1.o.2.2.2.1, cell_below hb2 HS1.o.2.2.2.2.1, cell_below hb2 HS1.o.2.2.2.2.2.1, cell_below hb2 HS1.o.2.2.2.2.2.2.1, cell_below hb2 HS1.o.2.2.2.2.2.2.2.1, cell_below hb2 HS1.o.2.2.2.2.2.2.2.2⟩
     have HS2 := zh hHS2
     rw [← hV2, ← hb8e]
     clear hV2 hb8e hb2 bx8 hHS2 HCS1
     refine hK _ _ (fun _ => HS2.o) ?_
     clear hK K
     refine Late.one (i := 14) (by kernel_rfl) rfl (fun K hK => ?_)
     go_simp
     refine hK _ _ (fun _ => HS2.o) ?_
     clear hK K
     have x0 := BX.o.row 0 _ rfl
     have x1 := BX.o.row 1 _ rfl
     have x2 := BX.o.row 2 _ rfl
     have z0 := BX.o.frozen 0
     have z1 := BX.o.frozen 1
     have z2 := BX.o.frozen 2
     have hl8 := BX.o.lt
     refine Late.one (i := 15) (by kernel_rfl) rfl (fun K hK => ?_)
     go_simp
     refine hK _ _ (fun h => absurd h (by decide)) ?_
     clear hK K
     refine Late.done (by kernel_rfl) ?_ _
     go_simp
     obtain ⟨V3, hV3⟩ : ∃ V3, V3 = (((V2.setCell ⟨b8, 0, none⟩ (.int .i64 er)).setCell ⟨b8, 1, none⟩ (.slice pq pd pc)).setCell ⟨b8, 2, none⟩ (.int .i64 av)) := ⟨_, rfl⟩
     have BX8 : Hid (BoxN V3 b8 64 [.int .i64 er, .slice pq pd pc, .int .i64 av]) := zh (by rw [hV3]; exact put3_box rfl BX.o _ _ _)
     have HB3 : Hid (Below wr.heap.size wr V3) := zh (by rw [hV3]; exact put3_below HBV.o hb8 _ _ _)
     have HOC : Hid (er ≠ 0 ∨ (er = 0 ∧ ∃ b6, pp = some ⟨b6, 0, none⟩ ∧ wr.heap.size ≤ b6 ∧ b6 < V3.heap.size ∧ ArrS (fun x => (x < m0 ∨ base ≤ x) ∧ (Value.slice q k c').ownBlock ≠ some x) V3 b6 f d d.off d.len)) := zh (by
      rcases HCS.o with h | ⟨h0, b6, h1, h2, h3, h4⟩
      ·exact .inl h
      ·refine .inr ⟨h0, b6, h1, h2, by rw [hV3]; simp only [World.size_setCell]; exact h4.lt, ?_⟩
       rw [hV3]
       exact h4.keep (fun x hx hlt => ⟨by rw [Below.heap_setCell _ _ _ x hx.2, Below.heap_setCell _ _ _ x hx.2, Below.heap_setCell _ _ _ x hx.2], hx.1⟩) (by rw [Below.heap_setCell _ _ _ b6 h3, Below.heap_setCell _ _ _ b6 h3, Below.heap_setCell _ _ _ b6 h3]))
     rw [← hV3]
     clear hV3 HCS HBV BX x0 x1 x2 z0 z1 z2 hl8
     have e0 := BX8.o.row 0 _ rfl
     have e1 := BX8.o.row 1 _ rfl
     have e2 := BX8.o.row 2 _ rfl
     have hl8 := BX8.o.lt
     rcases HOC.o with hne | ⟨h0, b6, hpp, hb6, hne6, hA6⟩
     ·have hnb : (er != 0) = true := by simpa using hne
      have HE3 := zh (show sideE L l n = er by rw [HNX.o, ← HER.o, if_pos hne])
      have HNE := zh hne
      clear hne
      go_wp2_with fail
      go_ret
      exact ⟨grown_below (grown_trans (grown_of HB2.o _) HG.o) HB3.o, .inl ⟨by rw [HE3.o]; exact HNE.o, by rw [HE3.o]; rfl⟩⟩
     ·have HE3 := zh (show sideE L l n = firstO (L.drop (k + 1)) (l.drop (k + 1)) by rw [HNX.o, ← HER.o, if_neg (by omega)])
      subst hpp
      have hnb : (er != 0) = false := by simpa using h0
      have hA3 := HA.o.below HB3.o
      have hx3 := HX.o.below HB3.o HX.o.lt
      have HA3 := zh hA3
      have HX3 := zh hx3
      have HO3 := zh hA3.owns
      have y0 := hx3.row 0 _ rfl
      have y1 := hx3.row 1 _ rfl
      have y2 := hx3.row 2 _ rfl
      have y3 := hx3.row 3 _ rfl
      have y4 := hx3.row 4 _ rfl
      have hly := hx3.lt
      have HA6 := zh hA6
      have HB6 := zh hb6
      have hZ := BoxN.new V3 112 [.pointer (some ⟨b6, 0, none⟩)]
      have HZ := zh hZ
      have hsz3 : wr.heap.size ≤ V3.heap.size := HB3.o.size
      clear hA3 hx3 hA6 hb6 hZ h0
      go_wp2_with (at_builtin; refine wpList_append_lies _ rfl _ _ 52 rfl W2.heap.size 112 i1 z1 1 8 und52 hi1 hz1 hsz1 hby1 hzc1 (by decide) (.slice q k c') k ((bs.map cellP).flatMap id) rfl (HO3.o.alloc _) ⟨V3.heap.size, 0, none⟩ 1 1 [.pointer (some ⟨b6, 0, none⟩)] rfl rfl (World.news_of_block HZ.o) (by simp [Value.oneCell']) (by decide) (by unfold maxLen; omega) (by omega) (by simp; have := HW2.o; omega) (V3.heap.size + 1) (by simp) ?_; intro gg cc w2 hown2 hgrow2 hat2 hlt2; have hx4 := (HX3.o.alloc (Obj.cells #[Value.pointer (some ⟨b6, 0, none⟩)] 112)).kept hgrow2 (fun e => by have := HOF.o sb e.symm; have := HW2.o; omega); have u3 := hx4.row 3 _ rfl; have v3 := hx4.frozen 3; have hl4 := hx4.lt; have HX4 := zh hx4; have HOW2 := zh hown2; have HGR2 := zh hgrow2; have HAT2 := zh hat2; clear hx4 hown2 hgrow2 hat2)
      have HV4 : Hid (Below V3.heap.size V3 (V3.alloc (Obj.cells #[Value.pointer (some ⟨b6, 0, none⟩)] 112))) := zh ((Below.refl _ V3).alloc (Nat.le_refl _) _)
      have HS4 : Hid (W2.heap.size ≤ (V3.alloc (Obj.cells #[Value.pointer (some ⟨b6, 0, none⟩)] 112)).heap.size) := zh (by rw [World.size_alloc]; have := HW2.o; omega)
      refine ⟨⟨k + 1, some ⟨gg, 0, none⟩, cc, bs ++ [b6], by omega, by go_num, zh ?_, zh ?_, zh (HX4.o.set 3 _), HE3⟩, by simp [intOf]; omega⟩
      ·refine ((HA3.o.below HV4.o).push (b := b6) (by have := HW2.o; have := HB6.o; omega) (by have := HW2.o; omega) (fun e => by have := HOF.o _ e; have := HB6.o; omega) (fun h1 h2 => by rw [HEF.o, HED.o]; exact HA6.o.below HV4.o) (by rw [World.size_alloc]; have := HA6.o.lt; omega) HOW2.o HGR2.o (by rw [World.size_alloc]; exact HAT2.o)).kept (grown_set _) hm0 hsb (by have := HW2.o; omega)
      ·exact grown_trans (grown_belowN (grown_below (grown_below HG.o HB3.o) HV4.o) ((Below.refl _ _).grown HGR2.o HS4.o (fun j e => (HOF.o j e).1))) (grown_set _)
    ·go_simp
     obtain ⟨b8, hb8e⟩ : ∃ b8, b8 = B.heap.size := ⟨_, rfl⟩
     obtain ⟨V0, hV0⟩ : ∃ V0, V0 = B.alloc (.cells #[Value.int .i64 0, Value.slice none 0 0, Value.int .i64 0] 64) := ⟨_, rfl⟩
     have bx8 : BoxN V0 b8 64 [.int .i64 0, .slice none 0 0, .int .i64 0] := by rw [hV0, hb8e]; exact BoxN.new B 64 _
     have hb2 : Below B.heap.size B V0 := by rw [hV0]; exact (Below.refl _ B).alloc (Nat.le_refl _) _
     have hs8 : V0.heap.size = b8 + 1 := by rw [hV0, hb8e, World.size_alloc]
     have BX0 := zh bx8
     have HBV0 := zh (HBA.o.trans (hb2.mono HBA.o.size))
     have hb8 : wr.heap.size ≤ b8 := by rw [hb8e]; exact HBA.o.size
     have hHS2 : RowAt V0 sb [.slice (some ⟨yb, yo, none⟩) L.length fc, nv, kv, .slice q k c', .int .i64 0] ∧ RowAt V0 wr.heap.size [.int .i64 d.len, .int .i64 d.off, .int .i64 d.nul, .slice bp d.bufs.length bc, .slice kp d.kids.length kc, .slice dp d.dict.length dc] ∧ (V0.cell? ⟨yb, yo + k * 7, none⟩ = some (.string f.nm) ∧ V0.cell? ⟨yb, yo + k * 7 + 1, none⟩ = some (.bool f.nl) ∧ V0.cell? ⟨yb, yo + k * 7 + 2, none⟩ = some (.int .i64 f.k) ∧ V0.cell? ⟨yb, yo + k * 7 + 3, none⟩ = some (.int .i64 f.wd) ∧ V0.cell? ⟨yb, yo + k * 7 + 4, none⟩ = some (.int .i64 f.id) ∧ V0.cell? ⟨yb, yo + k * 7 + 5, none⟩ = some (.int .i64 f.ix) ∧ V0.cell? ⟨yb, yo + k * 7 + 6, none⟩ = some (.slice gp f.kids.length gc)) := ⟨HS0.o.1.below hb2, HS0.o.2.1.below hb2, cell_below hb2 HS0.o.2.2.1, cell_below hb2 HS0.o.2.2.2.1, cell_below hb2 HS0.o.2.2.2.2.1, cell_below hb2 HS0.o.2.2.2.2.2.1, cell_below hb2 HS0.o.2.2.2.2.2.2.1, cell_below hb2 HS0.o.2.2.2.2.2.2.2.1, cell_below hb2 HS0.o.2.2.2.2.2.2.2.2⟩
     have HS2 := zh hHS2
     rw [← hV0, ← hb8e]
     clear hV0 hb8e hb2 bx8 hHS2
     refine hK _ _ (fun _ => HS2.o) ?_
     clear hK K
     refine Late.one (i := 9) (by kernel_rfl) rfl (fun K hK => ?_)
     go_simp
     refine (openS_calls (S := fun x => ((x < m0 ∨ base ≤ x) ∧ (Value.slice q k c').ownBlock ≠ some x) ∧ x ≠ b8) (fun x hx => ⟨⟨.inr (by have := HW2.o; omega), fun e => by have := HOF.o x e; omega⟩, by omega⟩) (HFX.o.below HBV0.o) ((DAt.below HDX.o HBV0.o).mono fun x hx => ⟨⟨.inl hx, fun e => by have := HOF.o x e; have := HW2.o; omega⟩, by have := HW2.o; omega⟩) ((HSA.o.below HBR.o).below HBV0.o) ((HSW.o.below HBR.o).below HBV0.o) (Utf8Tabs_below (Utf8Tabs_below HT.o HBR.o) HBV0.o) HKO.o).mono ?_
     intro e V1 hpost
     obtain ⟨hb1, pp, pq, pd, pc, av, rfl, hcase⟩ := hpost.one
     have hHS : RowAt V1 sb [.slice (some ⟨yb, yo, none⟩) L.length fc, nv, kv, .slice q k c', .int .i64 0] ∧ RowAt V1 wr.heap.size [.int .i64 d.len, .int .i64 d.off, .int .i64 d.nul, .slice bp d.bufs.length bc, .slice kp d.kids.length kc, .slice dp d.dict.length dc] ∧ (V1.cell? ⟨yb, yo + k * 7, none⟩ = some (.string f.nm) ∧ V1.cell? ⟨yb, yo + k * 7 + 1, none⟩ = some (.bool f.nl) ∧ V1.cell? ⟨yb, yo + k * 7 + 2, none⟩ = some (.int .i64 f.k) ∧ V1.cell? ⟨yb, yo + k * 7 + 3, none⟩ = some (.int .i64 f.wd) ∧ V1.cell? ⟨yb, yo + k * 7 + 4, none⟩ = some (.int .i64 f.id) ∧ V1.cell? ⟨yb, yo + k * 7 + 5, none⟩ = some (.int .i64 f.ix) ∧ V1.cell? ⟨yb, yo + k * 7 + 6, none⟩ = some (.slice gp f.kids.length gc)) := ⟨HS2.o.1.below hb1, HS2.o.2.1.below hb1, cell_below hb1 HS2.o.2.2.1, cell_below hb1 HS2.o.2.2.2.1, cell_below hb1 HS2.o.2.2.2.2.1, cell_below hb1 HS2.o.2.2.2.2.2.1, cell_below hb1 HS2.o.2.2.2.2.2.2.1, cell_below hb1 HS2.o.2.2.2.2.2.2.2.1, cell_below hb1 HS2.o.2.2.2.2.2.2.2.2⟩
     have HS1 := zh hHS
     have HBV := zh (HBV0.o.trans (hb1.mono HBV0.o.size))
     have BX := zh (BX0.o.below hb1 BX0.o.lt)
     rw [← HER.o] at hcase ⊢
     have HCS : Hid (er ≠ 0 ∨ (er = 0 ∧ ∃ b6, pp = some ⟨b6, 0, none⟩ ∧ wr.heap.size ≤ b6 ∧ b6 ≠ b8 ∧ ArrS (fun x => ((x < m0 ∨ base ≤ x) ∧ (Value.slice q k c').ownBlock ≠ some x) ∧ x ≠ b8) V1 b6 f d d.off d.len)) := zh (by
      rcases hcase with h | ⟨h0, b6, h1, h2, h3⟩
      ·exact .inl h
      ·exact .inr ⟨h0, b6, h1, by omega, by omega, h3⟩)
     clear hb1 hcase hpost hHS hs8
     refine hK _ _ (fun _ => HS1.o) ?_
     clear hK K
     refine Late.tk (i := 10) (v := ?_) rfl (by kernel_rfl) ⟨by kernel_rfl, ?_⟩ HS1.o ?_
     rotate_left
     ·intro w' hS
      clear hS
      go_simp
      rfl
     refine Late.tk (i := 11) (v := ?_) rfl (by kernel_rfl) ⟨by kernel_rfl, ?_⟩ HS1.o ?_
     rotate_left
     ·intro w' hS
      clear hS
      go_simp
      rfl
     refine Late.tk (i := 12) (v := ?_) rfl (by kernel_rfl) ⟨by kernel_rfl, ?_⟩ HS1.o ?_
     rotate_left
     ·intro w' hS
      clear hS
      go_simp
      rfl
     refine Late.one (i := 14) (by kernel_rfl) rfl (fun K hK => ?_)
     go_simp
     refine hK _ _ (fun _ => HS1.o) ?_
     clear hK K
     have x0 := BX.o.row 0 _ rfl
     have x1 := BX.o.row 1 _ rfl
     have x2 := BX.o.row 2 _ rfl
     have z0 := BX.o.frozen 0
     have z1 := BX.o.frozen 1
     have z2 := BX.o.frozen 2
     have hl8 := BX.o.lt
     refine Late.one (i := 15) (by kernel_rfl) rfl (fun K hK => ?_)
     go_simp
     refine hK _ _ (fun h => absurd h (by decide)) ?_
     clear hK K
     refine Late.done (by kernel_rfl) ?_ _
     go_simp
     obtain ⟨V3, hV3⟩ : ∃ V3, V3 = (((V1.setCell ⟨b8, 0, none⟩ (.int .i64 er)).setCell ⟨b8, 1, none⟩ (.slice pq pd pc)).setCell ⟨b8, 2, none⟩ (.int .i64 av)) := ⟨_, rfl⟩
     have BX8 : Hid (BoxN V3 b8 64 [.int .i64 er, .slice pq pd pc, .int .i64 av]) := zh (by rw [hV3]; exact put3_box rfl BX.o _ _ _)
     have HB3 : Hid (Below wr.heap.size wr V3) := zh (by rw [hV3]; exact put3_below HBV.o hb8 _ _ _)
     have HOC : Hid (er ≠ 0 ∨ (er = 0 ∧ ∃ b6, pp = some ⟨b6, 0, none⟩ ∧ wr.heap.size ≤ b6 ∧ b6 < V3.heap.size ∧ ArrS (fun x => (x < m0 ∨ base ≤ x) ∧ (Value.slice q k c').ownBlock ≠ some x) V3 b6 f d d.off d.len)) := zh (by
      rcases HCS.o with h | ⟨h0, b6, h1, h2, h3, h4⟩
      ·exact .inl h
      ·refine .inr ⟨h0, b6, h1, h2, by rw [hV3]; simp only [World.size_setCell]; exact h4.lt, ?_⟩
       rw [hV3]
       exact h4.keep (fun x hx hlt => ⟨by rw [Below.heap_setCell _ _ _ x hx.2, Below.heap_setCell _ _ _ x hx.2, Below.heap_setCell _ _ _ x hx.2], hx.1⟩) (by rw [Below.heap_setCell _ _ _ b6 h3, Below.heap_setCell _ _ _ b6 h3, Below.heap_setCell _ _ _ b6 h3]))
     rw [← hV3]
     clear hV3 HCS HBV BX x0 x1 x2 z0 z1 z2 hl8
     have e0 := BX8.o.row 0 _ rfl
     have e1 := BX8.o.row 1 _ rfl
     have e2 := BX8.o.row 2 _ rfl
     have hl8 := BX8.o.lt
     rcases HOC.o with hne | ⟨h0, b6, hpp, hb6, hne6, hA6⟩
     ·have hnb : (er != 0) = true := by simpa using hne
      have HE3 := zh (show sideE L l n = er by rw [HNX.o, ← HER.o, if_pos hne])
      have HNE := zh hne
      clear hne
      go_wp2_with fail
      go_ret
      exact ⟨grown_below (grown_trans (grown_of HB2.o _) HG.o) HB3.o, .inl ⟨by rw [HE3.o]; exact HNE.o, by rw [HE3.o]; rfl⟩⟩
     ·have HE3 := zh (show sideE L l n = firstO (L.drop (k + 1)) (l.drop (k + 1)) by rw [HNX.o, ← HER.o, if_neg (by omega)])
      subst hpp
      have hnb : (er != 0) = false := by simpa using h0
      have hA3 := HA.o.below HB3.o
      have hx3 := HX.o.below HB3.o HX.o.lt
      have HA3 := zh hA3
      have HX3 := zh hx3
      have HO3 := zh hA3.owns
      have y0 := hx3.row 0 _ rfl
      have y1 := hx3.row 1 _ rfl
      have y2 := hx3.row 2 _ rfl
      have y3 := hx3.row 3 _ rfl
      have y4 := hx3.row 4 _ rfl
      have hly := hx3.lt
      have HA6 := zh hA6
      have HB6 := zh hb6
      have hZ := BoxN.new V3 112 [.pointer (some ⟨b6, 0, none⟩)]
      have HZ := zh hZ
      have hsz3 : wr.heap.size ≤ V3.heap.size := HB3.o.size
      clear hA3 hx3 hA6 hb6 hZ h0
      go_wp2_with (at_builtin; refine wpList_append_lies _ rfl _ _ 52 rfl W2.heap.size 112 i1 z1 1 8 und52 hi1 hz1 hsz1 hby1 hzc1 (by decide) (.slice q k c') k ((bs.map cellP).flatMap id) rfl (HO3.o.alloc _) ⟨V3.heap.size, 0, none⟩ 1 1 [.pointer (some ⟨b6, 0, none⟩)] rfl rfl (World.news_of_block HZ.o) (by simp [Value.oneCell']) (by decide) (by unfold maxLen; omega) (by omega) (by simp; have := HW2.o; omega) (V3.heap.size + 1) (by simp) ?_; intro gg cc w2 hown2 hgrow2 hat2 hlt2; have hx4 := (HX3.o.alloc (Obj.cells #[Value.pointer (some ⟨b6, 0, none⟩)] 112)).kept hgrow2 (fun e => by have := HOF.o sb e.symm; have := HW2.o; omega); have u3 := hx4.row 3 _ rfl; have v3 := hx4.frozen 3; have hl4 := hx4.lt; have HX4 := zh hx4; have HOW2 := zh hown2; have HGR2 := zh hgrow2; have HAT2 := zh hat2; clear hx4 hown2 hgrow2 hat2)
      have HV4 : Hid (Below V3.heap.size V3 (V3.alloc (Obj.cells #[Value.pointer (some ⟨b6, 0, none⟩)] 112))) := zh ((Below.refl _ V3).alloc (Nat.le_refl _) _)
      have HS4 : Hid (W2.heap.size ≤ (V3.alloc (Obj.cells #[Value.pointer (some ⟨b6, 0, none⟩)] 112)).heap.size) := zh (by rw [World.size_alloc]; have := HW2.o; omega)
      refine ⟨⟨k + 1, some ⟨gg, 0, none⟩, cc, bs ++ [b6], by omega, by go_num, zh ?_, zh ?_, zh (HX4.o.set 3 _), HE3⟩, by simp [intOf]; omega⟩
      ·refine ((HA3.o.below HV4.o).push (b := b6) (by have := HW2.o; have := HB6.o; omega) (by have := HW2.o; omega) (fun e => by have := HOF.o _ e; have := HB6.o; omega) (fun h1 h2 => by rw [HEF.o, HED.o]; exact HA6.o.below HV4.o) (by rw [World.size_alloc]; have := HA6.o.lt; omega) HOW2.o HGR2.o (by rw [World.size_alloc]; exact HAT2.o)).kept (grown_set _) hm0 hsb (by have := HW2.o; omega)
      ·exact grown_trans (grown_belowN (grown_below (grown_below HG.o HB3.o) HV4.o) ((Below.refl _ _).grown HGR2.o HS4.o (fun j e => (HOF.o j e).1))) (grown_set _)
   ·have hkl : k = l.length := by omega
    have HN3 := zh (show sideE L l n = 0 by rw [HF.o]; exact firstO_end (by omega))
    have HA4 : Hid (ArrsAt m0 base W2.heap.size wr L l q c' l.length bs) := zh (by rw [← hkl]; exact HA.o)
    have hX : BoxN wr sb 54 [.slice fp L.length fc, nv, kv, .slice q l.length c', .int .i64 0] := by rw [← hkl]; exact HX.o
    have HX4 := zh hX
    have a2 := A2.o.kept HG.o (fun e => by injection e with e; omega)
    have p0 := a2.row 0 _ rfl
    have y4 := hX.row 4 _ rfl
    have z4 := hX.frozen 4
    have hla := a2.lt
    have hly := hX.lt
    have HW2 : Hid (base ≤ W2.heap.size) := zh (Nat.le_trans hbw HB2.o.size)
    clear hkl hX a2
    go_wp2_with fail
    go_ret
    exact ⟨grown_trans (grown_trans (grown_of HB2.o _) HG.o) (grown_set _), .inr ⟨HN3.o, rfl, ⟨W2.heap.size, q, c', bs, HW2.o, HX4.o.set 4 _, HA4.o.kept (grown_set _) hm0 hsb HW2.o⟩⟩⟩
structure SideR (L : List Fd) (l : List Dt) (n : Nat) : Prop where
 len : l.length = L.length
 few : n ≤ 4096
 well : ∀ (j : Nat) (h1 : j < L.length) (h2 : j < l.length), (checkW L[j] l[j]).1 = 0
 rows : ∀ (j : Nat) (h2 : j < l.length), l[j].len = n
theorem lenBad_false {l : List Dt} {n : Int} (h : lenBad l n = false) : ∀ (j : Nat) (h2 : j < l.length), l[j].len = n := by
 intro j hj
 unfold lenBad at h
 rw [List.any_eq_false] at h
 have := h l[j] (List.getElem_mem hj)
 simpa using this
theorem SideR.of {L : List Fd} {l : List Dt} {n : Int} (h : sideE L l n = 0) : 0 ≤ n ∧ SideR L l n.toNat := by
 unfold sideE at h
 by_cases h1 : n < 0 ∨ 4096 < n ∨ ¬ l.length = L.length
 ·rw [if_pos h1] at h; exact absurd h (by decide)
 rw [if_neg h1] at h
 by_cases h2 : lenBad l n = true
 ·rw [if_pos h2] at h; exact absurd h (by decide)
 rw [if_neg h2] at h
 refine ⟨by omega, by omega, by omega, fun j g1 g2 => ?_, fun j g2 => ?_⟩
 ·have h3 := firstO_zero h j g1 g2
  unfold openE at h3
  by_cases h4 : fieldE L[j] ≠ 0
  ·rw [if_pos h4] at h3; exact absurd h3 (by decide)
  ·rwa [if_neg h4] at h3
 ·have := lenBad_false (by simpa using h2) j g2
  omega
def noV : Vl := .mk true 0 ⟨#[]⟩ []
def cellV (L : List Fd) (l : List Dt) (c r : Nat) : Vl := if h : c < L.length ∧ c < l.length then (getA (L[c]'h.1) (l[c]'h.2) ((l[c]'h.2).off.toNat + r)).1 else noV
def ValPost (w : World) (v : Vl) (e : Ending) (w' : World) : Prop := ∃ pp pc, e = .returned (.agg #[.bool v.nl, .int .i64 v.num, .string v.tx, .slice pp v.kids.length pc]) ∧ VAt (fun b => w.heap.size ≤ b) w' v [.bool v.nl, .int .i64 v.num, .string v.tx, .slice pp v.kids.length pc] ∧ Below w.heap.size w w'
theorem val_back {fn : Func} {i : Nat} (hfn : fn.results = #[.cell i 135]) {w W : World} {rb : Nat} {v : Vl} {pp : Option Addr} {pc : Nat} (hbx : BoxN W rb 135 [.bool v.nl, .int .i64 v.num, .string v.tx, .slice pp v.kids.length pc]) (hv : VAt (fun b => w.heap.size ≤ b) W v [.bool v.nl, .int .i64 v.num, .string v.tx, .slice pp v.kids.length pc]) (hB : Below w.heap.size w W)
  {tmps : Array Value} (ht : tmps.getD i undef = .pointer (some ⟨rb, 0, none⟩)) : bodyPost Tryz.prog fn (ValPost w v) Exit.ret { tmps := tmps, defers := [] } W :=
 bodyPost_ret (val_res hfn ht hbx.row) rfl ⟨pp, pc, rfl, hv, hB⟩
set_option maxHeartbeats 4000000 in
theorem svalue_calls {w : World} {m0 base sb : Nat} {L : List Fd} {l : List Dt} {fv nv kv : Value} {n : Nat} (hs : SideAt m0 base w sb L l fv nv kv n) (hR : SideR L l n) (hT : Lib.Utf8Tabs 1 2 w) (c r : Nat) (hc : c < l.length) (hr : r < n) :
  Calls Tryz.prog 85 #[.pointer (some ⟨sb, 0, none⟩), .int .i64 c, .int .i64 r] w (ValPost w (cellV L l c r)) := by
 have hc1 : c < L.length := by rw [← hR.len]; exact hc
 obtain ⟨nb, q, cq, bs, hbn, hbx, hA⟩ := hs.at'
 obtain ⟨xb, xo, x, rfl, hcell, hat⟩ := hA.get c hc hc1 hc
 obtain ⟨-, hlm, hlM⟩ := hA.g.room
 simp only [List.length_map, hA.len] at hlm
 unfold maxLen at hlM
 have hw := hR.well c hc1 hc
 have hn := hR.rows c hc
 have hoff : 0 ≤ l[c].off := by
  obtain ⟨_, _, hfit⟩ := Fit.of (WellD.of hw).sizes
  rw [hfit.off]
  omega
 have HE := zh (show cellV L l c r = (getA L[c] l[c] (l[c].off.toNat + r)).1 by unfold cellV; rw [dif_pos ⟨hc1, hc⟩])
 obtain ⟨RES, hres⟩ : ∃ RES, RES = getA L[c] l[c] (l[c].off.toNat + r) := ⟨_, rfl⟩
 rw [HE.o, ← hres]
 obtain ⟨W1, hW, a0, hBW⟩ := boxes1 w 135 [.bool false, .int .i64 0, .string ⟨#[]⟩, .slice none 0 0]
 have HC : Hid (Calls Tryz.prog 93 #[.pointer (some ⟨x, 0, none⟩), .int .i64 r] W1 (GotPost W1 RES)) := zh (by
  rw [hres]
  have e1 : ((l[c].off.toNat : Nat) : Int) = l[c].off := by omega
  refine Get_calls (n := n) ?_ hw ⟨by omega, by rw [hn]; omega⟩ (Utf8Tabs_below hT hBW) hr hR.few
  rw [e1, ← hn]
  exact (hat.below hBW).base hBW)
 have HSZ : Hid (w.heap.size < W1.heap.size) := zh a0.lt
 have HW := zh hW
 have A0 := zh a0
 have HBW := zh hBW
 have y2 := hbx.row 3 _ rfl
 have hly := hbx.lt
 have hlx := World.block_lt_of_cell? w _ hcell
 simp only at hlx
 have hcl : c ≤ l.length ∧ l.length ≤ 9223372036854775807 := by omega
 obtain ⟨hcl1, hcl2⟩ := hcl
 have hrn : r ≤ 4096 := by have := hR.few; omega
 clear hs hR hT hbx hA hat hw hn hoff HE hres hW a0 hBW hbn hlm hlM
 go_enter Tryz.func85, Tryz.ntmps85
 go_wp2_with fail
 rw [← HW.o]
 clear HW
 refine HC.o.mono ?_
 rintro e W2 ⟨pp, pc, rfl, hv, hb2⟩
 have HV := zh (hv.mono (T := fun b => w.heap.size < b) fun b hb => Nat.lt_of_lt_of_le HSZ.o hb)
 have HB2 := zh (HBW.o.trans (hb2.mono HBW.o.size))
 have A2 := zh (A0.o.below hb2 A0.o.lt)
 have hl1 := A2.o.lt
 have m0 := A2.o.row 0 _ rfl
 have m1 := A2.o.row 1 _ rfl
 have m2 := A2.o.row 2 _ rfl
 have m3 := A2.o.row 3 _ rfl
 have z0 := A2.o.frozen 0
 have z1 := A2.o.frozen 1
 have z2 := A2.o.frozen 2
 have z3 := A2.o.frozen 3
 clear hv hb2 y2 hcell
 obtain ⟨v, er⟩ := RES
 simp only at HV ⊢
 go_wp2_with fail
 refine val_back (i := 6) rfl ((put4_box rfl A2.o _ _ _ _).alloc _) ?_ ((put4_below HB2.o (Nat.le_refl _) _ _ _ _).alloc (put4_below HB2.o (Nat.le_refl _) _ _ _ _).size _) rfl
 exact (VAt.keep (T := fun b => w.heap.size ≤ b) (fun b hb _ => ⟨put4_other (Nat.ne_of_gt hb) _ _ _ _, Nat.le_of_lt hb⟩) HV.o).below ((Below.refl _ _).alloc (Nat.le_refl _) _)
def keyA (L : List Fd) (l : List Dt) (r : Nat) : List Vl → List Int → Option (List Vl)
 | acc, [] => some acc
 | acc, c :: K => if (cellV L l c.toNat r).nl = true then none else keyA L l r (acc ++ [cellV L l c.toNat r]) K
theorem keyA_drop {L : List Fd} {l : List Dt} {r k : Nat} {acc : List Vl} {K : List Int} (h : k < K.length) : keyA L l r acc (K.drop k) = if (cellV L l K[k].toNat r).nl = true then none else keyA L l r (acc ++ [cellV L l K[k].toNat r]) (K.drop (k + 1)) := by
 rw [List.drop_eq_getElem_cons h, keyA]
theorem keyA_end {L : List Fd} {l : List Dt} {r k : Nat} {acc : List Vl} {K : List Int} (h : K.length ≤ k) : keyA L l r acc (K.drop k) = some acc := by
 rw [List.drop_eq_nil_of_le h]; rfl
def KeyPost (w : World) (o : Option (List Vl)) (e : Ending) (w' : World) : Prop := Below w.heap.size w w' ∧
 ((o = none ∧ e = .returned (.tuple #[.slice none 0 0, .bool false])) ∨
  ∃ l q c, o = some l ∧ e = .returned (.tuple #[.slice q l.length c, .bool true]) ∧ M.At (fun b => w.heap.size ≤ b) w' (.many 4 (l.map vlR)) (.slice q l.length c))
theorem res_tt {fn : Func} {i j : Nat} (hfn : fn.results = #[.tmp i, .tmp j]) {W : World} {tmps : Array Value} {u v : Value} (hu : tmps.getD i undef = u) (hv : tmps.getD j undef = v) :
  (results fn tmps).run Tryz.prog W = .ok (.tuple #[u, v]) W := by
 rw [Array.getD_eq_getD_getElem?] at hu hv
 simp [results, hfn, go_sem, hu, hv]
set_option maxHeartbeats 4000000 in
theorem key_calls {w : World} {m0 base sb : Nat} {L : List Fd} {l : List Dt} {fv nv kv : Value} {K : List Int} {n : Nat} (hs : SideAt m0 base w sb L l fv nv kv n) (hK : IntsAt w K kv) (hR : SideR L l n) (hT : Lib.Utf8Tabs 1 2 w) (hin : ∀ c ∈ K, 0 ≤ c ∧ c < l.length) (hKl : K.length ≤ 1000000000) (r : Nat) (hr : r < n) :
  Calls Tryz.prog 69 #[.pointer (some ⟨sb, 0, none⟩), .int .i64 r] w (KeyPost w (keyA L l r [] K)) := by
 obtain ⟨i1, z1, hi1, hz1, hzc1, hsz1, hby1⟩ := info135_parts
 obtain ⟨kp, kc, rfl, hk1, hk2, hkc⟩ := hK
 unfold maxLen at hk2
 have HKC := zh hkc
 have HS := zh hs
 have HR := zh hR
 have HT := zh hT
 have HIN := zh hin
 obtain ⟨nb, q0, cq, bs, -, hbx, -⟩ := hs.at'
 have y2 := hbx.row 2 _ rfl
 have hly := hbx.lt
 obtain ⟨RES, hres⟩ : ∃ RES, keyA L l r [] K = RES := ⟨_, rfl⟩
 have HE := zh hres
 rw [hres]
 clear hs hR hT hin hkc hbx hres
 go_enter Tryz.func69, Tryz.ntmps69
 go_wp2_with fail
 clear y2 hly
 go_loopw [6, 15] (fun o i wr => ∃ (k : Nat) (q : Option Addr) (c : Nat) (css : List (List Value)) (acc : List Vl), k ≤ K.length ∧ o = .slice q k c ∧ i = .int .i64 k ∧ Hid (acc.length = k) ∧ Hid (GrowS (fun b => w.heap.size ≤ b) 135 4 wr w.heap.size (.slice q k c) (acc.map vlR) css) ∧ Hid (Below w.heap.size w wr) ∧ Hid (RES = keyA L l r acc (K.drop k))) (fun _ i _ => K.length - (intOf i).toNat)
 case atStart => exact ⟨0, none, 0, [], [], by omega, rfl, rfl, zh rfl, zh (GrowS.nil _ _ _ _ _), zh (Below.refl _ _), zh (by rw [List.drop_zero]; exact HE.o.symm)⟩
 case round =>
  obtain ⟨k, q, c, css, acc, hk, rfl, rfl, HAL, HG, HB, HF⟩ := hrel
  by_cases hlt : k < K.length
  ·obtain ⟨-, kb, ko, rfl, hcell⟩ := HKC.o k hlt
   have HN := zh (show RES = if (cellV L l K[k].toNat r).nl = true then none else keyA L l r (acc ++ [cellV L l K[k].toNat r]) (K.drop (k + 1)) by rw [HF.o]; exact keyA_drop hlt)
   obtain ⟨hc0, hc1⟩ := HIN.o K[k] (List.getElem_mem hlt)
   have c0 := cell_below HB.o hcell
   clear hcell
   generalize K[k] = kk at *
   obtain ⟨cn, rfl⟩ := Int.eq_ofNat_of_zero_le hc0
   simp only [Int.toNat_natCast] at HN
   have HC := zh (svalue_calls (HS.o.below HB.o) HR.o (Utf8Tabs_below HT.o HB.o) cn r (by omega) hr)
   obtain ⟨v, hv⟩ : ∃ v, v = cellV L l cn r := ⟨_, rfl⟩
   rw [← hv] at HN HC
   clear hv hc0 hc1
   go_wp2_with fail
   refine HC.o.mono ?_
   rintro e W2 ⟨pp, pc, rfl, hva, hb2⟩
   have hsz := HB.o.size
   have HB2 := zh (HB.o.trans (hb2.mono HB.o.size))
   have HG2 := zh (HG.o.below hb2)
   have HV := zh hva
   have hsz2 := hb2.size
   have htk : (acc.map vlR).length = k := by rw [List.length_map]; exact HAL.o
   have HTK := zh htk
   have hown : W2.ownsRow w.heap.size 135 4 (.slice q k c) k (css.flatMap id) := by have := HG2.o.g.own; rwa [htk] at this
   have HO := zh hown
   have HOF := zh (fun j (e : (Value.slice q k c).ownBlock = some j) => HG.o.g.own.lt j e)
   clear hva hb2 htk hown HC c0
   obtain ⟨nl, num, tx, kids⟩ := v
   simp only [Vl.nl, Vl.num, Vl.tx, Vl.kids] at *
   cases nl with
   | true =>
    have HN2 := zh (show RES = none by rw [HN.o]; rfl)
    clear HN
    go_wp2_with fail
    exact bodyPost_ret (res_tt (i := 4) (j := 5) rfl rfl rfl) rfl ⟨HB2.o.alloc HB2.o.size _, .inl ⟨HN2.o, rfl⟩⟩
   | false =>
    have HN2 := zh (show RES = keyA L l r (acc ++ [.mk false num tx kids]) (K.drop (k + 1)) by rw [HN.o]; rfl)
    clear HN
    have HV2 : Hid (Below W2.heap.size W2 ((W2.alloc (.cells #[.bool false, .int .i64 num, .string tx, .slice pp kids.length pc] 135)).alloc (.cells #[.bool false, .int .i64 num, .string tx, .slice pp kids.length pc] 135))) := zh (((Below.refl _ W2).alloc (Nat.le_refl _) _).alloc (by rw [World.size_alloc]; omega) _)
    have HZ := zh (BoxN.new' (W := W2.alloc (.cells #[.bool false, .int .i64 num, .string tx, .slice pp kids.length pc] 135)) (n := W2.heap.size + 1) (by rw [World.size_alloc]) 135 [.bool false, .int .i64 num, .string tx, .slice pp kids.length pc])
    go_wp2_with (at_builtin; refine wpList_append_lies _ rfl _ _ 125 rfl w.heap.size 135 i1 z1 4 56 und125 hi1 hz1 hsz1 hby1 hzc1 (by decide) (.slice q k c) k (css.flatMap id) rfl ((HO.o.alloc _).alloc _) ⟨W2.heap.size + 1, 0, none⟩ 1 1 [.bool false, .int .i64 num, .string tx, .slice pp kids.length pc] rfl rfl (World.news_of_block HZ.o) (by simp [Value.oneCell']) (by decide) (by unfold maxLen; omega) (by omega) (by simp; omega) (W2.heap.size + 1 + 1) (by simp) ?_; intro gg cc w2 hown2 hgrow2 hat2 hlt2; have HOW2 := zh hown2; have HGR2 := zh hgrow2; have HAT2 := zh hat2; clear hown2 hgrow2 hat2)
    refine ⟨⟨k + 1, some ⟨gg, 0, none⟩, cc, css ++ [[.bool false, .int .i64 num, .string tx, .slice pp kids.length pc]], acc ++ [.mk false num tx kids], by omega, rfl, by go_num, zh (by simp [HAL.o]), zh ?_, zh ?_, HN2⟩, by simp [intOf]; omega⟩
    ·rw [List.map_append, List.map_cons, List.map_nil]
     refine (HG2.o.below HV2.o).push (M.AtL.mono (fun b hb => ⟨by omega, fun e => by have := HOF.o b e; omega⟩) (M.AtL.below HV2.o HV.o)) rfl HTK.o HOW2.o HGR2.o ?_
     rw [World.size_alloc, World.size_alloc]; exact HAT2.o
    ·exact (HB2.o.trans (HV2.o.mono HB2.o.size)).grown HGR2.o (by simp; omega) (fun j e => (HOF.o j e).1)
  ·have hkl : acc.length = k := HAL.o
   have HN := zh (show RES = some acc by rw [HF.o]; exact keyA_end (by omega))
   have hlist := GrowS.list (by decide) HG.o (fun b hb => hb)
   have HLI : Hid (M.At (fun b => w.heap.size ≤ b) wr (.many 4 (acc.map vlR)) (.slice q acc.length c)) := zh (by rw [hkl]; exact hlist)
   have HKL := zh hkl
   clear hkl hlist
   go_wp2_with fail
   exact bodyPost_ret (res_tt (i := 4) (j := 5) rfl rfl rfl) rfl ⟨HB.o, .inr ⟨acc, q, c, HN.o, by rw [HKL.o]; rfl, HLI.o⟩⟩
end Go.Fld
