/-
  Whatever an aggregate and an array: rows taken in one by one come to what they come to all at once: FoldRows returns true. No conditions but the card's own: the listed variables hold what the program's text lays.
-/
import Derived.Test.YthocbeghnkacnaaGreatDoorT21
import Derived.Test.YthocbeghnkacnaaGreatDoorT37
set_option linter.unusedVariables false
set_option linter.unusedSimpArgs false
set_option linter.unnecessarySimpa false
set_option maxRecDepth 100000
set_option maxHeartbeats 16000000
namespace Go.Proofs.YthocbeghnkacnaaGreatDoor.foldRows
open Go Go.ChangeShapes Go.WideShapes Go.ChangeAt Go.Am Go.RowKit Go.Fld Go.Proofs
theorem isLaw:LawFrame.IsLaw Rows.foldRowsSpec 2:=⟨rfl,fun H ds h=>by match ds,h with | [_,_],_=>rfl⟩
theorem walk {H:Type}{enc:TypeId × Value->H}(W:World)(args:Array Value)(ds:List (DataW H))(told:LawFrame.Told enc Tryz.prog Tryz.f4 W args ds)(hL:laidMetH Tryz.prog zfl W) :
  Calls Tryz.prog 4 args W fun e W'=>e=.returned (.bool true)/\Below W.heap.size W W':=by
 obtain⟨⟨p,hA,_⟩,⟨base,hval⟩,hsz⟩:=told;rw[Tryz.params4] at hA hval hsz;obtain⟨v0,v1,d0,d1,p0,p1,rfl,rfl,-,h0,h1⟩:=trodAll_two hA;obtain⟨op,f,q,cap,rfl,hop,hf⟩:=Go.Fld.Go.Fld.start_open (hval 0 28 v0 rfl rfl) h0;obtain⟨d,bp,kp,dp,bc,kc,dc,rfl,hd,hdok⟩:=Go.Fld.Go.Fld.data_open (hval 1 46 v1 rfl rfl) h1;have hT:=zqD hL;exact zjN hop hf hd hdok hT (fun V hV=>zpb (hT.below hV))
theorem lifted (os:Os)(started:os.Started)(H:Type)(enc:TypeId × Value->H) :
  ReturnsInHanded {} Tryz.checked os 4 .any (fun w args=>(Rows.foldRowsSpec.pre enc Tryz.prog Tryz.f4 [] false w args/\laidMetH Tryz.prog zfl w)/\sizedMet enc Tryz.prog Tryz.f4 (OpenSpec.ofChange Rows.foldRowsSpec) false w args)
   (Rows.foldRowsSpec.post enc Tryz.prog Tryz.f4 false true false false):=
 LawFrame.lifted (C:=Tryz.checked) (tb:=4) (by kernel_rfl) started (by kernel_rfl) Tryz.func4 isLaw (by kernel_rfl) Tryz.underlying4 (by kernel_rfl)
  (by rw[Tryz.params4];intro t ht;simp at ht;rcases ht with rfl|rfl <;> exact⟨by kernel_rfl,of_decide_eq_true (by kernel_rfl)⟩)
  (ChangeSpec.witness_at (enc:=enc) (C:=Tryz.checked) (os:=os) (X:=fun w _=>laidMetH Tryz.prog zfl w) false (World.laidAll Tryz.prog os zfl) #[.agg #[.int .i64 0,.string ⟨#[]⟩,.bool false,.int .i64 0,.int .i64 0,.int .i64 0,.int .i64 0,.slice none 0 0],.agg #[.int .i64 0,.int .i64 0,.int .i64 0,.slice none 0 0,.slice none 0 0,.slice none 0 0]] 8 (World.laidAll_os _ _ _) (by kernel_rfl) (by kernel_rfl) (by kernel_rfl) (by kernel_rfl) (by kernel_rfl)
   (laidMet_laidAll #[.agg #[.int .i64 0,.string ⟨#[]⟩,.bool false,.int .i64 0,.int .i64 0,.int .i64 0,.int .i64 0,.slice none 0 0],.agg #[.int .i64 0,.int .i64 0,.int .i64 0,.slice none 0 0,.slice none 0 0,.slice none 0 0]] (by kernel_rfl) (by kernel_rfl))) walk
theorem over:Rows.FoldRowsSaid:=
 OpenClaim.holds_of_wide 4 Tryz.f4 rfl rfl rfl rfl rfl rfl rfl ⟨rfl,rfl,rfl,rfl,rfl⟩ rfl rfl rfl rfl rfl (by kernel_rfl) Tryz.func4 (by kernel_rfl)
  (of_decide_eq_true (by kernel_rfl)) (by unfold Func.isWrapper;first|(rw[if_pos (by decide +kernel)];kernel_rfl)|(rw[if_neg (by decide +kernel)];exact⟨rfl,rfl⟩))
  (fun os started H enc _=>lifted os started H enc)
theorem proved:Rows.FoldRowsCardSaid:=
 Claim7.holds_tied_plain_at .later [] [.data,.data,.pinned] true (true,"4f525ebba105611532a53ce3ba886340476828a5774afd8fb75cfb98c104eb76") true
  over (fun _ h=>by cases h) (by kernel_rfl) (fun _ h=>by cases h) foldRows_row_tie rfl ⟨rfl,rfl⟩ (by kernel_rfl) rfl
  (fun f fn hf hfn=>by
   obtain rfl:f=4:=Option.some.inj ((show Tryz.prog.funcNamed "colonnade/colonnadelaw18.FoldRows"=some 4 by kernel_rfl).symm.trans hf) |>.symm;obtain rfl:fn=Tryz.f4:=(Option.some.inj (Tryz.func4.symm.trans hfn)).symm;exact⟨by kernel_rfl,fun j t ht=>by
    rw[Tryz.params4] at ht;rcases j with _|_|j
    ·simp at ht;subst ht;kernel_rfl
    ·simp at ht;subst ht;kernel_rfl
    ·simp at ht⟩)
  (by kernel_rfl)
#print axioms proved
end Go.Proofs.YthocbeghnkacnaaGreatDoor.foldRows
