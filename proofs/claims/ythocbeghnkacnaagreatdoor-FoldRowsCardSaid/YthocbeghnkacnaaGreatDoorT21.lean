import Derived.Test.YthocbeghnkacnaaGreatDoorT02
import Derived.Test.YthocbeghnkacnaaGreatDoorT20
import Derived.SevenTiedAt
import Derived.Test.YthocbeghnkacnaaGreatDoorCards
import Derived.Test.YthocbeghnkacnaaGreatDoorTie
set_option linter.unusedVariables false
set_option linter.unusedSimpArgs false
set_option linter.unnecessarySimpa false
set_option maxRecDepth 100000
set_option maxHeartbeats 16000000
namespace Go.Fld
open Go Go.ChangeShapes Go.WideShapes Go.ChangeAt Go.RowKit Go.Proofs Go.Proofs.YthocbeghnkacnaaGreatDoor
noncomputable def zfl:List (String × DataW Unit):=[("unicode/utf8.acceptRanges",Rows.laid_unicode_utf8_acceptRanges),("colonnade/kind.says",Rows.laid_colonnade_kind_says),("unicode/utf8.first",Rows.laid_unicode_utf8_first)]
theorem zgz:∀k:Nat,k<=20->(Am.flatV (Rows.laid_colonnade_kind_says (H:=Unit)))[k*4+1]?=some (.int .i64 (zew k))/\(Am.flatV (Rows.laid_colonnade_kind_says (H:=Unit)))[k*4+2]?=some (.int .i64 (zcY k))/\(Am.flatV (Rows.laid_colonnade_kind_says (H:=Unit)))[k*4+3]?=some (.bool (decide (3<=k) && decide (k<=10)))
 | 0,_=>⟨by kernel_rfl,by kernel_rfl,by kernel_rfl⟩
 | 1,_=>⟨by kernel_rfl,by kernel_rfl,by kernel_rfl⟩
 | 2,_=>⟨by kernel_rfl,by kernel_rfl,by kernel_rfl⟩
 | 3,_=>⟨by kernel_rfl,by kernel_rfl,by kernel_rfl⟩
 | 4,_=>⟨by kernel_rfl,by kernel_rfl,by kernel_rfl⟩
 | 5,_=>⟨by kernel_rfl,by kernel_rfl,by kernel_rfl⟩
 | 6,_=>⟨by kernel_rfl,by kernel_rfl,by kernel_rfl⟩
 | 7,_=>⟨by kernel_rfl,by kernel_rfl,by kernel_rfl⟩
 | 8,_=>⟨by kernel_rfl,by kernel_rfl,by kernel_rfl⟩
 | 9,_=>⟨by kernel_rfl,by kernel_rfl,by kernel_rfl⟩
 | 10,_=>⟨by kernel_rfl,by kernel_rfl,by kernel_rfl⟩
 | 11,_=>⟨by kernel_rfl,by kernel_rfl,by kernel_rfl⟩
 | 12,_=>⟨by kernel_rfl,by kernel_rfl,by kernel_rfl⟩
 | 13,_=>⟨by kernel_rfl,by kernel_rfl,by kernel_rfl⟩
 | 14,_=>⟨by kernel_rfl,by kernel_rfl,by kernel_rfl⟩
 | 15,_=>⟨by kernel_rfl,by kernel_rfl,by kernel_rfl⟩
 | 16,_=>⟨by kernel_rfl,by kernel_rfl,by kernel_rfl⟩
 | 17,_=>⟨by kernel_rfl,by kernel_rfl,by kernel_rfl⟩
 | 18,_=>⟨by kernel_rfl,by kernel_rfl,by kernel_rfl⟩
 | 19,_=>⟨by kernel_rfl,by kernel_rfl,by kernel_rfl⟩
 | 20,_=>⟨by kernel_rfl,by kernel_rfl,by kernel_rfl⟩
 | k+21,h=>by omega
theorem znl:Am.flatV Rows.laid_unicode_utf8_first=(List.range 256).map fun c=>Value.int .u8 (Lib.firstT c):=by kernel_rfl
theorem zlj:Am.flatV (Rows.laid_unicode_utf8_acceptRanges (H:=Unit))=(List.range 16).flatMap fun i=>[Value.int .u8 (Lib.accLo i),.int .u8 (Lib.accHi i)]:=by kernel_rfl
theorem zhp {α β:Type}(f g:α->β):∀(l:List α) (i:Nat) (hi:i<l.length),(l.flatMap fun x=>[f x,g x])[2*i]?=some (f l[i])/\(l.flatMap fun x=>[f x,g x])[2*i+1]?=some (g l[i])
 | x :: r,0,_=>⟨rfl,rfl⟩
 | x :: r,i+1,hi=>by
  have:=zhp f g r i (by simpa using hi);rw[List.flatMap_cons];rw[show 2*(i+1)=2*i+1+1 by omega];exact this
theorem zqD {W:World}(h:laidMetH Tryz.prog zfl W):TabsAt W:=by
 have h:laidMet Tryz.prog zfl W:=h;have hs:=Am.reads_flat (Lib.laidMet.reads h (n:= "colonnade/kind.says") (d:=Rows.laid_colonnade_kind_says) (by simp[zfl])) (g:=0) (t:=189) (by kernel_rfl) (by kernel_rfl) (by kernel_rfl);have hf:=Am.reads_flat (Lib.laidMet.reads h (n:= "unicode/utf8.first") (d:=Rows.laid_unicode_utf8_first) (by simp[zfl])) (g:=1) (t:=207) (by kernel_rfl) (by kernel_rfl) (by kernel_rfl);have ha:=Am.reads_flat (Lib.laidMet.reads h (n:= "unicode/utf8.acceptRanges") (d:=Rows.laid_unicode_utf8_acceptRanges) (by simp[zfl])) (g:=2) (t:=210) (by kernel_rfl) (by kernel_rfl) (by kernel_rfl);refine⟨fun k hk=>hs _ _ (zgz k hk).2.2,fun k hk=>⟨hs _ _ (zgz k hk).1,hs _ _ (zgz k hk).2.1⟩,fun c hc=>hf c _ ?_,fun i hi=>?_⟩
 ·rw[znl,List.getElem?_map,List.getElem?_range hc];rfl
 ·have:=zhp (fun i=>Value.int .u8 (Lib.accLo i)) (fun i=>Value.int .u8 (Lib.accHi i)) (List.range 16) i (by simpa using hi);rw[List.getElem_range] at this;refine⟨ha _ _ ?_,ha _ _ ?_⟩
  ·rw[zlj];exact this.1
  ·rw[zlj];exact this.2
end Go.Fld
