import Derived.Test.YthocbeghnkacnaaGreatDoorT24
import Derived.Recover
set_option linter.unusedVariables false
set_option linter.unusedSimpArgs false
set_option linter.unnecessarySimpa false
set_option maxRecDepth 100000
set_option maxHeartbeats 16000000
namespace Go.Fld
open Go Go.RowKit Go.Proofs Go.ChangeShapes Go.WideShapes Go.ChangeAt Go.Shelf Go.Fld.Late
theorem zj6 {nn:Nat}(IH:zgC nn){w0 w:World}{ab lb fr i:Nat}{f:Fd}{d:Dt}{n:Int}{x:Int}(h:RdIn w0 w ab lb f d fr n (fr+i) x)(hdp:zaN d<=nn+1) :
  Calls Tryz.prog 59 #[.pointer (some ⟨ab,0,none⟩),.int .i64 i,.pointer (some ⟨lb,0,none⟩)] w (zcb w lb (zay (nn+1) f d (fr+i) x)):=by
 obtain⟨n',o',F⟩:=Fit.of (WellD.of h.well).sizes;have hrb:fr+i<=4096:=by have h1:=h.row.2;have h2:=F.few;have h3:=F.off;have h4:=F.len;omega
 have H:=zh h;have hlbw:=h.box.lt;obtain⟨fp,fc,bp,bc,kp,kc,dp,dc,hbx,hf,hd⟩:=h.arr.at';unfold zdt at hbx;have p13:=hbx.row 13 _ rfl;have hab:=hbx.lt;obtain⟨W1,hW,a0,hBW⟩:=zao w 39 [.bool false,.int .i64 0,.string ⟨#[]⟩,.slice none 0 0];have HW:=zh hW;have A0:=zh a0;have HBW:=zh hBW;have L1:=zh ((LeftAt.refl h.box).below hBW);have HVC:=zh (zmp IH (show RdIn w0 W1 ab lb f d fr n (fr+i) x from⟨h.b0.trans (hBW.mono h.b0.size),h.arr.below hBW,L1.o.box,h.far,h.x,h.well,h.row,h.tabs⟩) hdp);obtain⟨res,hres⟩:∃res,zay (nn+1) f d (fr+i) x=res:=⟨_,rfl⟩;rw[hres] at HVC ⊢;have hvc:=HVC.o;rw[show((fr+i:Nat):Int)=(fr:Int)+(i:Int) by omega] at hvc;have HVD:=zh hvc;clear h hW a0 hBW F hbx hf hd hdp IH hres HVC hvc
 go_in
 go_wp2_with fail;rw[<-HW.o];clear HW;refine HVD.o.mono ?_;rintro e W3 (⟨hn,rfl,z,hz⟩|⟨v,z,vs,hv,rfl,hvat,hz,hzb⟩)
 ·have HL3:=zh (L1.o.trans hz);have HN:=zh hn;clear hn hz;go_wp2_with fail;exact zaT HN.o HL3.o
 have HL3:=zh (L1.o.trans hz);have HN:=zh hv;have hlt:=A0.o.lt;have hne:w.heap.size≠lb:=by omega
 have f1:=A0.o.kept hz.grown (by intro e;cases e;omega);have HSZ2:=zh L1.o.grown.size;have HV:=zh hvat;obtain⟨pp,pc,rfl,-⟩:=hvat.shape;have F1:=zh f1;obtain⟨m0,m1,m2,m3⟩:=rr4 f1.row;obtain⟨z0,z1,z2,z3⟩:=ff4 f1;have hl1':=f1.lt;clear hz hv f1 hvat;go_wp2_with fail;exact zbS (i:=6) rfl (zaS rfl F1.o _ _ _ _) HN.o (HV.o.keep fun b hb hlt=>⟨zaQ (by have hb':W1.heap.size<=b:=hb;omega) _ _ _ _,(by have hb':W1.heap.size<=b:=hb;have:=HSZ2.o;omega)⟩) (LeftAt.put4 HL3.o (by omega) hne _ _ _ _) hzb rfl
theorem zmQ:∀nn,zgC nn
 | 0=>fun w0 w b lb g e i x h hdp=>by
  exfalso
  cases e with
  | mk len off nul bufs kids dict=>rw[zaN] at hdp;omega
 | nn+1=>fun w0 w b lb g e i x h hdp=>by
  obtain⟨n',o',F⟩:=Fit.of (WellD.of h.well).sizes;have ho:e.off=((o':Nat):Int):=F.off;have ht:e.off.toNat=o':=by rw[ho];rfl
  rw[ht] at h ⊢;rw[ho] at h;exact zj6 (zmQ nn) h hdp
end Go.Fld
