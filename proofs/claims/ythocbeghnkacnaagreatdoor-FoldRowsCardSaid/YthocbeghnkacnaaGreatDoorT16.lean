import Derived.Test.YthocbeghnkacnaaGreatDoorT04
import Derived.BigQuiet
import Derived.Lib.ValidAsc
import Derived.Lib.EndianBits
import Derived.Deep.LoopGhost
import Derived.Deep.DeepBigQuietO
import Derived.Deep.DeepCutAuto
import Derived.Shelf.Unicode.DecodeSlow
set_option linter.unusedVariables false
set_option linter.unusedSimpArgs false
set_option linter.unnecessarySimpa false
set_option maxRecDepth 100000
set_option maxHeartbeats 16000000
namespace Go.Fld
open Go Go.RowKit Go.Proofs Go.ChangeShapes Go.WideShapes Go.ChangeAt Go.Shelf
def ByIn (w:World)(b o:Nat)(t:ByteArray):Prop:=∀i,i<t.size->w.cell? ⟨b,o+i,none⟩=some (.int .u8 ((t.get! i).toNat:Int))
theorem ByIn.below {w w':World}{b o:Nat}{t:ByteArray}(h:ByIn w b o t)(hb:Below w.heap.size w w'):ByIn w' b o t:=fun i hi=>zaa hb (h i hi)
theorem zqx (t:ByteArray)(k i:Nat)(h:k+i<t.size):(t.extract k t.size).get! i=t.get! (k+i):=by
 rw[<-Lib.getD_get!',<-Lib.getD_get!',Lib.ext_list,List.getD_eq_getElem?_getD,List.getD_eq_getElem?_getD,List.getElem?_drop]
theorem ByIn.drop {w:World}{b o:Nat}{t:ByteArray}(h:ByIn w b o t)(k:Nat):ByIn w b (o+k) (t.extract k t.size):=fun i hi=>by
 rw[Lib.ext_size] at hi;rw[zqx t k i (by omega),Nat.add_assoc];exact h (k+i) (by omega)
def ze2 (t:ByteArray):Nat:=Lib.leNat [t.get! 0,t.get! 1,t.get! 2,t.get! 3,t.get! 4,t.get! 5,t.get! 6,t.get! 7]
theorem zdi {w:World}{b o:Nat}{t:ByteArray}(h:ByIn w b o t)(h8:8<=t.size)(n c:Nat)(hn:n=t.size)(hc:n<=c) :
  Calls Tryz.prog 110 #[.slice (some ⟨b,o,none⟩) n c] w (fun e w'=>e=.returned (.int .u64 (ze2 t))/\∃q,w'=w.drewN q):=by
 have s0:=h 0 (by omega);have s1:=h 1 (by omega);have s2:=h 2 (by omega);have s3:=h 3 (by omega);have s4:=h 4 (by omega);have s5:=h 5 (by omega);have s6:=h 6 (by omega);have s7:=h 7 (by omega);rw[Nat.add_zero] at s0;unfold ze2;obtain⟨x0,hx0⟩:∃x0,t.get! 0=x0:=⟨_,rfl⟩;obtain⟨x1,hx1⟩:∃x1,t.get! 1=x1:=⟨_,rfl⟩;obtain⟨x2,hx2⟩:∃x2,t.get! 2=x2:=⟨_,rfl⟩;obtain⟨x3,hx3⟩:∃x3,t.get! 3=x3:=⟨_,rfl⟩;obtain⟨x4,hx4⟩:∃x4,t.get! 4=x4:=⟨_,rfl⟩;obtain⟨x5,hx5⟩:∃x5,t.get! 5=x5:=⟨_,rfl⟩;obtain⟨x6,hx6⟩:∃x6,t.get! 6=x6:=⟨_,rfl⟩;obtain⟨x7,hx7⟩:∃x7,t.get! 7=x7:=⟨_,rfl⟩;rw[hx0] at s0 ⊢;rw[hx1] at s1 ⊢;rw[hx2] at s2 ⊢;rw[hx3] at s3 ⊢;rw[hx4] at s4 ⊢;rw[hx5] at s5 ⊢;rw[hx6] at s6 ⊢;rw[hx7] at s7 ⊢;clear hx0 hx1 hx2 hx3 hx4 hx5 hx6 hx7 h;have h0:x0.toNat<256:=x0.toNat_lt;have h1:x1.toNat<256:=x1.toNat_lt;have h2:x2.toNat<256:=x2.toNat_lt;have h3:x3.toNat<256:=x3.toNat_lt;have h4:x4.toNat<256:=x4.toNat_lt;have h5:x5.toNat<256:=x5.toNat_lt;have h6:x6.toNat<256:=x6.toNat_lt;have h7:x7.toNat<256:=x7.toNat_lt;have HV:Hid (((Lib.leNat [x0,x1,x2,x3,x4,x5,x6,x7]:Nat):Int)=(x0.toNat:Int)+(x1.toNat:Int)*256+(x2.toNat:Int)*65536+(x3.toNat:Int)*16777216+(x4.toNat:Int)*4294967296+(x5.toNat:Int)*1099511627776+(x6.toNat:Int)*281474976710656+(x7.toNat:Int)*72057594037927936):=zh (by
  simp only[Lib.leNat]
  push_cast
  omega)
 obtain⟨L,hL⟩:∃L:Int,L=((Lib.leNat [x0,x1,x2,x3,x4,x5,x6,x7]:Nat):Int):=⟨_,rfl⟩;rw[<-hL] at HV ⊢;have HL:=zh hL;clear hL;have g0:(0:Int)<(n:Int):=by omega
 have g1:(1:Int)<(n:Int):=by omega
 have g2:(2:Int)<(n:Int):=by omega
 have g3:(3:Int)<(n:Int):=by omega
 have g4:(4:Int)<(n:Int):=by omega
 have g5:(5:Int)<(n:Int):=by omega
 have g6:(6:Int)<(n:Int):=by omega
 have g7:(7:Int)<(n:Int):=by omega
 clear hn h8
 go_in
 go_wp2_with fail
 go_big_quiet (fail)
 go_wp2_with fail;go_ret;refine⟨?_,_,rfl⟩;simp(disch:=omega) only[u64_or8,u64_or16,u64_or24,u64_or32,u64_or40,u64_or48,u64_or56];rw[HV.o];rfl
end Go.Fld
