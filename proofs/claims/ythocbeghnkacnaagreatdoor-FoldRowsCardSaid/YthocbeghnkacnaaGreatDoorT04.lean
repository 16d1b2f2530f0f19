import Derived.Test.YthocbeghnkacnaaGreatDoorT03
import Derived.OpenShut
import Derived.WalkSpells
import Derived.Deep.QuietTactic
import Derived.BigQuiet
import Derived.Lib.Strings
import Derived.Test.YthocbeghnkacnaaGreatDoorRows
set_option linter.unusedVariables false
set_option linter.unusedSimpArgs false
set_option linter.unnecessarySimpa false
set_option maxRecDepth 100000
set_option maxHeartbeats 16000000
namespace Go.Fld
open Go Go.RowKit Go.Proofs Go.ChangeShapes Go.WideShapes Go.ChangeAt
theorem zkH (c:Nat)(hc:c<256)(w:World):Calls Tryz.prog 93 #[.int .u8 (c:Int)] w fun e w'=>e=.returned (.bool (zhQ c))/\w'=w:=by
 go_in
 go_wp2
 all_goals go_ret
 all_goals (refine⟨congrArg (fun b=>Ending.returned (.bool b)) ?_,rfl⟩;rw[Bool.eq_iff_iff];simp[zhQ];omega)
theorem zaC (k:Int)(w:World):Calls Tryz.prog 95 #[.int .i64 k] w fun e w'=>e=.returned (.bool (decide (1<=k) && decide (k<=20)))/\w'=w:=by
 go_in
 go_wp2
 all_goals go_ret
 all_goals (refine⟨congrArg (fun b=>Ending.returned (.bool b)) ?_,rfl⟩;rw[Bool.eq_iff_iff];simp;omega)
theorem zlV {s:List UInt8}:∀ {i:Nat},zfr i s=true->∀k (hk:k<s.length),zeJ (i+k) s[k]=true:=by
 induction s with
 | nil=>intro i h k hk;exact absurd hk (Nat.not_lt_zero _)
 | cons c r ih=>
  intro i h k hk;simp only[zfr,Bool.and_eq_true] at h;cases k with
  | zero=>simpa using h.1
  | succ k=>
   have:=ih h.2 k (by simpa using hk);simpa [Nat.add_assoc,Nat.add_comm 1 k] using this
theorem zm3 {s:List UInt8}:∀ {i:Nat},(∀k (hk:k<s.length),zeJ (i+k) s[k]=true)->zfr i s=true:=by
 induction s with
 | nil=>intro i h;rfl
 | cons c r ih=>
  intro i h;simp only[zfr,Bool.and_eq_true];refine⟨h 0 (by simp),ih (fun k hk=>?_)⟩;have:=h (k+1) (by simpa using hk);simpa [Nat.add_assoc,Nat.add_comm 1 k] using this
theorem znY {s:ByteArray}{k:Nat}(hk:k<s.data.toList.length)(h:zeJ k s.data.toList[k]=false):zdw s=false:=by
 unfold zdw;cases ho:zfr 0 s.data.toList with
 | false=>rfl
 | true=>
  have:=zlV ho k hk;rw[Nat.zero_add,h] at this;cases this
theorem zm4 {s:ByteArray}(h:∀k (hk:k<s.data.toList.length),zeJ k s.data.toList[k]=true):zdw s=(decide (0<s.size) && decide (s.size<=48)):=by
 unfold zdw;rw[zm3 (i:=0) (fun k hk=>by rw[Nat.zero_add];exact h k hk)];rfl
theorem zlW (s:ByteArray)(hs:s.size<=maxLen)(w:World):Calls Tryz.prog 75 #[.string s] w fun e w'=>e=.returned (.bool (zdw s))/\w'=w:=by
 unfold maxLen at hs;have hsz:s.data.toList.length=s.size:=Array.length_toList
 go_in
 go_wp2_with fail
 go_loop [7] (fun i=>∃k:Nat,k<=s.size/\i=.int .i64 k/\Hid (∀j (hj:j<s.data.toList.length),j<k->zeJ j s.data.toList[j]=true)) (fun i=>s.size-(intOf i).toNat)
 case atStart=>exact⟨0,by omega,rfl,zh (fun j hj h=>absurd h (Nat.not_lt_zero _))⟩
 case round=>
  obtain⟨k,hk,rfl,H⟩:=hrel;by_cases hlt:k<s.size
  ·go_wp2_with fail;have hg:s.data.toList[k]'(by rw[hsz];exact hlt)=s[k]:=by rw[Array.getElem_toList];rfl
   have G:=zh hg;clear hg;generalize s[k]=c at G ⊢;have hc:=c.toNat_lt;refine(zkH c.toNat (by omega) w).mono ?_;rintro e w1 ⟨rfl,rfl⟩;have bad:∀b,zeJ k c=b->b=false->zdw s=false:=fun b h1 h2=>znY (k:=k) (by rw[hsz];exact hlt) (by rw[G.o,h1,h2]);have Bad:=zh bad;have next:zeJ k c=true->∀j (hj:j<s.data.toList.length),j<k+1->zeJ j s.data.toList[j]=true:=fun hok j hj hjk=>by
    by_cases e:j=k
    ·subst e;rw[G.o];exact hok
    ·exact H.o j hj (by omega)
   have Next:=zh next
   clear bad next
   cases hL:zhQ c.toNat with
   | false=>
    have E:=zh (Bad.o _ (by simp[zeJ,hL]) rfl);clear hL;go_wp2_with fail;go_ret;exact⟨by rw[E.o];rfl,rfl⟩
   | true=>
    by_cases h0:k=0
    ·subst h0;by_cases hd:48<=c.toNat/\c.toNat<=57
     ·have E:=zh (Bad.o _ (by simp[zeJ,hL,hd]) rfl);obtain⟨hd1,hd2⟩:=hd;clear hL;go_wp2_with fail;go_ret;exact⟨by rw[E.o];rfl,rfl⟩
     ·have E:=zh (Next.o (by simp[zeJ,hL];omega));by_cases hd1:48<=c.toNat
      ·have hd2:¬c.toNat<=57:=fun h=>hd ⟨hd1,h⟩;clear hL hd;go_wp2_with fail
       go_round
       case rel=>exact⟨1,by omega,by go_num,E⟩
       case measure=>simp[intOf];omega
      ·clear hL hd;go_wp2_with fail
       go_round
       case rel=>exact⟨1,by omega,by go_num,E⟩
       case measure=>simp[intOf];omega
    ·have E:=zh (Next.o (by simp[zeJ,hL,h0]));clear hL;go_wp2_with fail
     go_round
     case rel=>exact⟨k+1,by omega,by go_num,E⟩
     case measure=>simp[intOf];omega
  ·have hg:=zm4 (s:=s) (fun j hj=>H.o j hj (by rw[hsz] at hj;omega));have G:=zh hg;clear hg;have hemp:s.toList.isEmpty=decide (s.size=0):=by
    rw[Lib.toList_data,Bool.eq_iff_iff,List.isEmpty_iff_length_eq_zero,hsz];simp
   by_cases h0:s.size=0
   ·have hE:s.toList.isEmpty=true:=by rw[hemp];simp[h0]
    clear hemp;go_wp2_with fail;go_ret;refine⟨congrArg (fun b=>Ending.returned (.bool b)) ?_,rfl⟩;rw[G.o,h0];rfl
   ·have hE:s.toList.isEmpty=false:=by rw[hemp];simp[h0]
    clear hemp;go_wp2_with fail;go_ret;refine⟨congrArg (fun b=>Ending.returned (.bool b)) ?_,rfl⟩;rw[G.o];rw[Bool.eq_iff_iff];simp;omega
def SaysAt (w:World):Prop:=∀k:Nat,k<=20->w.cell? ⟨0,k*4+3,none⟩=some (.bool (decide (3<=k) && decide (k<=10)))
theorem SaysAt.below {w w':World}(h:SaysAt w)(hb:Below w.heap.size w w'):SaysAt w':=fun k hk=>zaa hb (h k hk)
def zbf (k wd id ix:Int)(n:Nat):Bool:=(decide (1<=k) && decide (k<=20)) && (zbV k wd && (zb4 k id ix && (decide (zbE k<=n) && decide (n<=zbH k))))
theorem zpc (f:Fd):zaU f=zbf f.k f.wd f.id f.ix f.kids.length:=rfl
theorem zbF {a b:Bool}(h:a=b):Ending.returned (.bool a)=Ending.returned (.bool b):=by rw[h]
theorem znZ (k wd id ix:Int)(n:Nat){p:Option Addr}{cap:Nat}(hs:¬(1<=k/\k<=20))(w:World) :
  Calls Tryz.prog 78 #[.agg #[.int .i64 k,.int .i64 wd,.int .i64 id,.int .i64 ix,.slice p n cap]] w fun e w'=>e=.returned (.bool (zbf k wd id ix n))/\Below w.heap.size w w':=by
 have hb:(decide (1<=k) && decide (k<=20))=false:=by rw[Bool.eq_false_iff];simp;omega
 have HE:=zh (show zbf k wd id ix n=false by unfold zbf;rw[hb];rfl);have HB:=zh hb;clear hb
 go_in
 go_wp2_with fail;refine(zaC k _).mono ?_;rintro e w1 ⟨rfl,rfl⟩;rw[HB.o];go_wp2_with fail;go_ret;exact⟨by rw[HE.o];rfl,(Below.refl _ w).alloc (Nat.le_refl _) _⟩
theorem zqg (wd id ix:Int)(n:Nat){p:Option Addr}{cap:Nat}(hn:n<=9223372036854775807)(hw:zah wd)(hi:zah id)(hx:zah ix)(w:World) :
  Calls Tryz.prog 78 #[.agg #[.int .i64 14,.int .i64 wd,.int .i64 id,.int .i64 ix,.slice p n cap]] w fun e w'=>e=.returned (.bool (zbf 14 wd id ix n))/\Below w.heap.size w w':=by
 unfold zah at hw hi hx;have HB:=zh (show(decide ((1:Int)<=14) && decide ((14:Int)<=20))=true by simp)
 go_in
 go_wp2_with fail;refine(zaC 14 _).mono ?_;rintro e w1 ⟨rfl,rfl⟩;rw[HB.o]
 go_wp2
 all_goals go_ret
 all_goals refine⟨zbF ?_,(Below.refl _ w).alloc (Nat.le_refl _) _⟩
 all_goals (rw[Bool.eq_iff_iff];simp[zbf,zbV,zb4,zbE,zbH];omega)
theorem zqh (wd id ix:Int)(n:Nat){p:Option Addr}{cap:Nat}(hn:n<=9223372036854775807)(hw:zah wd)(hi:zah id)(hx:zah ix)(w:World) :
  Calls Tryz.prog 78 #[.agg #[.int .i64 15,.int .i64 wd,.int .i64 id,.int .i64 ix,.slice p n cap]] w fun e w'=>e=.returned (.bool (zbf 15 wd id ix n))/\Below w.heap.size w w':=by
 unfold zah at hw hi hx;have HB:=zh (show(decide ((1:Int)<=15) && decide ((15:Int)<=20))=true by simp)
 go_in
 go_wp2_with fail;refine(zaC 15 _).mono ?_;rintro e w1 ⟨rfl,rfl⟩;rw[HB.o]
 go_wp2
 all_goals go_ret
 all_goals refine⟨zbF ?_,(Below.refl _ w).alloc (Nat.le_refl _) _⟩
 all_goals (rw[Bool.eq_iff_iff];simp[zbf,zbV,zb4,zbE,zbH];omega)
theorem zqi (wd id ix:Int)(n:Nat){p:Option Addr}{cap:Nat}(hn:n<=9223372036854775807)(hw:zah wd)(hi:zah id)(hx:zah ix)(w:World) :
  Calls Tryz.prog 78 #[.agg #[.int .i64 16,.int .i64 wd,.int .i64 id,.int .i64 ix,.slice p n cap]] w fun e w'=>e=.returned (.bool (zbf 16 wd id ix n))/\Below w.heap.size w w':=by
 unfold zah at hw hi hx;have HB:=zh (show(decide ((1:Int)<=16) && decide ((16:Int)<=20))=true by simp)
 go_in
 go_wp2_with fail;refine(zaC 16 _).mono ?_;rintro e w1 ⟨rfl,rfl⟩;rw[HB.o]
 go_wp2
 all_goals go_ret
 all_goals refine⟨zbF ?_,(Below.refl _ w).alloc (Nat.le_refl _) _⟩
 all_goals (rw[Bool.eq_iff_iff];simp[zbf,zbV,zb4,zbE,zbH];omega)
theorem zqj (wd id ix:Int)(n:Nat){p:Option Addr}{cap:Nat}(hn:n<=9223372036854775807)(hw:zah wd)(hi:zah id)(hx:zah ix)(w:World) :
  Calls Tryz.prog 78 #[.agg #[.int .i64 17,.int .i64 wd,.int .i64 id,.int .i64 ix,.slice p n cap]] w fun e w'=>e=.returned (.bool (zbf 17 wd id ix n))/\Below w.heap.size w w':=by
 unfold zah at hw hi hx;have HB:=zh (show(decide ((1:Int)<=17) && decide ((17:Int)<=20))=true by simp)
 go_in
 go_wp2_with fail;refine(zaC 17 _).mono ?_;rintro e w1 ⟨rfl,rfl⟩;rw[HB.o]
 go_wp2
 all_goals go_ret
 all_goals refine⟨zbF ?_,(Below.refl _ w).alloc (Nat.le_refl _) _⟩
 all_goals (rw[Bool.eq_iff_iff];simp[zbf,zbV,zb4,zbE,zbH];omega)
theorem zqk (wd id ix:Int)(n:Nat){p:Option Addr}{cap:Nat}(hn:n<=9223372036854775807)(hw:zah wd)(hi:zah id)(hx:zah ix)(w:World) :
  Calls Tryz.prog 78 #[.agg #[.int .i64 18,.int .i64 wd,.int .i64 id,.int .i64 ix,.slice p n cap]] w fun e w'=>e=.returned (.bool (zbf 18 wd id ix n))/\Below w.heap.size w w':=by
 unfold zah at hw hi hx;have HB:=zh (show(decide ((1:Int)<=18) && decide ((18:Int)<=20))=true by simp)
 go_in
 go_wp2_with fail;refine(zaC 18 _).mono ?_;rintro e w1 ⟨rfl,rfl⟩;rw[HB.o]
 go_wp2
 all_goals go_ret
 all_goals refine⟨zbF ?_,(Below.refl _ w).alloc (Nat.le_refl _) _⟩
 all_goals (rw[Bool.eq_iff_iff];simp[zbf,zbV,zb4,zbE,zbH];omega)
theorem zql (wd id ix:Int)(n:Nat){p:Option Addr}{cap:Nat}(hn:n<=9223372036854775807)(hw:zah wd)(hi:zah id)(hx:zah ix)(w:World) :
  Calls Tryz.prog 78 #[.agg #[.int .i64 20,.int .i64 wd,.int .i64 id,.int .i64 ix,.slice p n cap]] w fun e w'=>e=.returned (.bool (zbf 20 wd id ix n))/\Below w.heap.size w w':=by
 unfold zah at hw hi hx;have HB:=zh (show(decide ((1:Int)<=20) && decide ((20:Int)<=20))=true by simp)
 go_in
 go_wp2_with fail;refine(zaC 20 _).mono ?_;rintro e w1 ⟨rfl,rfl⟩;rw[HB.o]
 go_wp2
 all_goals go_ret
 all_goals refine⟨zbF ?_,(Below.refl _ w).alloc (Nat.le_refl _) _⟩
 all_goals (rw[Bool.eq_iff_iff];simp[zbf,zbV,zb4,zbE,zbH];omega)
theorem zm5 (k:Int)(wd id ix:Int)(n:Nat){p:Option Addr}{cap:Nat}(h1:1<=k)(h2:k<=13)(hn:n<=9223372036854775807)(hw:zah wd)(hi:zah id)(hx:zah ix)(w:World) :
  Calls Tryz.prog 78 #[.agg #[.int .i64 k,.int .i64 wd,.int .i64 id,.int .i64 ix,.slice p n cap]] w fun e w'=>e=.returned (.bool (zbf k wd id ix n))/\Below w.heap.size w w':=by
 unfold zah at hw hi hx;have HB:=zh (show(decide ((1:Int)<=k) && decide ((k:Int)<=20))=true by simp;omega)
 go_in
 go_wp2_with fail;refine(zaC k _).mono ?_;rintro e w1 ⟨rfl,rfl⟩;rw[HB.o]
 go_wp2
 all_goals go_ret
 all_goals refine⟨zbF ?_,(Below.refl _ w).alloc (Nat.le_refl _) _⟩
 all_goals (have e14:¬k=14:=by omega)
 all_goals (have e15:¬k=15:=by omega)
 all_goals (have e16:¬k=16:=by omega)
 all_goals (have e17:¬k=17:=by omega)
 all_goals (have e18:¬k=18:=by omega)
 all_goals (have e19:¬k=19:=by omega)
 all_goals (have e20:¬k=20:=by omega)
 all_goals (rw[Bool.eq_iff_iff];simp[zbf,zbV,zb4,zbE,zbH,e14,e15,e16,e17,e18,e19,e20];omega)
theorem zpd (wd id ix:Int)(n:Nat){p:Option Addr}{cap:Nat}(hn:n<=9223372036854775807)(hw:zah wd)(hi:zah id)(hx:zah ix)(w:World)(d:id<0) :
  Calls Tryz.prog 78 #[.agg #[.int .i64 19,.int .i64 wd,.int .i64 id,.int .i64 ix,.slice p n cap]] w fun e w'=>e=.returned (.bool (zbf 19 wd id ix n))/\Below w.heap.size w w':=by
 unfold zah at hw hi hx;have HB:=zh (show(decide ((1:Int)<=19) && decide ((19:Int)<=20))=true by simp);by_cases w0:wd=0
 ·subst w0
  go_in
  go_wp2_with fail;refine(zaC 19 _).mono ?_;rintro e w1 ⟨rfl,rfl⟩;rw[HB.o];go_wp2_with fail
  all_goals go_ret
  all_goals refine⟨zbF ?_,(Below.refl _ w).alloc (Nat.le_refl _) _⟩
  all_goals (rw[Bool.eq_iff_iff];simp[zbf,zbV,zb4,zbE,zbH];omega)
 ·have w0':(wd == 0)=false:=by simpa using w0
  go_in
  go_wp2_with fail;refine(zaC 19 _).mono ?_;rintro e w1 ⟨rfl,rfl⟩;rw[HB.o];go_wp2_with fail
  all_goals go_ret
  all_goals refine⟨zbF ?_,(Below.refl _ w).alloc (Nat.le_refl _) _⟩
  all_goals (rw[Bool.eq_iff_iff];simp[zbf,zbV,zb4,zbE,zbH];omega)
theorem zpe (wd id ix:Int)(n:Nat){p:Option Addr}{cap:Nat}(hn:n<=9223372036854775807)(hw:zah wd)(hi:zah id)(hx:zah ix)(w:World)(d:32<=id) :
  Calls Tryz.prog 78 #[.agg #[.int .i64 19,.int .i64 wd,.int .i64 id,.int .i64 ix,.slice p n cap]] w fun e w'=>e=.returned (.bool (zbf 19 wd id ix n))/\Below w.heap.size w w':=by
 unfold zah at hw hi hx;have HB:=zh (show(decide ((1:Int)<=19) && decide ((19:Int)<=20))=true by simp);by_cases w0:wd=0
 ·subst w0
  go_in
  go_wp2_with fail;refine(zaC 19 _).mono ?_;rintro e w1 ⟨rfl,rfl⟩;rw[HB.o];go_wp2_with fail
  all_goals go_ret
  all_goals refine⟨zbF ?_,(Below.refl _ w).alloc (Nat.le_refl _) _⟩
  all_goals (rw[Bool.eq_iff_iff];simp[zbf,zbV,zb4,zbE,zbH];omega)
 ·have w0':(wd == 0)=false:=by simpa using w0
  go_in
  go_wp2_with fail;refine(zaC 19 _).mono ?_;rintro e w1 ⟨rfl,rfl⟩;rw[HB.o];go_wp2_with fail
  all_goals go_ret
  all_goals refine⟨zbF ?_,(Below.refl _ w).alloc (Nat.le_refl _) _⟩
  all_goals (rw[Bool.eq_iff_iff];simp[zbf,zbV,zb4,zbE,zbH];omega)
theorem zpf (wd id ix:Int)(n:Nat){p:Option Addr}{cap:Nat}(hn:n<=9223372036854775807)(hw:zah wd)(hi:zah id)(hx:zah ix)(w:World)(d1:0<=id)(d2:id<32)(hix:¬(1<=ix/\ix<=20)) :
  Calls Tryz.prog 78 #[.agg #[.int .i64 19,.int .i64 wd,.int .i64 id,.int .i64 ix,.slice p n cap]] w fun e w'=>e=.returned (.bool (zbf 19 wd id ix n))/\Below w.heap.size w w':=by
 unfold zah at hw hi hx;have HB:=zh (show(decide ((1:Int)<=19) && decide ((19:Int)<=20))=true by simp);have HX:=zh (show(decide (1<=ix) && decide (ix<=20))=false by rw[Bool.eq_false_iff];simp;omega);have HI:=zh hix;clear hix;by_cases w0:wd=0
 ·subst w0
  go_in
  go_wp2_with fail;refine(zaC 19 _).mono ?_;rintro e w1 ⟨rfl,rfl⟩;rw[HB.o];go_wp2_with fail
  all_goals (refine(zaC ix _).mono ?_;rintro e w1 ⟨rfl,rfl⟩;rw[HX.o];go_wp2_with fail)
  all_goals go_ret
  all_goals refine⟨zbF ?_,(Below.refl _ w).alloc (Nat.le_refl _) _⟩
  all_goals (have hix:=HI.o;rw[Bool.eq_iff_iff];simp[zbf,zbV,zb4,zbE,zbH];omega)
 ·have w0':(wd == 0)=false:=by simpa using w0
  go_in
  go_wp2_with fail;refine(zaC 19 _).mono ?_;rintro e w1 ⟨rfl,rfl⟩;rw[HB.o];go_wp2_with fail
  all_goals (refine(zaC ix _).mono ?_;rintro e w1 ⟨rfl,rfl⟩;rw[HX.o];go_wp2_with fail)
  all_goals go_ret
  all_goals refine⟨zbF ?_,(Below.refl _ w).alloc (Nat.le_refl _) _⟩
  all_goals (have hix:=HI.o;rw[Bool.eq_iff_iff];simp[zbf,zbV,zb4,zbE,zbH];omega)
theorem zpg (wd id:Int)(m:Nat)(n:Nat){p:Option Addr}{cap:Nat}(hn:n<=9223372036854775807)(hw:zah wd)(hi:zah id)(w:World)(hS:SaysAt w)(d1:0<=id)(d2:id<32)(x1:1<=m)(x2:m<=20)(h1:3<=m)(h2:m<=10) :
  Calls Tryz.prog 78 #[.agg #[.int .i64 19,.int .i64 wd,.int .i64 id,.int .i64 (m:Int),.slice p n cap]] w fun e w'=>e=.returned (.bool (zbf 19 wd id m n))/\Below w.heap.size w w':=by
 unfold zah at hw hi;have HB:=zh (show(decide ((1:Int)<=19) && decide ((19:Int)<=20))=true by simp);have HX:=zh (show(decide (1<=(m:Int)) && decide ((m:Int)<=20))=true by simp;omega);have hc:w.cell? ⟨0,m*4+3,none⟩=some (.bool true):=by rw[hS m (by omega)];congr 2;rw[Bool.eq_iff_iff];simp;omega
 have hlt:0<w.heap.size:=World.block_lt_of_cell? w _ hc;by_cases w0:wd=0
 ·subst w0
  go_in
  go_wp2_with fail;refine(zaC 19 _).mono ?_;rintro e w1 ⟨rfl,rfl⟩;rw[HB.o];go_wp2_with fail
  all_goals (refine(zaC m _).mono ?_;rintro e w1 ⟨rfl,rfl⟩;rw[HX.o];go_wp2)
  all_goals go_ret
  all_goals refine⟨zbF ?_,(Below.refl _ w).alloc (Nat.le_refl _) _⟩
  all_goals (rw[Bool.eq_iff_iff];simp[zbf,zbV,zb4,zbE,zbH];omega)
 ·have w0':(wd == 0)=false:=by simpa using w0
  go_in
  go_wp2_with fail;refine(zaC 19 _).mono ?_;rintro e w1 ⟨rfl,rfl⟩;rw[HB.o];go_wp2_with fail
  all_goals (refine(zaC m _).mono ?_;rintro e w1 ⟨rfl,rfl⟩;rw[HX.o];go_wp2)
  all_goals go_ret
  all_goals refine⟨zbF ?_,(Below.refl _ w).alloc (Nat.le_refl _) _⟩
  all_goals (rw[Bool.eq_iff_iff];simp[zbf,zbV,zb4,zbE,zbH];omega)
theorem zph (wd id:Int)(m:Nat)(n:Nat){p:Option Addr}{cap:Nat}(hn:n<=9223372036854775807)(hw:zah wd)(hi:zah id)(w:World)(hS:SaysAt w)(d1:0<=id)(d2:id<32)(x1:1<=m)(x2:m<=20)(h0:¬(3<=m/\m<=10)) :
  Calls Tryz.prog 78 #[.agg #[.int .i64 19,.int .i64 wd,.int .i64 id,.int .i64 (m:Int),.slice p n cap]] w fun e w'=>e=.returned (.bool (zbf 19 wd id m n))/\Below w.heap.size w w':=by
 unfold zah at hw hi;have HB:=zh (show(decide ((1:Int)<=19) && decide ((19:Int)<=20))=true by simp);have HX:=zh (show(decide (1<=(m:Int)) && decide ((m:Int)<=20))=true by simp;omega);have hc:w.cell? ⟨0,m*4+3,none⟩=some (.bool false):=by rw[hS m (by omega)];congr 2;rw[Bool.eq_false_iff];simp;omega
 have hlt:0<w.heap.size:=World.block_lt_of_cell? w _ hc;have HI:=zh h0;clear h0;by_cases w0:wd=0
 ·subst w0
  go_in
  go_wp2_with fail;refine(zaC 19 _).mono ?_;rintro e w1 ⟨rfl,rfl⟩;rw[HB.o];go_wp2_with fail
  all_goals (refine(zaC m _).mono ?_;rintro e w1 ⟨rfl,rfl⟩;rw[HX.o];go_wp2)
  all_goals go_ret
  all_goals refine⟨zbF ?_,(Below.refl _ w).alloc (Nat.le_refl _) _⟩
  all_goals (have h0:=HI.o;rw[Bool.eq_iff_iff];simp[zbf,zbV,zb4,zbE,zbH];omega)
 ·have w0':(wd == 0)=false:=by simpa using w0
  go_in
  go_wp2_with fail;refine(zaC 19 _).mono ?_;rintro e w1 ⟨rfl,rfl⟩;rw[HB.o];go_wp2_with fail
  all_goals (refine(zaC m _).mono ?_;rintro e w1 ⟨rfl,rfl⟩;rw[HX.o];go_wp2)
  all_goals go_ret
  all_goals refine⟨zbF ?_,(Below.refl _ w).alloc (Nat.le_refl _) _⟩
  all_goals (have h0:=HI.o;rw[Bool.eq_iff_iff];simp[zbf,zbV,zb4,zbE,zbH];omega)
theorem zqm (wd id ix:Int)(n:Nat){p:Option Addr}{cap:Nat}(hn:n<=9223372036854775807)(hw:zah wd)(hi:zah id)(hx:zah ix)(w:World)(hS:SaysAt w) :
  Calls Tryz.prog 78 #[.agg #[.int .i64 19,.int .i64 wd,.int .i64 id,.int .i64 ix,.slice p n cap]] w fun e w'=>e=.returned (.bool (zbf 19 wd id ix n))/\Below w.heap.size w w':=by
 by_cases d1:0<=id
 ·by_cases d2:id<32
  ·by_cases hix:1<=ix/\ix<=20
   ·obtain⟨m,rfl⟩:=Int.eq_ofNat_of_zero_le (show 0<=ix by omega);by_cases h0:3<=m/\m<=10
    ·exact zpg wd id m n hn hw hi w hS d1 d2 (by omega) (by omega) h0.1 h0.2
    ·exact zph wd id m n hn hw hi w hS d1 d2 (by omega) (by omega) h0
   ·exact zpf wd id ix n hn hw hi hx w d1 d2 hix
  ·exact zpe wd id ix n hn hw hi hx w (by omega)
 ·exact zpd wd id ix n hn hw hi hx w (by omega)
theorem ziM {w:World}{f:Fd}{cs:List Value}(h:FdAt w f cs)(hS:SaysAt w) :
  ∃p cap,cs=[.string f.nm,.bool f.nl,.int .i64 f.k,.int .i64 f.wd,.int .i64 f.id,.int .i64 f.ix,.slice p f.kids.length cap]/\FdsAt w f.kids (.slice p f.kids.length cap) /\
  Calls Tryz.prog 78 #[.agg #[.int .i64 f.k,.int .i64 f.wd,.int .i64 f.id,.int .i64 f.ix,.slice p f.kids.length cap]] w fun e w'=>e=.returned (.bool (zaU f))/\Below w.heap.size w w':=by
 obtain⟨p,cap,h1,h2,h0,h3,h4,h5,h6⟩:=h.shape;refine⟨p,cap,h1,h2,?_⟩;obtain⟨_,_,e,hl,hm,_⟩:=h2;cases e;unfold maxLen at hm;have hn:f.kids.length<=9223372036854775807:=by omega
 rw[zpc];by_cases hs:1<=f.k/\f.k<=20
 ·rcases(show f.k<=13\/f.k=14\/f.k=15\/f.k=16\/f.k=17\/f.k=18\/f.k=19\/f.k=20 by omega) with h|h|h|h|h|h|h|h
  ·exact zm5 _ _ _ _ _ hs.1 h hn h4 h5 h6 w
  ·rw[h];exact zqg _ _ _ _ hn h4 h5 h6 w
  ·rw[h];exact zqh _ _ _ _ hn h4 h5 h6 w
  ·rw[h];exact zqi _ _ _ _ hn h4 h5 h6 w
  ·rw[h];exact zqj _ _ _ _ hn h4 h5 h6 w
  ·rw[h];exact zqk _ _ _ _ hn h4 h5 h6 w
  ·rw[h];exact zqm _ _ _ _ hn h4 h5 h6 w hS
  ·rw[h];exact zql _ _ _ _ hn h4 h5 h6 w
 ·exact znZ _ _ _ _ _ hs w
theorem zab {n:Nat}{w w':World}(h:Below n w w')(k:Nat):Below n w (w'.drewN k):=⟨h.os,h.tape,h.output,h.size,h.block⟩
theorem zaf {n:Nat}{w w':World}(h:Below n w w'):Below n w w'.drew:=⟨h.os,h.tape,h.output,h.size,h.block⟩
theorem zlX {w:World}{f:Fd}{cs:List Value}(h:FdAt w f cs)(hk:f.k=20->f.kids≠[]) :
  Calls Tryz.prog 79 #[.agg cs.toArray] w fun e w'=>e=.returned (.bool (zc5 f))/\Below w.heap.size w w':=by
 obtain⟨p,cap,rfl,h2,h0,h3,h4,h5,h6⟩:=h.shape;obtain⟨_,_,e,hl,hm,hC⟩:=h2;cases e;unfold maxLen at hm;obtain⟨nb,hnb⟩:∃b,b=zc5 f:=⟨_,rfl⟩;rw[<-hnb];unfold zc5 at hnb;have HN:=zh hnb;clear hnb h;by_cases k1:f.k=1
 ·have E:=zh (show nb=f.nl by rw[HN.o,k1];rfl);rw[k1]
  go_in
  go_wp2_with fail;go_ret;exact⟨by rw[E.o];rfl,(Below.refl _ w).alloc (Nat.le_refl _) _⟩
 ·by_cases k18:f.k=18
  ·have E:=zh (show nb = !f.nl by rw[HN.o,k18];rfl);rw[k18]
   go_in
   go_wp2_with fail;go_ret;exact⟨by rw[E.o];rfl,(Below.refl _ w).alloc (Nat.le_refl _) _⟩
  ·by_cases k20:f.k=20
   ·cases hkd:f.kids with
    | nil=>exact absurd hkd (hk k20)
    | cons g r=>
     have E:=zh (show nb=(f.nl == g.nl) by rw[HN.o,k20];simp[zc4,hkd]);rw[hkd] at hC hl;obtain⟨b,o,cs',e1,e2,e3⟩:=hC.get 0 (by simp);obtain⟨p',cap',hcs',_⟩:=e3.shape;have c1:=e2 1 (.bool g.nl) (by rw[hcs'];rfl);have e4:o+(0+7*0)+1=o+1:=by omega
     rw[e4] at c1;have hblk:=World.block_lt_of_cell? w _ c1;simp only at hblk;clear e2 e3 hcs' e4 hC hk hkd k1 k18;subst e1;rw[k20];clear k20;generalize hg:(g :: r).length=n at *;have hn:0<n:=by rw[<-hg];simp
     clear hg
     go_in
     go_wp2_with fail
     go_quiet (fail)
     go_wp2_with fail;go_ret;exact⟨by rw[E.o];rfl,zab ((Below.refl _ w).alloc (Nat.le_refl _) _) _⟩
   ·have E:=zh (show nb=true by rw[HN.o];simp[k1,k18,k20]);generalize f.k=k at *;clear hk;have n1:(k == 1)=false:=by simpa using k1
    have n18:(k == 18)=false:=by simpa using k18
    have n20:(k == 20)=false:=by simpa using k20
    clear k1 k18 k20
    go_in
    go_wp2_with fail;go_ret;exact⟨by rw[E.o];rfl,(Below.refl _ w).alloc (Nat.le_refl _) _⟩
theorem zn0 {w:World}{f:Fd}{cs:List Value}(h:FdAt w f cs)(s:ByteArray)(b o:Nat)(hs:w.cell? ⟨b,o+2,none⟩=some (.string s)) :
  Calls Tryz.prog 77 #[.agg cs.toArray,.pointer (some ⟨b,o,none⟩)] w fun e w'=>e=.returned (.bool (f.nm.toList == s.toList))/\Below w.heap.size w w':=by
 obtain⟨p,cap,rfl,_⟩:=h.shape;have hblk:=World.block_lt_of_cell? w _ hs;simp only at hblk;clear h
 go_in
 go_wp2_with fail;go_ret;exact⟨rfl,(Below.refl _ w).alloc (Nat.le_refl _) _⟩
theorem zlY {w:World}{l:List Fd}{v:Value}(h:FdsAt w l v)(s:ByteArray)(b o:Nat)(hs:w.cell? ⟨b,o+2,none⟩=some (.string s)) :
  Calls Tryz.prog 94 #[v,.func (.func 77) #[] #[.pointer (some ⟨b,o,none⟩)]] w fun e w'=>(∃i:Int,e=.returned (.int .i64 i)/\-1<=i/\i<=l.length/\decide (0<=i)=l.any fun g=>g.nm.toList == s.toList)/\Below w.heap.size w w':=by
 obtain⟨p,cap,rfl,hl,hm,hC⟩:=h;unfold maxLen at hm;have HC:=zh hC;have HS:=zh hs;clear hC hs
 go_in
 go_wp2_with fail
 go_loopw [8] (fun i wr=>∃k:Nat,k<=l.length/\i=.int .i64 k/\Below w.heap.size w wr/\Hid (∀j (hj:j<l.length),j<k->(l[j].nm.toList == s.toList)=false)) (fun i _=>l.length-(intOf i).toNat)
 case atStart=>exact⟨0,by omega,rfl,Below.refl _ w,zh (fun j hj h=>absurd h (Nat.not_lt_zero _))⟩
 case round=>
  obtain⟨k,hk,rfl,hb,H⟩:=hrel;by_cases hlt:k<l.length
  ·obtain⟨b',o',q,cap',rfl,e3,c0,c1,c2,c3,c4,c5,c6⟩:=(HC.o.below hb).seven k hlt;have hS:=HS.o;have hS:=zaa hb hS;have Next:Hid ((l[k].nm.toList == s.toList)=false->∀j (hj:j<l.length),j<k+1->(l[j].nm.toList == s.toList)=false):=zh (fun hf j hj hjk=>by
    by_cases e:j=k
    ·subst e;exact hf
    ·exact H.o j hj (by omega))
   have Hit:Hid ((l[k].nm.toList == s.toList)=true->(l.any fun g=>g.nm.toList == s.toList)=true):=zh (fun ht=>List.any_eq_true.2 ⟨l[k],List.getElem_mem hlt,ht⟩);have E3:=zh e3;clear e3;generalize l[k]=f at *;go_wp2_with fail;refine(zn0 E3.o s b o hS).mono ?_;rintro e w1 ⟨rfl,hb1⟩;have hb2:Below w.heap.size w w1:=hb.trans (hb1.mono hb.size);clear c0 c1 c2 c3 c4 c5 c6 hS;generalize hq:(f.nm.toList == s.toList)=t at *;cases t with
   | true=>
    go_wp2_with fail;go_ret;exact⟨⟨k,rfl,by omega,by omega,by rw[Hit.o trivial];simp⟩,hb2⟩
   | false=>
    have HN:=zh (Next.o rfl);go_wp2_with fail
    go_round
    case rel=>exact⟨k+1,by omega,by go_num,hb2,HN⟩
    case measure=>simp[intOf];omega
  ·go_wp2_with fail;go_ret;refine⟨⟨-1,rfl,by omega,by omega,?_⟩,hb⟩;have:(l.any fun g=>g.nm.toList == s.toList)=false:=by
    rw[List.any_eq_false];intro g hg;obtain⟨j,hj,rfl⟩:=List.getElem_of_mem hg;rw[H.o j hj (by omega)];simp
   rw[this];rfl
theorem zjo {w:World}{l:List Fd}{v:Value}(h:FdsAt w l v)(s:ByteArray)(b o:Nat)(hs:w.cell? ⟨b,o+2,none⟩=some (.string s)) :
  Calls Tryz.prog 76 #[v,.func (.func 77) #[] #[.pointer (some ⟨b,o,none⟩)]] w fun e w'=>e=.returned (.bool (l.any fun g=>g.nm.toList == s.toList))/\Below w.heap.size w w':=by
 have h':=h;obtain⟨p,cap,rfl,hl,hm,hC⟩:=h';unfold maxLen at hm;have HF:=zh h;have HS:=zh hs;clear hC hs h
 go_in
 go_wp2_with fail;refine(zlY HF.o s b o HS.o).mono ?_;rintro e w1 ⟨⟨i,rfl,i1,i2,hi⟩,hb⟩;have HI:=zh hi;clear hi;go_wp2_with fail;go_ret;exact⟨by rw[<-HI.o];rfl,hb⟩
def ziq (w:World)(b:Bool)(e:Ending)(w':World):Prop:=e=.returned (.bool b)/\Below w.heap.size w w'
theorem zei {w w':World}{a b:Bool}(h:a=b)(hb:Below w.heap.size w w'):ziq w b (.returned (.bool a)) w':=⟨by rw[h],hb⟩
def zaz (w:World)(v:Value)(e:Ending)(w':World):Prop:=e=.returned v/\w'=w
theorem zav {w w':World}{u v:Value}(h:u=v)(hw:w'=w):zaz w v (.returned u) w':=⟨by rw[h],hw⟩
end Go.Fld
