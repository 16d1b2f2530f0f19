import Derived.Test.YthocbeghnkacnaaGreatDoorT35
import Derived.RangeFuncBox
set_option linter.unusedVariables false
set_option linter.unusedSimpArgs false
set_option linter.unnecessarySimpa false
set_option maxRecDepth 100000
set_option maxHeartbeats 16000000
namespace Go.Fld
open Go Go.RowKit Go.Proofs Go.ChangeShapes Go.WideShapes Go.ChangeAt Go.Shelf Go.Fld.Late
mutual
def zd1:Vl->Vl->Bool
 | .mk n1 a1 t1 k1,.mk n2 a2 t2 k2=>if n1≠n2\/a1≠a2\/t1.toList≠t2.toList\/k1.length≠k2.length then false else zdk k1 k2
def zdk:List Vl->List Vl->Bool
 | a :: r,b :: s=>zd1 a b && zdk r s
 | _,_=>true
end
theorem znQ {k:Nat}{l m:List Vl}(h1:k<l.length)(h2:k<m.length):zdk (l.drop k) (m.drop k)=(zd1 l[k] m[k] && zdk (l.drop (k+1)) (m.drop (k+1))):=by
 rw[List.drop_eq_getElem_cons h1,List.drop_eq_getElem_cons h2,zdk]
theorem zo0 {l m:List Vl}{k:Nat}(h:l.length<=k):zdk (l.drop k) (m.drop k)=true:=by
 rw[List.drop_eq_nil_of_le h];unfold zdk;rfl
theorem zo1 {w:World}{a b:Vl}{cs ds:List Value}(ha:VAt (fun _=>True) w a cs)(hb:VAt (fun _=>True) w b ds)
  (ih:∀u ∈ a.kids,∀(v:Vl) (w:World) (cs ds:List Value),VAt (fun _=>True) w u cs->VAt (fun _=>True) w v ds->Calls Tryz.prog 13 #[.agg cs.toArray,.agg ds.toArray] w (zaM w (.bool (zd1 u v)))) :
  Calls Tryz.prog 13 #[.agg cs.toArray,.agg ds.toArray] w (zaM w (.bool (zd1 a b))):=by
 obtain⟨ap,ac,rfl,hka⟩:=ha.shape;obtain⟨bp,bc,rfl,hkb⟩:=hb.shape;obtain⟨n1,a1,t1,k1⟩:=a;obtain⟨n2,a2,t2,k2⟩:=b
 dsimp only[Vl.nl,Vl.num,Vl.tx,Vl.kids] at *
 obtain⟨-,hl1,hl2⟩:=zam hka;obtain⟨-,hm1,hm2⟩:=zam hkb;simp only[List.length_map] at hl1 hm1;unfold maxLen at hl2 hm2;obtain⟨W1,hW,a0,a1',hBW⟩:=zbt w 39 [.bool n1,.int .i64 a1,.string t1,.slice ap k1.length ac] 39 [.bool n2,.int .i64 a2,.string t2,.slice bp k2.length bc];have HW:=zh hW;have A0:=zh a0;have A1:=zh a1';have HBW:=zh hBW;have HKA:=zh hka;have HKB:=zh hkb;have HIH:=zh ih;have HS:=zh (show zd1 (.mk n1 a1 t1 k1) (.mk n2 a2 t2 k2)=if n1≠n2\/a1≠a2\/t1.toList≠t2.toList\/k1.length≠k2.length then false else zdk k1 k2 by rw[zd1]);obtain⟨RES,hR⟩:∃RES,zd1 (.mk n1 a1 t1 k1) (.mk n2 a2 t2 k2)=RES:=⟨_,rfl⟩;rw[hR] at HS ⊢;clear ha hb hka hkb ih hW a0 a1' hBW hR;by_cases hn:¬n1=n2
 ·have HE:=zh (show RES=false by rw[HS.o,if_pos (.inl hn)]);cases n1 <;> cases n2
  ·exact absurd rfl hn
  ·clear hn
   go_in
   go_wp2_with fail;rw[HE.o];go_ret;exact⟨rfl,by rw[<-HW.o];exact HBW.o⟩
  ·clear hn
   go_in
   go_wp2_with fail;rw[HE.o];go_ret;exact⟨rfl,by rw[<-HW.o];exact HBW.o⟩
  ·exact absurd rfl hn
 replace hn:n1=n2:=by simpa using hn
 by_cases ha:¬a1=a2
 ·have HE:=zh (show RES=false by rw[HS.o,if_pos (.inr (.inl ha))]);have q:(a1 != a2)=true:=by simpa using ha
  subst hn;clear ha
  go_in
  go_wp2_with fail;rw[HE.o];go_ret;exact⟨rfl,by rw[<-HW.o];exact HBW.o⟩
 replace ha:a1=a2:=by simpa using ha
 by_cases ht:¬t1.toList=t2.toList
 ·have HE:=zh (show RES=false by rw[HS.o,if_pos (.inr (.inr (.inl ht)))]);have q:(t1.toList == t2.toList)=false:=by simpa using ht
  subst hn;subst ha;clear ht
  go_in
  go_wp2_with fail;rw[HE.o];go_ret;exact⟨rfl,by rw[<-HW.o];exact HBW.o⟩
 replace ht:t1.toList=t2.toList:=by simpa using ht
 by_cases hk:¬k1.length=k2.length
 ·have HE:=zh (show RES=false by rw[HS.o,if_pos (.inr (.inr (.inr hk)))]);have q:(t1.toList == t2.toList)=true:=by simpa using ht
  have q2:((k1.length:Int) != (k2.length:Int))=true:=bne_iff_ne.2 (by omega);subst hn;subst ha;clear ht hk
  go_in
  go_wp2_with fail;rw[HE.o];go_ret;exact⟨rfl,by rw[<-HW.o];exact HBW.o⟩
 replace hk:k1.length=k2.length:=by simpa using hk
 have HE:=zh (show RES=zdk k1 k2 by rw[HS.o,if_neg (by rintro(h|h|h|h);exact h hn;exact h ha;exact h ht;exact h hk)]);have q:(t1.toList == t2.toList)=true:=by simpa using ht
 have q2:((k1.length:Int) != (k2.length:Int))=false:=by rw[hk];simp
 have hk':k1.length<=k2.length/\k2.length<=k1.length:=by omega
 obtain⟨hk1,hk2⟩:=hk';subst hn;subst ha;clear ht hk HS
 go_in
 go_wp2_with fail;rw[<-HW.o];clear HW q q2
 go_loopw [5] (fun i wr=>∃k:Nat,k<=k1.length/\i=.int .i64 k/\Hid (Below w.heap.size w wr)/\Hid (BoxN wr w.heap.size 39 [.bool n1,.int .i64 a1,.string t1,.slice ap k1.length ac])/\Hid (BoxN wr (w.heap.size+1) 39 [.bool n1,.int .i64 a1,.string t2,.slice bp k2.length bc])/\Hid (RES=zdk (k1.drop k) (k2.drop k))) (fun i _=>k1.length-(intOf i).toNat)
 case atStart=>exact⟨0,by omega,rfl,HBW,A0,A1,zh (by rw[List.drop_zero,List.drop_zero];exact HE.o)⟩
 case round=>
  obtain⟨k,hk,rfl,HB,R0,R1,HR⟩:=hrel;have r3:=R0.o.row 3 _ rfl;by_cases hlt:k<k1.length
  ·have hlt2:k<k2.length:=by omega
   obtain⟨xb,xo,xq,xc,rfl,-,s0,s1,s2,s3,hu⟩:=zcI HKA.o k hlt;obtain⟨yb,yo,yq,yc,rfl,-,t0,t1',t2',t3,hv⟩:=zcI HKB.o k hlt2;have HU:=zh hu;have HV:=zh hv;have HMEM:=zh (List.getElem_mem hlt);have HN:=zh (show RES=(zd1 k1[k] k2[k] && zdk (k1.drop (k+1)) (k2.drop (k+1))) by rw[HR.o];exact znQ hlt hlt2);generalize k1[k]=u at *;generalize k2[k]=v at *;obtain⟨wd,hwd⟩:=Fld.nm (wr.drew);have HBd:=zh (show Below w.heap.size w wd by rw[hwd];exact zaf HB.o);have R0d:=zh (show BoxN wd w.heap.size 39 [.bool n1,.int .i64 a1,.string t1,.slice (some ⟨xb,xo,none⟩) k1.length ac] by rw[hwd];exact R0.o);have R1d:=zh (show BoxN wd (w.heap.size+1) 39 [.bool n1,.int .i64 a1,.string t2,.slice (some ⟨yb,yo,none⟩) k2.length bc] by rw[hwd];exact R1.o);have HS0:=zh (And.intro R0d.o.row (And.intro R1d.o.row (And.intro (And.intro (zaa HBd.o s0) (And.intro (zaa HBd.o s1) (And.intro (zaa HBd.o s2) (zaa HBd.o s3)))) (And.intro (zaa HBd.o t0) (And.intro (zaa HBd.o t1') (And.intro (zaa HBd.o t2') (zaa HBd.o t3)))))));have HC:=zh (HIH.o u HMEM.o v wd _ _ (HU.o.below HBd.o) (HV.o.below HBd.o));have HWD:=zh hwd;clear s0 s1 s2 s3 t0 t1' t2' t3 hu hv hwd;go_wp2_with fail;refine Late.region (fun w'=>RowAt w' w.heap.size [.bool n1,.int .i64 a1,.string t1,.slice (some ⟨xb,xo,none⟩) k1.length ac]/\RowAt w' (w.heap.size+1) [.bool n1,.int .i64 a1,.string t2,.slice (some ⟨yb,yo,none⟩) k2.length bc]/\(w'.cell? ⟨xb,xo+k*4,none⟩=some (.bool u.nl)/\w'.cell? ⟨xb,xo+k*4+1,none⟩=some (.int .i64 u.num)/\w'.cell? ⟨xb,xo+k*4+2,none⟩=some (.string u.tx)/\w'.cell? ⟨xb,xo+k*4+3,none⟩=some (.slice xq u.kids.length xc))/\(w'.cell? ⟨yb,yo+k*4,none⟩=some (.bool v.nl)/\w'.cell? ⟨yb,yo+k*4+1,none⟩=some (.int .i64 v.num)/\w'.cell? ⟨yb,yo+k*4+2,none⟩=some (.string v.tx)/\w'.cell? ⟨yb,yo+k*4+3,none⟩=some (.slice yq v.kids.length yc))) (fun _=>false) (by kernel_rfl) ?_;rw[<-HWD.o];clear HWD;refine Late.ta (i:=0) (v:=?_) ?_ HS0.o ?_;rotate_left
   ·intro w' hS;clear hS;go_simp;rfl
   refine Late.ta (i:=1) (v:=?_) ?_ HS0.o ?_;rotate_left
   ·intro w' hS;obtain⟨h1,h2,h3,h4⟩:=hS;have p3:=h1 3 _ rfl;clear h1 h2 h3 h4;go_simp;rfl
   refine Late.ta (i:=2) (v:=?_) ?_ HS0.o ?_;rotate_left
   ·intro w' hS;clear hS;go_simp;rfl
   refine Late.ta (i:=3) (v:=?_) ?_ HS0.o ?_;rotate_left
   ·intro w' hS;clear hS;go_simp;rfl
   refine Late.ta (i:=4) (v:=?_) ?_ HS0.o ?_;rotate_left
   ·intro w' hS;obtain⟨h1,h2,⟨x0,x1,x2,x3⟩,h4⟩:=hS;clear h1 h2 h4;go_simp;rfl
   refine Late.ta (i:=5) (v:=?_) ?_ HS0.o ?_;rotate_left
   ·intro w' hS;clear hS;go_simp;rfl
   refine Late.ta (i:=6) (v:=?_) ?_ HS0.o ?_;rotate_left
   ·intro w' hS;obtain⟨h1,h2,h3,h4⟩:=hS;have p3:=h2 3 _ rfl;clear h1 h2 h3 h4;go_simp;rfl
   refine Late.ta (i:=7) (v:=?_) ?_ HS0.o ?_;rotate_left
   ·intro w' hS;clear hS;go_simp;rfl
   refine Late.ta (i:=8) (v:=?_) ?_ HS0.o ?_;rotate_left
   ·intro w' hS;clear hS;go_simp;rfl
   refine Late.ta (i:=9) (v:=?_) ?_ HS0.o ?_;rotate_left
   ·intro w' hS;obtain⟨h1,h2,h3,⟨x0,x1,x2,x3⟩⟩:=hS;clear h1 h2 h3;go_simp;rfl
   refine Late.on (i:=10) fun K hK=>?_;go_simp;refine HC.o.mono ?_;rintro e W2 ⟨rfl,hb2⟩;have S0:=zh (R0d.o.below hb2 R0d.o.lt);have S1:=zh (R1d.o.below hb2 R1d.o.lt);have HB2:=zh (HBd.o.trans (hb2.mono HBd.o.size));have hs:=HS0.o;have HS2:=zh (And.intro (hs.1.below hb2) (And.intro (hs.2.1.below hb2) (And.intro (And.intro (zaa hb2 hs.2.2.1.1) (And.intro (zaa hb2 hs.2.2.1.2.1) (And.intro (zaa hb2 hs.2.2.1.2.2.1) (zaa hb2 hs.2.2.1.2.2.2)))) (And.intro (zaa hb2 hs.2.2.2.1) (And.intro (zaa hb2 hs.2.2.2.2.1) (And.intro (zaa hb2 hs.2.2.2.2.2.1) (zaa hb2 hs.2.2.2.2.2.2)))))));clear hs hb2;refine hK _ _ (fun _=>HS2.o) ?_;clear hK K;refine Late.on (i:=11) fun K hK=>?_;go_simp;refine hK _ _ (fun _=>HS2.o) ?_;clear hK K;refine Late.done (by kernel_rfl) ?_ _;cases hsv:zd1 u v with
   | true=>
    have HN2:=zh (show RES=zdk (k1.drop (k+1)) (k2.drop (k+1)) by rw[HN.o,hsv];rfl);clear hsv;go_wp2_with fail;go_roundw
    case rel=>exact⟨k+1,by omega,by go_num,HB2,S0,S1,HN2⟩
    case measure=>simp[intOf];omega
   | false=>
    have HN2:=zh (show RES=false by rw[HN.o,hsv];rfl);clear hsv;go_wp2_with fail;rw[HN2.o];go_ret;exact⟨rfl,HB2.o⟩
  ·have HN:=zh (show RES=true by rw[HR.o];exact zo0 (by omega));go_wp2_with fail;rw[HN.o];go_ret;exact⟨rfl,HB.o⟩
mutual
theorem zo2 {P:Vl->Prop}(h:∀v:Vl,(∀u ∈ v.kids,P u)->P v):∀v:Vl,P v
 | .mk nl num tx kids=>h _ (zm1 h kids)
theorem zm1 {P:Vl->Prop}(h:∀v:Vl,(∀u ∈ v.kids,P u)->P v):∀l:List Vl,∀u ∈ l,P u
 | [],u,hu=>by cases hu
 | v :: r,u,hu=>by
  rcases List.mem_cons.1 hu with e|e
  ·rw[e];exact zo2 h v
  ·exact zm1 h r u e
end
theorem zim (a b:Vl)(w:World)(cs ds:List Value)(ha:VAt (fun _=>True) w a cs)(hb:VAt (fun _=>True) w b ds):Calls Tryz.prog 13 #[.agg cs.toArray,.agg ds.toArray] w (zaM w (.bool (zd1 a b))):=
 zo2 (P:=fun a=>∀(b:Vl) (w:World) (cs ds:List Value),VAt (fun _=>True) w a cs->VAt (fun _=>True) w b ds->Calls Tryz.prog 13 #[.agg cs.toArray,.agg ds.toArray] w (zaM w (.bool (zd1 a b))))
  (fun a ih b w cs ds ha hb=>zo1 ha hb ih) a b w cs ds ha hb
mutual
theorem zgR:∀a:Vl,zd1 a a=true
 | .mk n a t k=>by
  rw[zd1,if_neg (by simp)];exact zjj k
theorem zjj:∀l:List Vl,zdk l l=true
 | []=>by unfold zdk;rfl
 | v :: r=>by rw[zdk,zgR v,zjj r];rfl
end
def znR (o:Rd):Prop:=∀v y,o=some (v,y)->NumI v
theorem zjk (x:Int):zah (wrap64 x):=by unfold zah wrap64;omega
theorem zp6 (k:Int)(s:ByteArray)(r:Nat):zah (zcv k s r):=by
 unfold zcv
 repeat' split
 all_goals first|exact zjk _|exact zgu _ _ _|(unfold zah;omega)
theorem zfF:zah 0:=by unfold zah;omega
theorem zff {nl:Bool}{num:Int}{tx:ByteArray}(h:zah num):NumI (.mk nl num tx []):=.mk h (fun u hu=>by cases hu)
theorem zhL {nl:Bool}{num:Int}{tx:ByteArray}{l:List Vl}(hn:zah num)(h:∀v ∈ l,NumI v):NumI (.mk nl num tx l):=.mk hn h
theorem zhM {g:Nat->Int->Rd}(hg:∀i y,znR (g i y)):∀(n i:Nat) (acc:List Vl) (x:Int),(∀v ∈ acc,NumI v)->∀l z,zbD g n i acc x=some (l,z)->∀v ∈ l,NumI v
 | 0,i,acc,x,ha,l,z,h=>by
  unfold zbD at h;cases h;exact ha
 | n+1,i,acc,x,ha,l,z,h=>by
  unfold zbD at h;cases hgi:g i x with
  | none=>rw[hgi] at h;cases h
  | some p=>
   obtain⟨v,y⟩:=p;rw[hgi] at h;have h1:=hg i x v y hgi;exact zhM hg n (i+1) (acc ++ [v]) y (fun u hu=>by
    rcases List.mem_append.1 hu with e|e
    ·exact ha u e
    ·simp at e;rw[e];exact h1) l z h
theorem zkh:∀(n:Nat) {f:Fd} {d:Dt} {r:Nat} {x:Int},znR (zay n f d r x)
 | 0,f,d,r,x=>fun v y h=>by cases h
 | n+1,f,d,r,x=>fun v y h=>by
  have own:∀(k i:Nat) (y:Int),znR (zdE (zay n) f d k i y):=fun k i y u z h=>by
   unfold zdE at h;split at h
   ·cases h
   ·exact zkh n u z h
  unfold zay at h;by_cases hn:zaF f.k d.bufs r=true
  ·rw[if_pos hn] at h;split at h
   ·cases h
   ·cases h;exact zff zfF
  rw[if_neg hn,zmO] at h;by_cases h12:f.k=12\/f.k=13
  ·rw[if_pos h12] at h;unfold zgA at h;split at h
   ·cases h
   ·split at h
    ·cases h
    ·split at h
     ·cases h
     ·cases h;exact zff zfF
  rw[if_neg h12] at h;by_cases h15:f.k=15\/f.k=16
  ·rw[if_pos h15] at h;unfold zgB at h;split at h
   ·cases h
   ·split at h
    ·cases h
    ·obtain⟨⟨l,z⟩,h2,h3⟩:=Option.map_eq_some_iff.1 h;cases h3;exact zhL zfF (zhM (own 0) _ _ [] _ (fun v hv=>by cases hv) l _ h2)
  rw[if_neg h15] at h;by_cases h17:f.k=17
  ·rw[if_pos h17] at h;unfold zeP at h;split at h
   ·cases h
   ·obtain⟨⟨l,z⟩,h2,h3⟩:=Option.map_eq_some_iff.1 h;cases h3;exact zhL zfF (zhM (fun k y=>own k r y) _ _ [] _ (fun v hv=>by cases hv) l _ h2)
  rw[if_neg h17] at h;by_cases h18:f.k=18
  ·rw[if_pos h18] at h;unfold zek at h;split at h
   ·cases h
   ·split at h
    ·cases h
    ·obtain⟨⟨u,z⟩,h2,h3⟩:=Option.map_eq_some_iff.1 h;cases h3;have hb:=za1 (buf d 0) r;exact zhL (by unfold zah;omega) (fun w hw=>by simp at hw;rw[hw];exact own _ _ _ u _ h2)
  rw[if_neg h18] at h;by_cases h19:f.k=19
  ·rw[if_pos h19] at h;unfold zfN at h;split at h
   ·cases h
   ·exact own _ _ _ v y h
  rw[if_neg h19] at h;by_cases h20:f.k=20
  ·rw[if_pos h20] at h;unfold zfO at h;split at h
   ·cases h
   ·exact own _ _ _ v y h
  rw[if_neg h20] at h;unfold flatV at h;split at h
  ·cases h
  ·split at h
   ·cases h;exact zff (zjk _)
   ·split at h
    ·split at h
     ·cases h
     ·cases h;exact zff zfF
    ·cases h;exact zff (zp6 _ _ _)
theorem zjl:∀(m:Nat) {f:Fd} {v:Vl},okN m f v=true->VFew v
 | 0,f,v,h=>by rw[okN] at h;cases h
 | m+1,f,v,h=>by
  have hl:=zda h;cases hn:v.nl with
  | true=>
   rw[znw h hn];exact .mk (Nat.zero_le _) (fun u hu=>by cases hu)
  | false=>
   by_cases hd:f.k=19\/f.k=20
   ·exact zjl m (zfz h hn hd)
   by_cases h18:f.k=18
   ·obtain⟨-,-,-,h4,h5⟩:=zgF h hn h18;refine .mk hl (fun u hu=>?_);rw[h4] at hu;rw[List.mem_singleton.1 hu];exact zjl m h5
   by_cases hli:f.k=15\/f.k=16\/f.k=17
   ·obtain⟨-,-,-,-,h5⟩:=zeh h hn hli;refine .mk hl (fun u hu=>?_);obtain⟨i,hi,e⟩:=List.getElem_of_mem hu;rw[<-e];exact zjl m (h5 i hi)
   ·refine .mk hl (fun u hu=>?_);by_cases ht:f.k=12\/f.k=13\/f.k=14
    ·rw[(zpQ h hn ht).2] at hu;cases hu
    ·rw[(zpR h hn hd h18 hli ht).2.1] at hu;cases hu
def zcd (M:Nat)(f:Fd)(d:Dt)(fr:Nat)(s:Agg)(rows:List Nat):Agg:=rows.foldl (fun s i=>zaJ (zbs M) s (zcJ f d (fr+i)).1) s
theorem zkA (M:Nat)(f:Fd)(d:Dt)(fr:Nat)(s:Agg)(rows:List Nat)(i:Nat):zcd M f d fr s (rows ++ [i])=zaJ (zbs M) (zcd M f d fr s rows) (zcJ f d (fr+i)).1:=by
 unfold zcd;rw[List.foldl_append];rfl
theorem zeI (M:Nat)(f:Fd)(d:Dt)(fr:Nat):∀(rows:List Nat) (s:Agg),(zcd M f d fr s rows).all=s.all+rows.length/\zbe (zcd M f d fr s rows)=zbe s
 | [],s=>⟨rfl,rfl⟩
 | i :: r,s=>by
  have h:=zeI M f d fr r (zaJ (zbs M) s (zcJ f d (fr+i)).1);rw[ziH,ziI] at h;refine⟨?_,h.2⟩;rw[List.length_cons];have:=h.1;show(zcd M f d fr (zaJ (zbs M) s (zcJ f d (fr+i)).1) r).all=_;omega
theorem znS {s t:Agg}(h:zbe s=zbe t):zdL s=zdL t:=by
 cases s <;> cases t <;> first|rfl|(simp[zbe] at h)
theorem znT {M:Nat}{O S:Nat->Prop}{w0 w:World}{ab b zb fr n:Nat}{f:Fd}{d:Dt}{s:Agg}{rows:List Nat}{p:Option Addr}{rc:Nat}
  (hA:ArrS S w ab f d fr n) (hSC:∀k,S k->¬zas b zb k) (hB0:Below w0.heap.size w0 w) (hfb:w0.heap.size<=b/\w0.heap.size<=zb) (hab:¬zas b zb ab) (hwell:(zap f d).1=0)
  (hrows:∀i ∈ rows,i<n/\d.off.toNat<=fr+i/\((fr+i:Nat):Int)<d.off+d.len/\VFew (zcJ f d (fr+i)).1/\NumI (zcJ f d (fr+i)).1) (hn:n<=4096)
  (hp:∀j (h:j<rows.length),∃rb ro,p=some ⟨rb,ro,none⟩/\w.cell? ⟨rb,ro+j,none⟩=some (.int .i64 (rows[j]:Int))/\¬zas b zb rb) (hlen:rows.length<=2147483647)
  (hs:AggAt O w b zb s) (ho:AggOk M s) (hroom:s.all+rows.length<=2147483647) (hS:SaysAt w0/\Lib.Utf8Tabs 1 2 w0) :
  Calls Tryz.prog 27 #[.pointer (some ⟨ab,0,none⟩),.slice p rows.length rc,.func (.method "colonnade/fold.take") #[.iface (zbe s) (.pointer (some ⟨b,0,none⟩))] #[]] w (zb6 O w b zb (zcd M f d fr s rows)):=by
 have HA:=zh hA;have HSC:=zh hSC;have HB0:=zh hB0;have HFB:=zh hfb;have HAB:=zh hab;have HW:=zh hwell;have HRW:=zh hrows;have HP:=zh hp;have HS:=zh hs;have HO:=zh ho;have HSS:=zh hS;have hme:∀w:World,(method 390 (zbe s) (.pointer (some ⟨b,0,none⟩)) "colonnade/fold.take").run Tryz.prog w=.ok (zdL s,.pointer (some ⟨b,0,none⟩)) w:=fun w=>(zfq s b w).1;have hen:=(zgP s).1;obtain⟨T,hT⟩:=Fld.nm (zbe s);obtain⟨FN,hF⟩:∃F,F=zdL s:=⟨_,rfl⟩;rw[<-hT,<-hF] at hme;rw[<-hF] at hen;rw[<-hT];have HF:=zh hF;clear hA hSC hB0 hfb hab hwell hrows hp hs ho hS hT hF
 go_in
 go_wp2_with fail
 go_loopw [12] (fun i wr=>∃k:Nat,k<=rows.length/\i=.int .i64 k/\Hid (Chg (zas b zb) w wr)/\Hid (AggAt O wr b zb (zcd M f d fr s (rows.take k)))/\Hid (AggOk M (zcd M f d fr s (rows.take k)))) (fun i _=>rows.length-(intOf i).toNat)
 case atStart=>exact⟨0,by omega,rfl,zh (Chg.refl _ _),HS,HO⟩
 case round=>
  obtain⟨k,hk,rfl,HC,HG,HK⟩:=hrel;by_cases hlt:k<rows.length
  ·obtain⟨rb,ro,rfl,hcell,hrb⟩:=HP.o k hlt;obtain⟨r1,r2,r3,r4,r5⟩:=HRW.o rows[k] (List.getElem_mem hlt);have hc:wr.cell? ⟨rb,ro+k,none⟩=some (.int .i64 (rows[k]:Int)):=by
    have hb:=HC.o.block rb (zp5 hcell) hrb;unfold World.cell? at hcell ⊢;simp only at hcell ⊢;rw[hb];exact hcell
   have HBr:=zh (HC.o.base HB0.o (fun k hk=>by have:=HFB.o;rcases hk with e|e <;> omega));have HGET:=zh (zox (w:=wr) (HA.o.keep (T:=S) (fun j hj hl=>⟨HC.o.block j hl (HSC.o j hj),hj⟩) (HC.o.block ab HA.o.lt HAB.o)).arr HW.o ⟨r2,r3⟩ (Utf8Tabs_below HSS.o.2 HBr.o) r1 hn);have HR4:=zh r4;have HR5:=zh r5;have hkI:(k:Int)<(rows.length:Int):=by omega
   have HTK:=zh (List.take_succ_eq_append_getElem hlt);clear hcell r2 r3 r4 r5;generalize hrk:rows[k]=i at *;have HRK:=zh hrk;clear hrk;have HVE:=zh (zkA M f d fr s (rows.take k) i);obtain⟨a,ha⟩:=Fld.nm (zcJ f d (fr+i));rw[<-ha] at HGET HR4 HR5 HVE;clear ha;go_wp2_with fail;refine HGET.o.mono ?_;rintro e w2 ⟨pp,pc,rfl,hv,hb2⟩;have HB2:=zh hb2;have HV:=zh hv;obtain⟨W3,hW3,-,hB3⟩:=zao w2 39 [.bool a.1.nl,.int .i64 a.1.num,.string a.1.tx,.slice pp a.1.kids.length pc];have HW3:=zh hW3;have HB23:=zh (hb2.trans (hB3.mono hb2.size));have HTAKE:=zh (zlJ (M:=M) (HG.o.below HB23.o) HK.o (v:=a.1) (cs:=[.bool a.1.nl,.int .i64 a.1.num,.string a.1.tx,.slice pp a.1.kids.length pc]) (fun W hW=>by
    have hb:=hW.base (HBr.o.trans (HB23.o.mono HBr.o.size)) (fun k hk=>by have:=HFB.o;rcases hk with e|e <;> omega);exact⟨HSS.o.1.below hb,Utf8Tabs_below HSS.o.2 hb⟩) (fun W hW=>(HV.o.below hB3).keep (fun k hk hl=>⟨hW.block k hl (fun h=>by
     have h1:=HG.o.lt b HG.o.own.1;have h2:=HG.o.lt zb HG.o.own.2;rcases h with e|e <;> omega),trivial⟩)) HR4.o HR5.o)
   rw[znS (zeI M f d fr (rows.take k) s).2,<-HF.o,<-HVE.o] at HTAKE;clear hb2 hv hW3 hB3;go_wp2_with fail;rw[<-HW3.o];refine HTAKE.o.mono ?_;rintro e w4 ⟨rfl,hc4,ha4⟩;have HC4:=zh (HC.o.trans ((Chg.below HB23.o).trans hc4));have HA4:=zh ha4;clear hc4 ha4;go_wp2_with fail;refine⟨⟨k+1,by omega,by go_num,HC4,zh ?_,zh ?_⟩,by simp[intOf];omega⟩
   ·rw[HTK.o];exact HA4.o
   ·rw[HTK.o,HVE.o];refine zh0 HK.o ?_ HR4.o HR5.o;rw[(zeI M f d fr (rows.take k) s).1,List.length_take];omega
  ·have hkl:k=rows.length:=by omega
   have HE:=zh (show zcd M f d fr s (rows.take k)=zcd M f d fr s rows by rw[hkl,List.take_length]);clear hkl;go_wp2_with fail;go_end0;rw[<-HE.o];exact⟨rfl,HC.o,HG.o⟩
theorem zki {w0 w:World}{ab:Nat}{f:Fd}{d:Dt}{fr n:Int}(hA:ArrAt w0 w ab f d fr n) :
  Calls Tryz.prog 25 #[.pointer (some ⟨ab,0,none⟩)] w (zaz w (.int .i64 n)):=by
 obtain⟨fp,fc,bp,bc,kp,kc,dp,dc,hb,-,-⟩:=hA.at';have p14:=hb.row 14 _ rfl
 go_in
 go_wp2_with fail;go_ret;exact⟨rfl,rfl⟩
end Go.Fld
namespace Go.Fld
open Go Go.RowKit
def zjH {α:Type}(F:Fence)(n:Nat)(P:Program)(g:Nat)(lb:Array Value)(encs:α->Array Value)(T:Nat->α->World->Prop)(Kp:World->World->Prop)(S Sp:List α->Prop)(N:Nat)(w:World):Prop:=
 ∀(l:Nat) (J Jx:List α->World->Prop) (W:World),l<W.heap.size->Below w.heap.size w W->AbidesFrom W.heap.size J->AbidesFrom W.heap.size Jx ->
  (∀pre x W1,J pre W1->T l x W1->pre.length<N->YieldAt F (n-1) P l (encs x) W1 fun e W'=>(e=.returned (.bool true)/\J (pre ++ [x]) W'/\Kp W1 W')\/(e=.returned (.bool false)/\Jx (pre ++ [x]) W')) ->
  J [] W->CallsIn F n P g (#[.func (.yield l) #[] #[]] ++ lb) W fun e W'=>(∃v,e=.returned v)/\((∃xs,S xs/\J xs W')\/(∃pre,Sp pre/\Jx pre W'))
theorem zjI {F:Fence}{n:Nat}{P:Program}{α:Type}{g:Operand}{ps:Array Tmp}{assign body:Code}{Q:Exit->Act->World->Prop}{a:Act}{w:World}
  (hro:F.round=none) (h1:1<=n) {gf:Nat} {lb:Array Value} (hg:a.eval g=.func (.func gf) #[] lb) (hFg:F.fn gf) (eg:∀args w,(callFunc gf args).run P w=.ok (.enter gf args) w)
  {encs:α->Array Value} {T:Nat->α->World->Prop} {Kp:World->World->Prop} {S Sp:List α->Prop} {N:Nat} {w0:World} (hseq:zjH F (n-1) P gf lb encs T Kp S Sp N w0)
  (hKt:∀ {A B C:World},Kp A B->Kp B C->Kp A C) (hKb:∀(W:World) (l:Nat) (o o':Obj),w.heap.size<=l->W.heap[l]?=some o->o.isCells=false->o.isWalk=false->Kp W (W.putObj l o')) (hb0:Below w0.heap.size w0 w) (hps:∀x,(encs x).size=ps.size)
  (I:List α->World->Prop) (Ix:Code->List α->World->Prop) (hI:OwnFrom w.heap.size I) (hIx:∀c,OwnFrom w.heap.size (Ix c)) (h0:I [] w)
  (Ax:Nat->α->Act->World->Prop) (hAx:∀l x a' W o',Ax l x a' W->Ax l x a' (W.putObj l o'))
  (hassign:∀(l:Nat) (pre:List α) (x:α) (W:World) (K:Act->World->Prop),I pre W->T l x W->(∀a' W',KeepsFrom w.heap.size W W'->Kp W W'->I pre W'->Ax l x a' W'->K a' W') ->
   assign.wpIn (F.inRound l) (n-1-1) P (Exit.then K (fun _ _ _=>False)) { tmps:=(ps.zip (encs x)).foldl (fun t (p,v)=>t.setIfInBounds p v) a.tmps,defers:=[] } W)
  (hbody:∀(l:Nat) (pre:List α) (x:α) (a':Act) (W:World),w.heap.size<=l->I pre W->Ax l x a' W->pre.length<N->body.wpIn (F.inRound l) (n-1-1) P (ownPostG w.heap.size Kp I Ix (pre ++ [x]) W) a' W)
  (hdone:∀(D:Nat) (xs:List α) (W:World),w.heap.size<=D->S xs->I xs W->W.heap[D]?=some (.deferred (some []))->Q .normal { a with defers:={ target:=.collected D,args:=#[] } :: a.defers } W)
  (hstop:∀(D:Nat) (c:Code) (pre:List α) (W:World),w.heap.size<=D->Sp pre->Ix c pre W->W.heap[D]?=some (.deferred (some []))->c.wpIn F n P Q { a with defers:={ target:=.collected D,args:=#[] } :: a.defers } W) :
  (Code.rangeFunc g ps assign body).wpIn F n P Q a w:=by
 refine wpIn_rangeFunc fun fn hfn=>?_;rw[hro]
 let rec1:LoopState->Option Code->Obj:=fun st pe=>.loop { state:=st,pending:=pe,fn,tmps:=a.tmps,params:=ps,assign,body,defers:=w.heap.size }
 obtain⟨Z,hZ⟩:=Fld.nm ((w.alloc (.deferred (some []))).alloc (rec1 .ready none));obtain⟨l,hl⟩:=Fld.nm (w.heap.size+1);have hZs:Z.heap.size=w.heap.size+2:=by rw[hZ];simp
 have zl:Z.heap[l]?=some (rec1 .ready none):=by
  have:=World.alloc_heap_new (w.alloc (.deferred (some []))) (rec1 .ready none);rw[World.size_alloc] at this;rw[hZ,hl];exact this
 have zd:Z.heap[w.heap.size]?=some (.deferred (some [])):=by
  rw[hZ];exact(Below.heap_alloc _ _ _ (by simp)).trans (World.alloc_heap_new w _)
 have zi:I [] Z:=by rw[hZ];exact hI.alloc _ (hI.alloc _ h0)
 have zb:Below w0.heap.size w0 Z:=by
  rw[hZ];exact hb0.trans ((((Below.refl _ w).alloc (Nat.le_refl _) _).alloc (by simp) _).mono hb0.size)
 let two:LoopState->Option Code->World->Prop:=fun st pe W=>W.heap[l]?=some (rec1 st pe)/\W.heap[w.heap.size]?=some (.deferred (some []))
 have twoA:∀ {A B:World} {row:Option Nat} {st:LoopState} {pe:Option Code},two st pe A->A.grownBy B row->(∀r,row=some r->Z.heap.size<=r/\∃o:Obj,A.heap[r]?=some o/\o.isWalk=true)->two st pe B:=fun h hg hr=>
  ⟨(grownBy_keeps hg (fun r e=>(hr r e).2) h.1 rfl).trans h.1,(grownBy_keeps hg (fun r e=>(hr r e).2) h.2 rfl).trans h.2⟩
 have far:∀ {A B:World} {row:Option Nat},(∀r,row=some r->Z.heap.size<=r/\∃o:Obj,A.heap[r]?=some o/\o.isWalk=true)->(∀r,row=some r->w.heap.size<=r/\∃o:Obj,A.heap[r]?=some o/\o.isCells=false):=fun hr r e=>by
  obtain⟨hB,o,ho,hw⟩:=hr r e;exact⟨by omega,o,ho,Obj.not_cells_of_walk hw⟩
 refine⟨l,[{ target:=.collected w.heap.size,args:=#[] }],Z,{ target:=.fn (.func gf) lb,args:=#[.func (.yield l) #[] #[]] },Z,gf,#[.func (.yield l) #[] #[]] ++ lb,Z,?_,?_,?_,?_,fun _=>h1,?_⟩
 ·rw[hZ,hl];exact run_enterLoop_outer _ _ _ _ _
 ·simp only[resolve,hg];simp[go_sem]
 ·intro f' hf';simp[Target.leads] at hf';subst hf';exact hFg
 ·simp[invoke,go_sem,eg]
 refine(hseq l (fun pre W=>I pre W/\two .ready none W) (fun pre W=>∃c,Ix c pre W/\two .done (some c) W) Z (by omega) zb
  (fun s A B row hs hg' hr=>⟨hI s A B row hs.1 hg' (far (B:=B) hr),twoA hs.2 hg' hr⟩)
  (fun s A B row hs hg' hr=>by
   obtain⟨c,hc,ht⟩:=hs;exact⟨c,hIx c s A B row hc hg' (far (B:=B) hr),twoA ht hg' hr⟩) ?_ ⟨zi,zl,zd⟩).mono ?_
 ·
  rintro pre x W ⟨hi,hy1,hy2⟩ hT hlen;refine⟨fn,_,assign,body,run_yield (P:=P) (args:=encs x) hy1 (hps x),roundIn_of_wpIn hfn (hassign l pre x W _ hi hT ?_)⟩;intro a' V hkf hkp hia hax;have v1:V.heap[l]?=some (rec1 .ready none):=hkf.same _ _ (by omega) hy1 rfl;have v2:V.heap[w.heap.size]?=some (.deferred (some [])):=hkf.same _ _ (Nat.le_refl _) hy2 rfl;have vlt:l<V.heap.size:=(Array.getElem?_eq_some_iff.1 v1).1;refine⟨_,run_beginRound v1 rfl,?_⟩;obtain⟨U,hU⟩:=Fld.nm (V.putObj l (rec1 .busy none));have u1:U.heap[l]?=some (rec1 .busy none):=by rw[hU];exact World.putObj_heap_same vlt
  have u2:U.heap[w.heap.size]?=some (.deferred (some [])):=by rw[hU];exact(World.putObj_heap_other (by omega)).trans v2
  have ui:I pre U:=by rw[hU];exact hI.putObj _ hia (by omega) v1 rfl
  have ua:Ax l x a' U:=by rw[hU];exact hAx _ _ _ _ _ hax
  have uk:Kp W U:=by rw[hU];exact hKt hkp (hKb _ _ _ _ (by omega) v1 rfl rfl)
  show body.wpIn (F.inRound l) (n-1-1) P _ a' (V.putObj l (rec1 .busy none));rw[<-hU];refine wpIn_mono (hbody l pre x a' U (by omega) ui ua hlen) ?_;have fin:∀(jump:Option Code) (X:World),KeepsFrom w.heap.size U X->∃X',X'=X.putObj l (rec1 (if jump.isNone then .ready else .done) jump)/\(Instr.endRound l jump).run P X=.ok (.bool jump.isNone) X'/\X.heap[l]?=some (rec1 .busy none)/\two (if jump.isNone then .ready else .done) jump X':=fun jump X hk=>by
   have x1:X.heap[l]?=some (rec1 .busy none):=hk.same _ _ (by omega) u1 rfl;exact⟨_,rfl,run_endRound (P:=P) jump x1,x1,World.putObj_heap_same (Array.getElem?_eq_some_iff.1 x1).1,(World.putObj_heap_other (by omega)).trans (hk.same _ _ (Nat.le_refl _) u2 rfl)⟩
  have left:∀(c:Code) (X:World),KeepsFrom w.heap.size U X->Ix c (pre ++ [x]) X->∃v X',(Instr.endRound l (some c)).run P X=.ok v X'/\((Ending.returned v=.returned (.bool true)/\(I (pre ++ [x]) X'/\two .ready none X')/\Kp W X')\/(Ending.returned v=.returned (.bool false)/\∃c,Ix c (pre ++ [x]) X'/\two .done (some c) X')):=fun c X hk hx=>by
   obtain⟨X',rfl,hr,x1,ht⟩:=fin (some c) X hk;exact⟨_,_,hr,.inr ⟨rfl,c,(hIx c).putObj _ hx (by omega) x1 rfl,ht⟩⟩
  rintro e a3 X hp;cases e with
  | normal=>
   obtain⟨hk,hkp3,hi3⟩:=hp;obtain⟨X',rfl,hr,x1,ht⟩:=fin none X hk;exact⟨_,_,hr,.inl ⟨rfl,⟨hI.putObj _ hi3 (by omega) x1 rfl,ht⟩,hKt uk (hKt hkp3 (hKb _ _ _ _ (by omega) x1 rfl rfl))⟩⟩
  | ret=>exact left _ X hp.1 hp.2
  | exit id=>exact left _ X hp.1 hp.2
  | goto t=>exact left _ X hp.1 hp.2
  | panic ch=>exact hp.elim
  | outgrown=>exact hp.elim
 ·
  rintro e W2 ⟨⟨v,rfl⟩,(⟨xs,hS,hi,hy1,hy2⟩|⟨pre,hSp,c,hi,hy1,hy2⟩)⟩
  ·exact⟨none,_,run_endLoop (P:=P) hy1 (by simp),hdone _ xs _ (Nat.le_refl _) hS (hI.putObj _ hi (by omega) hy1 rfl) ((World.putObj_heap_other (by omega)).trans hy2)⟩
  ·exact⟨some c,_,run_endLoop (P:=P) hy1 (by simp),hstop _ c pre _ (Nat.le_refl _) hSp ((hIx c).putObj _ hi (by omega) hy1 rfl) ((World.putObj_heap_other (by omega)).trans hy2)⟩
end Go.Fld
namespace Go.Fld
open Go Go.RowKit Go.Proofs Go.ChangeShapes Go.WideShapes Go.ChangeAt Go.Shelf Go.Fld.Late
def zb3 (f:Fd)(d:Dt)(i:Nat):Vl:=(zcJ f d (d.off.toNat+i)).1
def zbg (f:Fd)(d:Dt)(k:Nat):List Vl:=(List.range k).map (zb3 f d)
theorem zfS (f:Fd)(d:Dt)(k:Nat):(zbg f d k).length=k:=by simp[zbg]
theorem zgS (f:Fd)(d:Dt)(k:Nat):zbg f d (k+1)=zbg f d k ++ [zb3 f d k]:=by simp[zbg,List.range_succ]
theorem zeq {f:Fd}{d:Dt}(hw:(zap f d).1=0):∃n o:Nat,d.len=n/\d.off=o/\n+o<=4096:=by
 obtain⟨n,o,F⟩:=Fit.of (WellD.of hw).sizes;exact⟨n,o,F.len,F.off,F.few⟩
theorem zhN {f:Fd}{d:Dt}(hf:zbh f=0)(hw:(zap f d).1=0){i:Nat}(hi:(i:Int)<d.len) :
  ziA f d (d.off.toNat+i)=some (zb3 f d i,4194304-wtV (zb3 f d i))/\(zap f d).2[i]?=some (wtV (zb3 f d i))/\wtV (zb3 f d i)<=4194304/\∀m,zau f<=m->okN m f (zb3 f d i)=true:=by
 obtain⟨v,h1,h2,h3,h4⟩:=zi6 (zaN d) (zg1 hf) hw (Nat.le_refl _) i hi;have e:ziA f d (d.off.toNat+i)=some (v,4194304-wtV v):=h1 _ h3;have ev:zb3 f d i=v:=by unfold zb3 zcJ;rw[e]
 rw[ev];exact⟨e,h2,h3,h4⟩
theorem zh1 {f:Fd}{d:Dt}(hf:zbh f=0)(hw:(zap f d).1=0){i:Nat}(hi:(i:Int)<d.len) :
  zcJ f d (d.off.toNat+i)=(zb3 f d i,0)/\zhs f d (d.off.toNat+i)=wtV (zb3 f d i)/\VFew (zb3 f d i)/\NumI (zb3 f d i):=by
 obtain⟨h1,-,-,h4⟩:=zhN hf hw hi;refine⟨?_,?_,zjl _ (h4 _ (Nat.le_refl _)),zkh _ _ _ h1⟩
 ·unfold zcJ;rw[h1]
 ·unfold zhs;rw[h1];show(4194304:Int)-(4194304-wtV (zb3 f d i))=_;omega
theorem zp7 {f:Fd}{d:Dt}(hf:zbh f=0)(hw:(zap f d).1=0){n:Nat}(hn:d.len=n):zaA (zbg f d n)<=4194304:=by
 obtain⟨n',o,hn',ho,hle⟩:=zeq hw;have hnn:n'=n:=by omega
 subst hnn;obtain⟨h1,h2⟩:=zpP hf hw;have hW:(zap f d).2=(zbg f d n').map wtV:=by
  refine List.ext_getElem? fun i=>?_;by_cases hi:i<n'
  ·rw[(zhN hf hw (i:=i) (by omega)).2.1];simp[zbg,hi]
  ·rw[List.getElem?_eq_none (by omega),List.getElem?_eq_none (by simp[zbg];omega)]
 have hb:zaA (zbg f d n')<=(zbg f d n').length*4194304:=zhY _ fun v hv=>by
  obtain⟨i,hi,rfl⟩:=List.mem_map.1 hv;exact(zhN hf hw (i:=i) (by have:=List.mem_range.1 hi;omega)).2.2.1
 rw[zfS] at hb;rw[hW,zif (by omega) (by omega)] at h2;omega
theorem zo3 (f:Fd)(d:Dt)(k j:Nat):zaA (zbg f d k)<=zaA (zbg f d (k+j)):=by
 induction j with
 | zero=>exact Int.le_refl _
 | succ j ih=>
  rw[<-Nat.add_assoc,zgS,zdF];have:=zbQ [zb3 f d (k+j)];omega
theorem zjm {f:Fd}{d:Dt}(hf:zbh f=0)(hw:(zap f d).1=0){k:Nat}(hk:(k:Int)<=d.len):0<=zaA (zbg f d k)/\zaA (zbg f d k)<=4194304:=by
 obtain⟨n,o,hn,ho,hle⟩:=zeq hw;have h1:=zo3 f d k (n-k);rw[show k+(n-k)=n by omega] at h1;have:=zp7 hf hw hn;have:=zbQ (zbg f d k);omega
theorem zp8 (f:Fd)(d:Dt)(k:Nat):zaA (zbg f d (k+1))=zaA (zbg f d k)+wtV (zb3 f d k):=by
 rw[zgS,zdF,zaA,zaA];omega
attribute [local go_sem] Oper.semAt_some
structure RowX where
 i:Nat
 v:Vl
 pp:Option Addr
 pc:Nat
def RowX.cs (x:RowX):List Value:=[.bool x.v.nl,.int .i64 x.v.num,.string x.v.tx,.slice x.pp x.v.kids.length x.pc]
def RowX.args (x:RowX):Array Value:=#[.int .i64 (x.i:Int),.agg x.cs.toArray]
def RowX.iv (x:RowX):Nat × Vl:=(x.i,x.v)
def RowX.told (l:Nat)(x:RowX)(w:World):Prop:=(l<w.heap.size/\VFew x.v/\NumI x.v)/\VAt (fun b=>l<b) w x.v x.cs
def Told (f:Fd)(d:Dt)(xs:List RowX):Prop:=xs.map RowX.iv=(List.range xs.length).map fun i=>(i,zb3 f d i)
theorem Told.snoc {f:Fd}{d:Dt}{xs:List RowX}(h:Told f d xs){x:RowX}(hx:x.iv=(xs.length,zb3 f d xs.length)):Told f d (xs ++ [x]):=by
 unfold Told at h ⊢;rw[List.map_append,h,List.length_append,List.length_singleton,List.range_succ,List.map_append];simp[hx]
theorem znU (p:Option Addr)(w:World):Calls Tryz.prog 29 #[.pointer p] w fun e w'=>e=.returned (.func (.func 40) #[] #[.pointer (some ⟨w.heap.size,0,none⟩)])/\w'=w.alloc (.cells #[.pointer p] 67):=by
 go_in
 go_wp2_with fail;go_ret;exact⟨rfl,rfl⟩
theorem zp9 {C S:Nat->Prop}{wt W0:World}{ab pb o n m:Nat}{f:Fd}{d:Dt}(hA:ArrS S W0 ab f d o n)(ho:d.off=o)(hn:d.len=n)(hS:∀k,S k->¬C k)(hab:¬C ab)(hpb:¬C pb)(hp:W0.cell? ⟨pb,0,none⟩=some (.pointer (some ⟨ab,0,none⟩)))
  (hf:zbh f=0) (hw:(zap f d).1=0) (hT:Lib.Utf8Tabs 1 2 wt) (hwt:Below wt.heap.size wt W0) (hC:∀k,C k->wt.heap.size<=k) (hlow:∀k,C k->k<W0.heap.size) :
  zjH Fence.wide m Tryz.prog 40 #[.pointer (some ⟨pb,0,none⟩)] RowX.args RowX.told (Chg (fun k=>C k\/W0.heap.size<=k)) (fun xs=>xs.length=n/\Told f d xs) (fun pre=>pre.length<=n/\Told f d pre) n W0:=by
 intro l J Jx W hlW hbW hJ hJx hY hJ0;have hro:Fence.wide.round=none:=rfl;have hmx:Tryz.prog.follows .mixedOrders=true:=by kernel_rfl
 have hdd:∀k:Nat,(Fence.wide.depth.isSome=true->1<=k):=fun k h=>by simp[Fence.wide] at h
 have hJb:∀s A B,J s A->Below A.heap.size A B->J s B:=fun s A B h hb=>hJ s A B none h ⟨hb.os,hb.tape,hb.output,hb.size,fun k hk _=>hb.block k hk⟩ (fun r e=>by cases e);have hsz:=zeq hw;obtain⟨n',o',en,eo,hle⟩:=hsz;have hnn:n<=4096:=by omega
 have hoo:d.off.toNat=o:=by omega
 have HOO:=zh hoo;have HN:=zh hn;have HO:=zh ho;have HY:=zh hY;have HJB:=zh hJb;have HJ0:=zh hJ0;have HAr:=zh hA;have HPb:=zh (show W0.cell? ⟨pb,0,none⟩=some (.pointer (some ⟨ab,0,none⟩)) from hp);have hpl:pb<W0.heap.size:=by have:=World.block_lt_of_cell? W0 _ hp;exact this
 have HPL:=zh hpl;have HBW0:=zh hbW;have HB0:=zh (hwt.trans (hbW.mono hwt.size));have HWZ:=zh hwt.size;have HS:=zh hS;have HAB:=zh hab;have HPC:=zh hpb;have HF:=zh hf;have HW:=zh hw;have HT:=zh hT;have HC:=zh hC;have HLW:=zh hlW;have n14:W.cell? ⟨ab,14,none⟩=some (.int .i64 (n:Int)):=by
  obtain⟨fp,fc,bp,bc,kp,kc,dp,dc,hb,-,-⟩:=(HAr.o.below hbW).arr.at';exact hb.row 14 _ rfl
 have p0:W.cell? ⟨pb,0,none⟩=some (.pointer (some ⟨ab,0,none⟩)):=zaa hbW HPb.o;clear hJ hJx hY hJ0 hA ho hn hS hab hpb hp hf hw hT hwt hC hlow hbW hlW en eo hle hJb hoo hpl;simp only[List.append_toArray,List.cons_append,List.nil_append];refine callsIn_of_wp Tryz.func40 rfl (trivial:Fence.wide.fn 40) ?_ hro;simp only[Tryz.ntmps40,List.size_toArray,List.length_cons,List.length_nil,Nat.reduceAdd,Nat.reduceSub,Array.replicate_succ,Array.replicate_zero,List.push_toArray,List.append_toArray,List.nil_append,List.cons_append];gi_wp2;clear n14 p0
 gi_loopw [3,12] (fun x i wr=>∃xs:List RowX,xs.length<=n/\i=.int .i64 (xs.length:Nat)/\x=.int .i64 (4194304-zaA (zbg f d xs.length))/\Hid (Told f d xs)/\Hid (J xs wr)/\Hid (Chg (fun k=>C k\/W0.heap.size<=k) W wr)) (fun _ i _=>n-(intOf i).toNat)
 case atStart=>
  exact⟨[],by simp,rfl,rfl,zh rfl,HJ0,zh (Chg.refl _ _)⟩
 case round=>
  obtain⟨xs,hk,rfl,rfl,HTL,HJX,HK⟩:=hrel;obtain⟨k,hkk⟩:=Fld.nm (xs.length);have HKK:=zh hkk;rw[<-hkk] at hk ⊢;clear hkk;by_cases hlt:k<n
  ·have hltI:(k:Int)<(n:Int):=by omega
   have hkc:(k:Int)<d.len:=by rw[HN.o];exact hltI
   have old:∀j,j<W0.heap.size->¬C j->wr.heap[j]?=W0.heap[j]?:=fun j hj hc=>(HK.o.block j (Nat.lt_of_lt_of_le hj HBW0.o.size) (fun h=>by rcases h with h|h;exact hc h;omega)).trans (HBW0.o.block j hj);have p0:wr.cell? ⟨pb,0,none⟩=some (.pointer (some ⟨ab,0,none⟩)):=by
    have hb:=old pb HPL.o HPC.o;have h0:=HPb.o;unfold World.cell? at h0 ⊢;simp only at h0 ⊢;rw[hb];exact h0
   have hbw:Below wt.heap.size wt wr:=HK.o.base HB0.o (fun j hj=>by
    rcases hj with h|h
    ·exact HC.o j h
    ·have:=HWZ.o;omega)
   have HBW:=zh hbw;have hAr:ArrS S wr ab f d o n:=HAr.o.keep (fun j hj hl=>⟨old j hl (HS.o j hj),hj⟩) (old ab HAr.o.lt HAB.o);have HGET:=zh (zi4 (w:=wr) (i:=k) hAr.arr HW.o ⟨by have:=HOO.o;omega,by have:=HO.o;have:=HN.o;omega⟩ (Utf8Tabs_below HT.o hbw));obtain⟨g1,g2,g3,g4⟩:=zh1 HF.o HW.o hkc;rw[HOO.o] at g1 g2;have HLW1:=zh (zjm HF.o HW.o (k:=k) (by omega));have HLW2:=zh (zjm HF.o HW.o (k:=k+1) (by omega));have HLS:=zh (zp8 f d k);obtain⟨v,hv⟩:=Fld.nm (zb3 f d k);rw[<-hv] at g1 g2 g3 g4 HLS;have G1:=zh g1;have G2:=zh g2;have HV:=zh hv;have G3:=zh (And.intro g3 g4);clear g1 g2 g3 g4 hv hbw hAr hkc old;obtain⟨x0,hx0⟩:=Fld.nm (zaA (zbg f d k));obtain⟨x1,hx1⟩:=Fld.nm (zaA (zbg f d (k+1)));obtain⟨t,ht⟩:=Fld.nm (wtV v);rw[<-hx0] at HLW1 HLS ⊢;rw[<-hx1] at HLW2 HLS;rw[<-ht] at HLS G2;have b1:=HLW1.o;have b2:=HLW2.o;have b3:=HLS.o;have HX1:=zh hx1;clear hx0 hx1 ht;have ht0:t=x1-x0:=by omega
   subst ht0;have q1:decide (4194304-x0-(x1-x0)<0)=false:=by simp;omega
   have q2:4194304-x0-(x1-x0)=4194304-x1:=by omega
   have HQ2:=zh q2;clear b3 q2;gi_wp2;refine⟨trivial,hdd _,(callsIn_wide.2 HGET.o).mono ?_⟩;rintro e W2 ⟨vs,rfl,hvat,hb2⟩;rw[G2.o,G1.o];rw[G1.o] at hvat;simp only at hvat ⊢;obtain⟨pp,pc,rfl,-⟩:=hvat.shape;obtain⟨x,hx⟩:∃x:RowX,x=⟨k,v,pp,pc⟩:=⟨_,rfl⟩;have hW3:=(Below.refl _ W2).alloc (Nat.le_refl _) (.cells #[.bool v.nl,.int .i64 v.num,.string v.tx,.slice pp v.kids.length pc] 39);have hb3:Below wr.heap.size wr (W2.alloc (.cells #[.bool v.nl,.int .i64 v.num,.string v.tx,.slice pp v.kids.length pc] 39)):=hb2.trans (hW3.mono hb2.size);have hlt3:l<wr.heap.size:=Nat.lt_of_lt_of_le HLW.o HK.o.size;have htold:RowX.told l x (W2.alloc (.cells #[.bool v.nl,.int .i64 v.num,.string v.tx,.slice pp v.kids.length pc] 39)):=by
    rw[hx];exact⟨⟨Nat.lt_of_lt_of_le hlt3 hb3.size,G3.o⟩,(hvat.below hW3).mono (fun b hb=>Nat.lt_of_lt_of_le hlt3 hb)⟩
   have hyy:=(HY.o xs x _ (HJB.o _ _ _ HJX.o hb3) htold (by have:=HKK.o;omega)).mono (R':=fun e W'=>∃t:Bool,e=.returned (.bool t)/\((t=true/\J (xs ++ [x]) W'/\Chg (fun k=>C k\/W0.heap.size<=k) (W2.alloc (.cells #[.bool v.nl,.int .i64 v.num,.string v.tx,.slice pp v.kids.length pc] 39)) W')\/(t=false/\Jx (xs ++ [x]) W'))) (fun e W' h=>h.elim (fun h=>⟨true,h.1,.inl ⟨rfl,h.2⟩⟩) (fun h=>⟨false,h.1,.inr ⟨rfl,h.2⟩⟩));have hxa:x.args=#[.int .i64 (k:Int),.agg #[.bool v.nl,.int .i64 v.num,.string v.tx,.slice pp v.kids.length pc]]:=by rw[hx];rfl
   rw[hxa] at hyy;obtain⟨fn,tmps,assign,body,hyy,hRR⟩:=hyy;have HRR:=zh hRR;have HXI:=zh (show x.iv=(xs.length,zb3 f d xs.length) by rw[hx,<-HKK.o,<-HV.o];rfl);have HKC:=zh (Chg.trans HK.o (Chg.below (C:=fun k=>C k\/W0.heap.size<=k) hb3));clear hx hxa hRR htold hlt3 hb3 hW3 hvat hb2 p0;gi_wp2;refine⟨hdd _,?_⟩;refine HRR.o.mono ?_;rintro e W4 ⟨t,rfl,hT4⟩;have HLEN:=zh (show(xs ++ [x]).length=k+1 by rw[List.length_append,<-HKK.o];rfl);have HTS:=zh (HTL.o.snoc HXI.o);clear hyy;rcases hT4 with⟨rfl,hJ4,hc4⟩|⟨rfl,hJ4⟩
   ·have HJ4:=zh hJ4;have HC4:=zh (HKC.o.trans hc4);clear hJ4 hc4;gi_wp2;go_roundw
    case rel=>
     refine⟨xs ++ [x],by rw[HLEN.o];omega,by rw[HLEN.o];go_num,?_,HTS,HJ4,HC4⟩;rw[HLEN.o,<-HX1.o,<-HQ2.o]
    case measure=>simp[intOf];omega
   ·have HJ4:=zh hJ4;clear hJ4;gi_wp2;exact⟨rfl,_,results_none rfl _ _ _,⟨_,rfl⟩,.inr ⟨xs ++ [x],⟨by rw[HLEN.o];omega,HTS.o⟩,HJ4.o⟩⟩
  ·have hkn:k=n:=by omega
   have HKN:=zh hkn;clear hkn;gi_wp2
   first|go_ret|go_end0
   exact⟨⟨_,rfl⟩,.inl ⟨xs,⟨by rw[<-HKK.o];exact HKN.o,HTL.o⟩,HJX.o⟩⟩
end Go.Fld
