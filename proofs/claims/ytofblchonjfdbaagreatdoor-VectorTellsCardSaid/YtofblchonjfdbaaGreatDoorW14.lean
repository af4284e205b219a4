import Derived.Test.YtofblchonjfdbaaGreatDoorFn
import Derived.Test.YtofblchonjfdbaaGreatDoorWA
namespace Go.Proofs.YtofblchonjfdbaaGreatDoor
open Go Go.Ev
section
variable {R : Type}
theorem QT:4000000000<NR:=by unfold NR; decide
theorem QGk(j:Nat)(h:j≤64):(2 ^ 64-1)/2 ^ (64-j)=2 ^ j-1:=by
 have hp:0<2 ^ (64-j):=Nat.two_pow_pos _
 have hj:0<2 ^ j:=Nat.two_pow_pos _
 have e:2 ^ 64=2 ^ (64-j)*2 ^ j:=by rw[←Nat.pow_add]; congr 1; omega
 have e2:2 ^ 64-1=2 ^ (64-j)*(2 ^ j-1)+(2 ^ (64-j)-1):=by
  rw[Nat.mul_sub,Nat.mul_one,←e]
  have:2 ^ (64-j)≤2 ^ 64:=Nat.pow_le_pow_right (by decide) (by omega)
  omega
 rw[e2,Q2S _ _ _ (by omega)]
theorem YI(n:Int)(h1 : -9223372036854775808≤n)(h2:n≤9223372036854775807)(K:Int→Option R):Q0h n K=K ((QcX n:Nat):Int):=by
 rw[QoA]; unfold QmS
 by_cases h:n≤0
 ·rw[Q0 h]
  unfold QcX
  rw[show n.toNat=0 by omega]; rfl
 ·rw[Q1 h,Qp (by omega) (by omega)]
  have e:max2 0 (64-n)=((64-min n.toNat 64:Nat):Int):=by unfold max2; split<;>omega
  rw[e,Q0 (Int.natCast_nonneg _),show (18446744073709551615:Int)=((2 ^ 64-1:Nat):Int) by decide,Q0F _ _ (by decide),QGk _ (by omega)]
  rfl
theorem QGl(z p:Nat)(lz:z<2 ^ 64)(k:z%128=p)(hp:p≤64):J2 .i64 (QV .i64 (z:Int)) 127=(p:Int):=by
 rw[Qo2,Qxz]
 show IntKind.i64.wrap ((BitVec.ofInt 64 (IntKind.i64.wrap (z:Int)) &&& BitVec.ofInt 64 ((127:Nat):Int)).toNat:Int)=_
 have e1:BitVec.ofInt 64 (IntKind.i64.wrap (z:Int))=BitVec.ofNat 64 z:=by
  apply BitVec.eq_of_toNat_eq
  rw[Ev.Q7m,BitVec.toNat_ofInt,BitVec.toNat_ofNat]
  omega
 rw[e1,BitVec.toNat_and,BitVec.toNat_ofNat,QhY 127 (by decide),Nat.mod_eq_of_lt lz,show z &&& 127=p by rw[←k]; exact Nat.and_two_pow_sub_one_eq_mod z 7,Ev.Q7m]
 omega
theorem QeP(x:Nat)(hx:x<2 ^ 64)(K:Int→Option R):JZ (x:Int) K=K ((pc x 64:Nat):Int):=by
 rw[Q67]; unfold UJ
 simp only[Qm]
 have l:∀ (a m:Nat) ,m<2 ^ 64→a &&& m<2 ^ 64:=fun a m h=>Nat.lt_of_le_of_lt Nat.and_le_right h
 have s:∀ (a:Nat) (b:Nat) (c:Int),a<2 ^ 64→c=(b:Int)→ZC .u64 (a:Int) c=((a/2 ^ b:Nat):Int):=fun a b c h e=>by rw[e]; exact Q0F a b h
 have t:∀ a b:Nat,a<2 ^ 64→a/2 ^ b<2 ^ 64:=fun a b h=>Nat.lt_of_le_of_lt (Nat.div_le_self _ _) h
 have m:∀ a:Nat,a%2 ^ 64<2 ^ 64:=fun a=>Nat.mod_lt _ (by decide)
 obtain ⟨a,ha⟩:∃ a,a=((x/2 ^ 1 &&& 6148914691236517205)+(x &&& 6148914691236517205))%2 ^ 64:=⟨_,rfl⟩
 have la:a<2 ^ 64:=by rw[ha]; exact m _
 have ea:Qe .u64 (J2 .u64 (ZC .u64 (x:Int) 1) 6148914691236517205) (J2 .u64 (x:Int) 6148914691236517205)=(a:Int):=by
  rw[s x 1 1 hx rfl,QhX _ 6148914691236517205 6148914691236517205 (t _ _ hx) (by decide) rfl,QhX _ 6148914691236517205 6148914691236517205 hx (by decide) rfl,Qdt,ha]
 rw[ea]
 obtain ⟨b,hb⟩:∃ b,b=((a/2 ^ 2 &&& 3689348814741910323)+(a &&& 3689348814741910323))%2 ^ 64:=⟨_,rfl⟩
 have lb:b<2 ^ 64:=by rw[hb]; exact m _
 have eb:Qe .u64 (J2 .u64 (ZC .u64 (a:Int) 2) 3689348814741910323) (J2 .u64 (a:Int) 3689348814741910323)=(b:Int):=by
  rw[s a 2 2 la rfl,QhX _ 3689348814741910323 3689348814741910323 (t _ _ la) (by decide) rfl,QhX _ 3689348814741910323 3689348814741910323 la (by decide) rfl,Qdt,hb]
 rw[eb]
 obtain ⟨c,hc⟩:∃ c,c=(b/2 ^ 4+b)%2 ^ 64:=⟨_,rfl⟩
 have lc:c<2 ^ 64:=by rw[hc]; exact m _
 have ec:Qe .u64 (ZC .u64 (b:Int) 4) (b:Int)=(c:Int):=by rw[s b 4 4 lb rfl,Qdt,hc]
 rw[ec]
 obtain ⟨d,hd⟩:∃ d,d=c &&& 1085102592571150095:=⟨_,rfl⟩
 have ld:d<2 ^ 64:=by rw[hd]; exact l _ _ (by decide)
 have ed:J2 .u64 (c:Int) 1085102592571150095=(d:Int):=by rw[QhX _ 1085102592571150095 1085102592571150095 lc (by decide) rfl,hd]
 rw[ed,s d 8 8 ld rfl,Qdt,s _ 16 16 (m _) rfl,Qdt,s _ 32 32 (m _) rfl,Qdt]
 have k:=QCO x hx a b c d ha hb hc hd
 obtain ⟨z,hz⟩:∃ z,z=(((d+d/2 ^ 8)%2 ^ 64+(d+d/2 ^ 8)%2 ^ 64/2 ^ 16)%2 ^ 64+((d+d/2 ^ 8)%2 ^ 64+(d+d/2 ^ 8)%2 ^ 64/2 ^ 16)%2 ^ 64/2 ^ 32)%2 ^ 64:=⟨_,rfl⟩
 rw[←hz]at k ⊢
 have lz:z<2 ^ 64:=by rw[hz]; exact m _
 clear hz
 rw[QGl z _ lz k (Q15 x 64)]
theorem Uq(x:Nat)(hx:x<2 ^ 64)(K:Int→Option R):Q37 (x:Int) K=K ((pc x 64:Nat):Int):=by
 rw[Qq3]; unfold Qpk
 rw[QeP x hx]
theorem QeQ(x:Nat)(hx:x<2 ^ 64)(n:Int)(h1 : -9223372036854775808≤n)(h2:n≤9223372036854775807)(K:Int→Option R):QaQ (x:Int) n K=K ((QcY x n:Nat):Int):=by
 rw[QoC]; unfold Qn0
 rw[YI n h1 h2,Q0E _ _ hx (Q7n n),Uq _ (QwM hx),QAw]
end
end Go.Proofs.YtofblchonjfdbaaGreatDoor
namespace Go.Proofs.YtofblchonjfdbaaGreatDoor
open Go Go.Ev
section
variable {R : Type}
def Ws(ws:List Nat):Prop:=(∀ w∈ws,w<2 ^ 64)∧ws.length<4611686018427387904
theorem Ws.wds{l:List Bool}(h:l.length≤1048576):Ws (wds l):=⟨fun _ hw=>Q48 hw,by rw[Qn]; omega⟩
theorem Ws.nil:Ws []:=⟨by simp,by simp⟩
theorem Qcw(n:Int)(h1:0≤n)(h2:n≤4611686018427387904)(K:Int→Option R):QaL n K=K ((n+63)/64):=by
 rw[QmR]; unfold Qk0
 rw[Q6 (by omega) (by omega),Qp (by omega) (by omega),Jh (by omega) (by omega) (by omega)]
 congr 1; omega
theorem QDF(x r:Nat)(hr:r<64):(x-(x &&& QcX (r:Int))=0)↔x<2 ^ r:=by
 rw[Qb7,show min (r:Int).toNat 64=r by omega]
 have hp:0<2 ^ r:=Nat.two_pow_pos r
 have h1:=Nat.mod_lt x hp
 constructor
 ·intro h
  have:=Nat.mod_le x (2 ^ r)
  omega
 ·intro h
  rw[Nat.mod_eq_of_lt h]; omega
theorem QP(n:Int)(ws:List Nat)(hw:Ws ws)(K:Bool→Option R):Ub n (ci ws) K=K (QM n ws):=by
 rw[QmT]; unfold Qk1
 rw[Qb]
 have hlen:=hw.2
 by_cases h1:n<0
 ·rw[Q0 h1]
  congr 1
  have:¬(0≤n∧n≤1048576∧ws.length=(n.toNat+63)/64):=by omega
  simp[QM,this]
 rw[Q1 h1]
 by_cases h2:1048576<n
 ·rw[Q0 h2]
  congr 1
  have:¬(0≤n∧n≤1048576∧ws.length=(n.toNat+63)/64):=by omega
  simp[QM,this]
 rw[Q1 h2,Qcw n (by omega) (by omega)]
 by_cases h3:((ws.length:Nat):Int)=(n+63)/64
 ·rw[decide_eq_true h3]
  show Qbm _ _ _=_
  rw[Qfk]; unfold Qcf
  rw[Qdu (by omega)]
  have h4:0≤n∧n≤1048576∧ws.length=(n.toNat+63)/64:=by omega
  by_cases h5:n%64=0
  ·rw[Q0 h5]
   congr 1
   have:n.toNat%64=0:=by omega
   simp[QM,h4,this]
  ·rw[Q1 h5,Qb,Qp (by omega) (by omega),Q0 (by omega),Q0 (by omega),YI _ (by omega) (by omega),Qm,show (((ws.length:Nat):Int)-1).toNat=ws.length-1 by omega,Zp,QfK _ _ (Z5 hw.1 _) (Q7n _)]
   congr 1
   have e:n%64=((n.toNat%64:Nat):Int):=by omega
   have h6:=QDF (ws.getD (ws.length-1) 0) (n.toNat%64) (Nat.mod_lt _ (by decide))
   rw[e]
   have h7:¬n.toNat%64=0:=by omega
   simp only[QM,h4,h7,decide_false,Bool.false_or,and_self,decide_true,Bool.true_and]
   rw[h4.2.2]at h6
   rw[decide_eq_decide,←h6]
   omega
 ·rw[decide_eq_false h3]
  show K false=_
  congr 1
  have:¬(0≤n∧n≤1048576∧ws.length=(n.toNat+63)/64):=by omega
  simp[QM,this]
def QhV(n:Int)(ws:List Nat)(i:Int):Bool×Int:=if QM n ws=true then (if i<0∨n≤i then (false,3) else (QN ws i.toNat,0)) else (false,2)
theorem Qds{n:Int}{ws:List Nat}(h:QM n ws=true):0≤n∧n≤1048576∧ws.length=(n.toNat+63)/64:=by
 simp only[QM,Bool.and_eq_true,decide_eq_true_eq]at h
 exact h.1
theorem QIs(ws:List Nat)(hw:∀ w∈ws,w<2 ^ 64)(j i:Nat):(J2 .u64 (ZC .u64 ((ws.getD j 0:Nat):Int) (i:Int)) 1=1)↔(ws.getD j 0).testBit i=true:=by
 have hl:=Z5 hw j
 rw[Q0F _ _ hl,show (1:Int)=((1:Nat):Int) from rfl,Q0E _ _ (Nat.lt_of_le_of_lt (Nat.div_le_self _ _) hl) (by decide),Nat.and_one_is_mod,←QfL]
 omega
theorem Qvh(n:Int)(ws:List Nat)(hw:Ws ws)(i:Int)(h1 : -9223372036854775808≤i)(h2:i≤9223372036854775807)(K:Bool→Int→Option R):Qqc n (ci ws) i K=K (QhV n ws i).1 (QhV n ws i).2:=by
 rw[Qqd]; unfold Qpq
 rw[QP n ws hw]
 cases hok:QM n ws with
 | false=>simp[QhV,hok,sel]
 | true=>
  obtain ⟨a1,a2,a3⟩:=Qds hok
  rw[Bool.not_true,Ev.Q5]
  by_cases h3:i<0
  ·rw[Q0 h3]; simp[QhV,hok,h3]
  rw[Q1 h3]
  by_cases h4:n≤i
  ·rw[Q0 h4]; simp[QhV,hok,h4]
  rw[Q1 h4,Ql7]; unfold QgA
  obtain ⟨q,rfl⟩:∃ q:Nat,i=(q:Int):=⟨i.toNat,by omega⟩
  have e1:Qu .i64 (q:Int) 64=((q/64:Nat):Int):=by rw[Jh (by omega) (by omega) (by omega)]; omega
  have e2:YP (q:Int) 64=((q%64:Nat):Int):=by rw[Qdu (by omega)]; omega
  rw[e1,e2,Qb,Q0 (by omega),Q0 (by omega),Q0 (by omega),Qm,Int.toNat_natCast,Zp]
  have:QhV n ws (q:Int)=(QN ws q,0):=by
   have h5:¬((q:Int)<0∨n≤(q:Int)):=by omega
   simp only[QhV,hok,if_true,h5,if_false,Int.toNat_natCast]
  rw[this]
  congr 1
  unfold QN
  rw[Bool.eq_iff_iff,decide_eq_true_iff]
  exact QIs ws hw.1 _ _
def Qah(n:Int)(ws:List Nat)(a k:Int):Int×Int:=
 if QM n ws=true∧¬(k<0∨64<k) then (if a<0∨n<a∨n-a<k then (0,3) else (((Zq ws a.toNat k.toNat:Nat):Int),0)) else (0,2)
theorem QGi(ws:List Nat)(a k:Nat)(h:a%64+k≤64):(ws.getD (a/64) 0/2 ^ (a%64)) &&& QcX (k:Int)=Zq ws a k:=by
 apply Nat.eq_of_testBit_eq
 intro i
 rw[JX,Qb7,Nat.testBit_mod_two_pow,←Nat.shiftRight_eq_div_pow,Nat.testBit_shiftRight,show min (k:Int).toNat 64=k by omega]
 by_cases hi:i<k
 ·simp only[hi,decide_true,Bool.true_and]
  unfold QN
  rw[show (a+i)/64=a/64 by omega,show (a+i)%64=a%64+i by omega]
 ·simp[hi]
theorem QGj{ws:List Nat}(hw:∀ w∈ws,w<2 ^ 64)(a k:Nat)(h:64<a%64+k)(hk:k≤64):((ws.getD (a/64) 0/2 ^ (a%64)) ||| (ws.getD (a/64+1) 0*2 ^ (64-a%64)%2 ^ 64)) &&& QcX (k:Int)=Zq ws a k:=by
 apply Nat.eq_of_testBit_eq
 intro i
 rw[JX,Qb7,Nat.testBit_mod_two_pow,Nat.testBit_or,←Nat.shiftRight_eq_div_pow,Nat.testBit_shiftRight,Nat.testBit_mod_two_pow,Nat.testBit_mul_two_pow,show min (k:Int).toNat 64=k by omega]
 by_cases hi:i<k
 ·simp only[hi,decide_true,Bool.true_and]
  have h64:i<64:=by omega
  simp only[h64,decide_true,Bool.true_and]
  unfold QN
  by_cases hlow:a%64+i<64
  ·have:¬64-a%64≤i:=by omega
   rw[show (a+i)/64=a/64 by omega,show (a+i)%64=a%64+i by omega]
   simp[this]
  ·have:64-a%64≤i:=by omega
   rw[show (a+i)/64=a/64+1 by omega,show (a+i)%64=i-(64-a%64) by omega,Qyd (Z5 hw _) (show 64≤a%64+i by omega)]
   simp[this]
 ·simp[hi]
theorem Q3h(n:Int)(ws:List Nat)(hw:Ws ws)(a k:Int)(h1 : -9223372036854775808≤a)(h2:a≤9223372036854775807)(K:Int→Int→Option R):Q2l n (ci ws) a k K=K (Qah n ws a k).1 (Qah n ws a k).2:=by
 have bad:∀ (K1:Int→Int→Int→List Int→Option R) (K:Int→Int→Option R),Q3o a k true n (ci ws) K K1=K 0 2:=fun K1 K=>by
  rw[Q9a]; unfold Q7y; rfl
 have far:∀ (K1:Int→Int→Int→List Int→Option R) (K:Int→Int→Option R),Q3n a k true n (ci ws) K K1=K 0 3:=fun K1 K=>by
  rw[Q99]; unfold Q7x; rfl
 rw[QmU]; unfold Qk2
 rw[QP n ws hw]
 cases hok:QM n ws with
 | false=>
  rw[Bool.not_false,Ev.Q8,bad]; simp[Qah,hok]
 | true=>
  obtain ⟨a1,a2,a3⟩:=Qds hok
  rw[Bool.not_true,Ev.Q5]
  by_cases h3:k<0
  ·rw[Q0 h3,bad]; simp[Qah,h3]
  rw[Q1 h3]
  by_cases h4:64<k
  ·rw[decide_eq_true h4,bad]; simp[Qah,h4]
  rw[decide_eq_false h4,Q9a]; unfold Q7y
  rw[Ev.Q5]
  have hs:Qah n ws a k=if a<0∨n<a∨n-a<k then (0,3) else (((Zq ws a.toNat k.toNat:Nat):Int),0):=by
   have:¬(k<0∨64<k):=by omega
   simp only[Qah,hok,this,not_false_eq_true,and_self,if_true]
  rw[hs]
  by_cases h5:a<0
  ·rw[Q0 h5,far,if_pos (.inl h5)]
  rw[Q1 h5]
  by_cases h6:n<a
  ·rw[Q0 h6,far,if_pos (.inr (.inl h6))]
  rw[Q1 h6,Qp (by omega) (by omega)]
  by_cases h7:n-a<k
  ·rw[decide_eq_true h7,far,if_pos (.inr (.inr h7))]
  rw[decide_eq_false h7,Q99,if_neg (by omega)]; unfold Q7x
  rw[Ev.Q5]
  obtain ⟨p,rfl⟩:∃ p:Nat,a=(p:Int):=⟨a.toNat,by omega⟩
  obtain ⟨c,rfl⟩:∃ c:Nat,k=(c:Int):=⟨k.toNat,by omega⟩
  simp only[Int.toNat_natCast]
  by_cases h8:c=0
  ·subst h8
   rw[Q0 (by rfl)]
   rfl
  rw[Q1 (by omega)]
  show Q3p _ _ _ _ _=_
  rw[Qfl]; unfold Q7z
  have e1:Qu .i64 (p:Int) 64=((p/64:Nat):Int):=by rw[Jh (by omega) (by omega) (by omega)]; omega
  have e2:YP (p:Int) 64=((p%64:Nat):Int):=by rw[Qdu (by omega)]; omega
  have hl:=Z5 hw.1 (p/64)
  have hd:ws.getD (p/64) 0/2 ^ (p%64)<2 ^ 64:=Nat.lt_of_le_of_lt (Nat.div_le_self _ _) hl
  rw[e1,e2,Qb,Q0 (by omega),Q0 (by omega),Q0 (by omega),Q6 (by omega) (by omega),Int.toNat_natCast,Zp,Q0F _ _ hl]
  by_cases h9:64<p%64+c
  ·rw[Q0 (by omega),Q6 (by omega) (by omega),Q0 (by omega),Q0 (by omega),Qp (by omega) (by omega),Q0 (by omega),show (((p/64:Nat):Int)+1).toNat=p/64+1 by omega,Zp,show (64:Int)-((p%64:Nat):Int)=((64-p%64:Nat):Int) by omega,Q3i _ _ (Z5 hw.1 _),QbB _ _ hd (Nat.mod_lt _ (by decide)),Qm,Q7Q]
   unfold Q5O
   rw[YI _ (by omega) (by omega),Q0E _ _ (Nat.or_lt_two_pow hd (Nat.mod_lt _ (by decide))) (Q7n _),QGj hw.1 p c h9 (by omega)]
  ·rw[Q1 (by omega),Q7Q]
   unfold Q5O
   rw[YI _ (by omega) (by omega),Q0E _ _ hd (Q7n _),QGi ws p c (by omega)]
end
end Go.Proofs.YtofblchonjfdbaaGreatDoor
namespace Go.Proofs.YtofblchonjfdbaaGreatDoor
open Go Go.Ev
section
variable {R : Type}
theorem Quj(n:Nat)(h:n<4611686018427387904):Qu .i64 (n:Int) 64=((n/64:Nat):Int):=by rw[Jh (by omega) (by omega) (by omega)]; omega
theorem QwL(n:Nat):YP (n:Int) 64=((n%64:Nat):Int):=by rw[Qdu (by omega)]; omega
theorem Qvg(n:Int)(ws:List Nat)(m:Nat)(hm:m≤4294967296)(hle:ws.length≤(m+63)/64)(K:Int→Nat→List Int→Option R):
  Qk6 n (ci ws) (m:Int) K=K (m:Int) ((m+63)/64) (ci (ws++List.replicate ((m+63)/64-ws.length) 0)):=by
 rw[QmW]; unfold Qd6
 rw[Qcw _ (by omega) (by omega)]
 have e:((m:Int)+63)/64=(((m+63)/64:Nat):Int):=by omega
 rw[e]
 generalize hq:(m+63)/64=q at hle
 rw[Q0 (by omega),Q0 (by omega),Q0 (by omega),Q0 (by omega),Qm,Int.toNat_natCast,Q0 (by simp),Qb,Q0 (by omega),Q0 (by simp; omega),Qm]
 congr 1
 rw[QqA,QDM,QKq,Qdv,Qdv]
 simp
theorem Qqv(x i low:Nat)(b:Bool)(ws:List Nat)(n:Int)(l:Nat)(hl:l=ws.length)(hw:Ws ws)(hx:x<2 ^ 64)(hi:i<4611686018427387904)(hlow:low≤64)(hb:b=decide (i+1<ws.length))(K:List Int→Option R):
  Q9k (x:Int) (i:Int) (low:Int) b (ci ws) n l K=K (ci (if i+1<ws.length then ws.set (i+1) (ws.getD (i+1) 0 ||| x/2 ^ (64-low)) else ws)):=by
 rw[QaN]; unfold Q9j
 subst hl
 have hlen:=hw.2
 by_cases h:i+1<ws.length
 ·rw[hb,decide_eq_true h,Ev.Q8,if_pos h]
  rw[Q6 (by omega) (by omega),show (i:Int)+1=((i+1:Nat):Int) by omega]
  rw[Q0 (by omega),Q0 (by omega),Int.toNat_natCast,Q0 (by rw[Qb]; exact h),Qp (by omega) (by omega),Q0 (by omega),Q0 (by omega),Q0 (by omega),Q0 (by rw[Qb]; exact h),Qm,Zp,
   show (64:Int)-(low:Int)=((64-low:Nat):Int) by omega,Q0F _ _ hx,QbB _ _ (Z5 hw.1 _) (Nat.lt_of_le_of_lt (Nat.div_le_self _ _) hx),Qri]
 ·rw[hb,decide_eq_false h,Ev.Q5,if_neg h]
theorem Quk(N:Int)(l:Nat)(ws:List Nat)(hl:l=ws.length)(n x:Nat)(hw:Ws ws)(hx:x<2 ^ 64)(hn:n<4611686018427387904)(K:List Int→Option R):
  Qfq N l (n:Int) (x:Int) (ci ws) K=K (ci (QqB ws n x)):=by
 have j5:∀ (ws1:List Nat),ws1.length=ws.length→Ws ws1→Q9l (x:Int) ((n/64:Nat):Int) ((n%64:Nat):Int) (ci ws1) N l K=K (ci (if 0<n%64∧n/64+1<ws.length then ws1.set (n/64+1) (ws1.getD (n/64+1) 0 ||| x/2 ^ (64-n%64)) else ws1)):=fun ws1 h1 h2=>by
  rw[Qhs]; unfold Qek
  have hlen:=hw.2
  by_cases h:0<n%64
  ·rw[Q0 (by omega),Q6 (by omega) (by omega),Qqv x (n/64) (n%64) _ ws1 N l (by omega) h2 hx (by omega) (by omega) (by rw[decide_eq_decide]; omega),h1]
   by_cases h3:n/64+1<ws.length
   ·rw[if_pos h3,if_pos ⟨h,h3⟩]
   ·rw[if_neg h3,if_neg fun h4=>h3 h4.2]
  ·rw[Q1 (by omega),if_neg fun h4=>h h4.1,QaN]; unfold Q9j
   rfl
 rw[QkV]; unfold Qbo
 rw[Quj n hn,QwL n]
 have hlen:=hw.2
 unfold QqB
 simp only[]
 by_cases h:n/64<ws.length
 ·rw[Q0 (by omega),Q0 (by omega),Q0 (by omega),Int.toNat_natCast,Q0 (by rw[Qb]; exact h),Q0 (by omega),Q0 (by omega),Q0 (by omega),Q0 (by rw[Qb]; exact h),Qm,Zp,Q3i _ _ hx,QbB _ _ (Z5 hw.1 _) (Nat.mod_lt _ (by decide)),Qri,
   j5 _ (by simp) ⟨Quo hw.1 (Nat.or_lt_two_pow (Z5 hw.1 _) (Nat.mod_lt _ (by decide))),by simpa using hlen⟩,if_pos h]
 ·rw[Q1 (by omega),j5 ws rfl hw,if_neg h]
end
end Go.Proofs.YtofblchonjfdbaaGreatDoor
namespace Go.Proofs.YtofblchonjfdbaaGreatDoor
open Go Go.Ev
section
variable {R : Type}
theorem Qui{n e:Int}{l:Nat}{ws:List Nat}(h:l=ws.length)(K:Int→List Int→Int→Option R){Y:Option R}: sel (decide (l=List.length (ci ws))) (K n (ci ws) e) Y=K n (ci ws) e:=by
 rw[Q0 (by rw[Qb]; exact h)]
theorem Qb6(n:Int)(ws:List Nat)(hw:Ws ws)(x:Nat)(hx:x<2 ^ 64)(k:Int)(K:Int→List Int→Int→Option R):
  Q8e n (ci ws) (x:Int) k K=K (Q5X n ws x k).1 (ci (Q5X n ws x k).2.1) (Q5X n ws x k).2.2:=by
 have bad:∀ (K0:Int→Int→List Int→Option R) (K1:Int→Int→Int→List Int→Int→Option R),JL (x:Int) k true n (ci ws) 0 K0 K1=K0 2 n (ci ws):=fun K0 K1=>by
  rw[Q7T]; unfold Q5P; rfl
 rw[QkW]; unfold Qbp
 rw[QP n ws hw]
 cases hok:QM n ws with
 | false=>rw[Bool.not_false,Ev.Q8,bad]; simp[Q5X,hok]
 | true=>
  obtain ⟨l,rfl,rfl,hl⟩:=Q3t hok hw.1
  rw[Bool.not_true,Ev.Q5]
  by_cases h1:k<0
  ·rw[Q0 h1,bad]; simp[Q5X,h1]
  rw[Q1 h1]
  by_cases h2:64<k
  ·rw[Q0 h2,bad]; simp[Q5X,h2]
  rw[Q1 h2,Qp (by omega) (by omega)]
  by_cases h3:1048576-(l.length:Int)<k
  ·rw[decide_eq_true h3,bad]; simp[Q5X,h3]
  rw[decide_eq_false h3,Q7T]; unfold Q5P
  rw[Ev.Q5]
  show JM _ _ _ _ _ _=_
  obtain ⟨c,rfl⟩:∃ c:Nat,k=(c:Int):=⟨k.toNat,by omega⟩
  have ea:Q5X (l.length:Int) (wds l) x (c:Int)=((l.length:Int)+(c:Int),wds (l++Q2T x c),0):=by
   unfold Q5X
   rw[if_pos ⟨hok,by omega,h3⟩,UA,Int.toNat_natCast]
  rw[ea,Qel]; unfold QaO
  rw[Q6 (by omega) (by omega),←Int.natCast_add,Qvg _ _ _ (by omega) (by rw[Qn]; omega),YI _ (by omega) (by omega),Q0E _ _ hx (Q7n _),Qb7,show min (c:Int).toNat 64=c by omega]
  have hWs:Ws (wds l++List.replicate ((l.length+c+63)/64-(wds l).length) 0):=by
   refine ⟨fun w hw=>?_,by simp[Qn]; omega⟩
   rcases List.mem_append.1 hw with hw|hw
   ·exact Q48 hw
   ·rw[(List.mem_replicate.1 hw).2]; decide
  rw[Quk _ _ _ (by simp[Qn]; omega) l.length (x%2 ^ c) hWs (Nat.lt_of_le_of_lt (Nat.mod_le _ _) hx) (by omega),QIB hx (by omega)]
  exact Qui (by rw[Qn,List.length_append,QA]) K
theorem Qnz(ws:List Nat)(hw:Ws ws)(q:Nat)(hq:q≤ws.length)(hq2:q≤16384)(a n:Int)(xs:List Int)(K:Int→Int→Int→List Int→Option R):∀ (N j:Nat),j≤q→q-j<N →
  Q1s K N a ((pcb ws (64*j):Nat):Int) (ci (ws.take q)) (q:Int) (j:Int) n xs=K a ((pcb ws (64*q):Nat):Int) n xs
 | 0,_,_,h=>by omega
 | N+1,j,hj,hN=>by
  simp only[Q1s,QmZ]
  by_cases h:j<q
  ·have hp:=QnE ws (64*j)
   have hp2:=Q15 (ws.getD j 0) 64
   rw[Q0 (by omega),Q0 (by omega),Q0 (by rw[Qb,List.length_take]; omega),Int.toNat_natCast,Qyf _ _ _ h,Uq _ (Z5 hw.1 _),Q6 (by omega) (by omega),Q6 (by omega) (by omega),←Int.natCast_add,←QwP,show (j:Int)+1=((j+1:Nat):Int) by omega]
   exact Qnz ws hw q hq hq2 a n xs K N (j+1) (by omega) (by omega)
  ·have:j=q:=by omega
   subst this
   rw[Q1 (by omega)]
theorem QnA(n:Int)(ws:List Nat)(hw:Ws ws)(k:Int)(K:Int→Option R):Qhz n (ci ws) k K=K (Qs6 n ws k):=by
 rw[QoD]; unfold Qn1
 rw[QP n ws hw]
 cases hok:QM n ws with
 | false=>rw[Bool.not_false,Ev.Q8]; simp[Qs6,hok]
 | true=>
  obtain ⟨a1,a2,a3⟩:=Qds hok
  rw[Bool.not_true,Ev.Q5]
  have e:max2 0 (min2 k n)=(((max 0 (min k n)).toNat:Nat):Int):=by unfold max2 min2; split<;>split<;>omega
  have hs:Qs6 n ws k=((pcb ws (max 0 (min k n)).toNat:Nat):Int):=by simp[Qs6,hok]
  rw[e,hs]
  generalize hm:(max 0 (min k n)).toNat=m
  have hmn:m≤n.toNat:=by omega
  rw[Quj m (by omega),Q0 (by omega),Qb,Q0 (by omega),Qm,Int.toNat_natCast,QDM,show (0:Int).toNat=0 from rfl,List.drop_zero,Qhy,Qb,List.length_take,show min (m/64) ws.length=m/64 by omega]
  unfold Q9s
  rw[show (0:Int)=((pcb ws (64*0):Nat):Int) from rfl,show ((pcb ws (64*0):Nat):Int)=((0:Nat):Int) from rfl]
  have hl:=Qnz (R:=R) ws hw (m/64) (by omega) (by omega) (m:Int) n (ci ws) (fun n405 n406 n407 xs408=>sel (decide (0<YP n405 64)) (sel (decide (0≤Qu .i64 n405 64)) (sel (decide (Qu .i64 n405 64<((List.length xs408:Nat):Int))) (QaQ (List.getD xs408 (Int.toNat (Qu .i64 n405 64)) 0) (YP n405 64) fun n413=>K (Qe .i64 n406 n413)) none) none) (K n406)) NR 0 (Nat.zero_le _) (by have:=QT; omega)
  refine Eq.trans hl ?_
  rw[QwL m,Quj m (by omega)]
  have hp:=QnE ws (64*(m/64))
  have hw2:=QqC ws (m/64) (m%64) (by omega)
  rw[show 64*(m/64)+m%64=m by omega]at hw2
  by_cases h:0<m%64
  ·have hp2:=Q15 (ws.getD (m/64) 0) (m%64)
   rw[Q0 (by omega),Q0 (by omega),Qb,Q0 (by omega),Int.toNat_natCast,Zp,QeQ _ (Z5 hw.1 _) _ (by omega) (by omega)]
   have er:QcY (ws.getD (m/64) 0) ((m%64:Nat):Int)=pc (ws.getD (m/64) 0) (m%64):=by unfold QcY; congr 1; omega
   rw[er,Q6 (by omega) (by omega)]
   congr 1; omega
  ·rw[Q1 (by omega)]
   congr 1
   have:m%64=0:=by omega
   rw[this]at hw2
   simp only[pc,Nat.add_zero]at hw2
   rw[hw2]
end
end Go.Proofs.YtofblchonjfdbaaGreatDoor
namespace Go.Proofs.YtofblchonjfdbaaGreatDoor
open Go Go.Ev
section
variable {R : Type}
theorem Qdr(l:List Bool)(n i:Nat):(l.take n).getD i false=(decide (i<n)&&l.getD i false):=by
 simp only[List.getD_eq_getElem?_getD]
 by_cases h:i<n
 ·rw[List.getElem?_take_of_lt h]; simp[h]
 ·rw[List.getElem?_eq_none (by simp; omega)]; simp[h]
def QIr(n:Int):Int×List Nat×Int:=if n<0∨1048576<n then (0,[],2) else (n,List.replicate ((n.toNat+63)/64) 0,0)
theorem QhU(n e:Int)(h1:0≤n)(h2:n≤1048576)(K:Int→Int→Nat→List Int→Option R):Q57 n e K=K 0 n ((n.toNat+63)/64) (ci (List.replicate ((n.toNat+63)/64) 0)):=by
 rw[QkX]; unfold Qgn
 rw[Qcw _ (by omega) (by omega),Q0 (by omega),Q0 (by omega),Q0 (by omega),Q0 (by omega),Qm,QqA,show ((n+63)/64).toNat=(n.toNat+63)/64 by omega]
theorem Qsx(n:Int)(K0:Int→Int→Option R)(K1:Int→Nat→Int→List Int→Option R):Qkf n K0 K1=if n<0∨1048576<n then K0 0 2 else K1 n ((n.toNat+63)/64) 0 (ci (List.replicate ((n.toNat+63)/64) 0)):=by
 have j3:∀ (b:Bool) (e:Int) (K0 K1:Int→Int→Option R),Q23 n b e K0 K1=sel b (K0 2 0) (K1 n e):=fun b e K0 K1=>by
  rw[Qcj]; unfold Qbs; rfl
 rw[Qn4]; unfold Qke
 by_cases h1:n<0
 ·rw[Q0 h1,j3,Ev.Q8,if_pos (.inl h1)]
 rw[Q1 h1,j3]
 by_cases h2:1048576<n
 ·rw[Q0 h2,if_pos (.inr h2)]
 rw[Q1 h2,QhU _ _ (by omega) (by omega),if_neg (by omega)]
theorem Qvf(n:Int)(K:Int→List Int→Int→Option R):Qq6 n K=K (QIr n).1 (ci (QIr n).2.1) (QIr n).2.2:=by
 have j3:∀ (b:Bool) (e:Int) (K0 K1:Int→Int→Option R),Q23 n b e K0 K1=sel b (K0 2 0) (K1 n e):=fun b e K0 K1=>by
  rw[Qcj]; unfold Qbs; rfl
 rw[Qq7]; unfold Qpm QIr
 by_cases h1:n<0
 ·rw[Q0 h1,j3,Ev.Q8,if_pos (.inl h1)]; rfl
 rw[Q1 h1,j3]
 by_cases h2:1048576<n
 ·rw[Q0 h2,if_pos (.inr h2)]; rfl
 rw[Q1 h2,QhU _ _ (by omega) (by omega),if_neg (by omega)]
 exact Qui (by simp) K
theorem Qy5(bs:List Bool)(W:List Nat)(hw:∀ w∈W,w<2 ^ 64)(j:Nat)(hj:j<bs.length)(hW:j/64<W.length)(hb:bs.getD j false=true)(h:∀ i,QN W i=(bs.take j).getD i false):
  ∀ i,QN (W.set (j/64) (W.getD (j/64) 0 ||| 2 ^ (j%64))) i=(bs.take (j+1)).getD i false:=fun i=>by
 rw[Qoi _ _ hW,Qdr]
 have hi:=h i
 rw[Qdr]at hi
 by_cases h1:i/64=j/64
 ·rw[if_pos h1,Nat.testBit_or,Nat.testBit_two_pow]
  have e:(W.getD (j/64) 0).testBit (i%64)=QN W i:=by unfold QN; rw[h1]
  rw[e,hi]
  by_cases h2:i=j
  ·subst h2
   have a1:decide (i<i+1)=true:=by simp
   rw[a1,hb]; simp
  ·have a:¬j%64=i%64:=by omega
   by_cases h3:i<j
   ·have b:i<j+1:=by omega
    simp[a,h3,b]
   ·have b:¬i<j+1:=by omega
    simp[a,h3,b]
 ·rw[if_neg h1,hi]
  by_cases h3:i<j
  ·have b:i<j+1:=by omega
   simp[h3,b]
  ·have b:¬i<j+1:=by omega
   simp[h3,b]
theorem Q26(a b:List Int)(h:a.length=b.length)(j:Nat)(hj:j<a.length):(a.drop j=b.drop j)↔(a.getD j 0=b.getD j 0∧a.drop (j+1)=b.drop (j+1)):=by
 rw[List.drop_eq_getElem_cons hj,List.drop_eq_getElem_cons (show j<b.length by omega),List.cons.injEq]
 simp only[List.getD_eq_getElem?_getD,List.getElem?_eq_getElem hj,List.getElem?_eq_getElem (show j<b.length by omega),Option.getD_some]
theorem QoQ(n m:Int)(a b:List Int)(h:a.length=b.length)(ha:a.length<4000000000)(K0:Bool→Option R)(K1:Unit→Option R):∀ (N j:Nat),j≤a.length→a.length-j<N →
  ZN K0 K1 N (j:Int) n a m b=if a.drop j=b.drop j then K1 () else K0 false
 | 0,_,_,h=>by omega
 | N+1,j,hj,hN=>by
  simp only[ZN,Q8i]
  by_cases h1:j<a.length
  ·rw[Q0 (by omega),Q0 (by omega),Q0 (by omega),Q0 (by omega),Q0 (by omega),Int.toNat_natCast,Q6 (by omega) (by omega),show (j:Int)+1=((j+1:Nat):Int) by omega]
   by_cases h2:a.getD j 0=b.getD j 0
   ·rw[decide_eq_true h2,Bool.not_true,Ev.Q5,QoQ n m a b h ha K0 K1 N (j+1) (by omega) (by omega)]
    simp only[Q26 a b h j h1,h2,true_and]
   ·rw[decide_eq_false h2,Bool.not_false,Ev.Q8]
    simp only[Q26 a b h j h1,h2,false_and,if_false]
  ·rw[Q1 (by omega),List.drop_of_length_le (by omega),List.drop_of_length_le (by omega),if_pos rfl]
theorem Zd(n m:Int)(a b:List Int)(ha:a.length<4000000000)(K:Bool→Option R):QX n a m b K=K (decide (n=m∧a=b)):=by
 rw[Q9W]; unfold Q5d
 by_cases h1:n=m
 ·rw[decide_eq_true h1,Bool.not_true,Ev.Q5]
  by_cases h2:a.length=b.length
  ·rw[decide_eq_true (by omega),Bool.not_true,Ev.Q5,Q6a]
   unfold Q1y
   rw[Q69]
   unfold UP
   refine (QoQ n m a b h2 ha _ _ NR 0 (by omega) (by have:=QT; omega)).trans ?_
   simp only[List.drop_zero,h1,true_and]
   split<;>simp_all
  ·have h3:¬((a.length:Int)=(b.length:Int)):=by omega
   rw[decide_eq_false h3,Bool.not_false,Ev.Q8]
   congr 1
   have:¬(n=m∧a=b):=by rintro ⟨_,rfl⟩; exact h2 rfl
   simp[this]
 ·rw[decide_eq_false h1,Bool.not_false,Ev.Q8]
  simp[h1]
end
end Go.Proofs.YtofblchonjfdbaaGreatDoor
namespace Go.Proofs.YtofblchonjfdbaaGreatDoor
open Go Go.Ev
section
variable {R : Type}
theorem QKr:∀ i,i<256→(Qfj.data.toList.getD i 0).toNat=bitLen i:=by decide +kernel
theorem QID:Qfj.size=256:=by decide +kernel
theorem Q7o(x n:Nat)(hx:x<256)(hn:n≤64)(K:Int→Option R):J7 (x:Int) (n:Int) K=K ((n+bitLen x:Nat):Int):=by
 rw[Q8c]; unfold Q00
 rw[QKo (by omega) (by omega),Q0 (by omega),QID,Q0 (by omega),Qm,Int.toNat_natCast,QKr x hx]
 have:=bitLen_le8 x hx
 rw[QhW (by omega) (by omega),Q6 (by omega) (by omega),←Int.natCast_add]
theorem Qut(x b:Nat)(h:2 ^ b≤x):bitLen x=b+bitLen (x/2 ^ b):=
 bitLen_shift x b (by have:=Nat.div_pos h (Nat.two_pow_pos b); omega)
theorem Q8I(x n:Nat)(hx:x<65536)(hn:n≤48)(K:Int→Option R):JJ (x:Int) (n:Int) K=K ((n+bitLen x:Nat):Int):=by
 rw[Q9d]; unfold Q55
 by_cases h:256≤x
 ·rw[Q0 (by omega),show (8:Int)=((8:Nat):Int) from rfl,Q0F _ _ (by omega),Q6 (by omega) (by omega),←Int.natCast_add,Q7o _ _ (by omega) (by omega),Qut x 8 h]
  congr 1; omega
 ·rw[Q1 (by omega),Q7o _ _ (by omega) (by omega)]
theorem Q8J(x n:Nat)(hx:x<4294967296)(hn:n≤32)(K:Int→Option R):JK (x:Int) (n:Int) K=K ((n+bitLen x:Nat):Int):=by
 rw[Q9e]; unfold Q56
 by_cases h:65536≤x
 ·rw[Q0 (by omega),show (16:Int)=((16:Nat):Int) from rfl,Q0F _ _ (by omega),Q6 (by omega) (by omega),←Int.natCast_add,Q8I _ _ (by omega) (by omega),Qut x 16 h]
  congr 1; omega
 ·rw[Q1 (by omega),Q8I _ _ (by omega) (by omega)]
theorem QnH(x:Nat)(hx:x<2 ^ 64)(K:Int→Option R):Q7B (x:Int) K=K ((bitLen x:Nat):Int):=by
 rw[QcG]; unfold Q9f
 by_cases h:4294967296≤x
 ·rw[Q0 (by omega),show (32:Int)=((32:Nat):Int) from rfl,Q0F _ _ (by omega),Q8J _ _ (by omega) (by omega),Qut x 32 h]
 ·rw[Q1 (by omega),show (0:Int)=((0:Nat):Int) from rfl,Q8J _ _ (by omega) (by omega),Nat.zero_add]
theorem Q7p(x:Nat)(hx:x<2 ^ 64)(K:Int→Option R):QbW (x:Int) K=K ((bitLen x:Nat):Int):=by
 rw[Qq5]; unfold Qpl
 rw[QnH x hx]
end
end Go.Proofs.YtofblchonjfdbaaGreatDoor
namespace Go.Ev
open Go
def Zg(w:Nat):List Nat→List Bool
 | []=>[]
 | u::us=>Q2T u w++Zg w us
theorem ZA(w:Nat):∀ us,(Zg w us).length=us.length*w
 | []=>by simp[Zg]
 | u::us=>by simp only[Zg,List.length_append,QA,ZA w us,List.length_cons]; rw[Nat.add_mul]; omega
theorem Qs7(w:Nat):∀ us vs,Zg w (us++vs)=Zg w us++Zg w vs
 | [],_=>rfl
 | u::us,vs=>by simp only[List.cons_append,Zg,Qs7 w us vs,List.append_assoc]
theorem QIE(w u:Nat):Zg w [u]=Q2T u w:=by simp[Zg]
theorem QDN(w:Nat):∀ (us:List Nat) (i j:Nat),i<us.length→j<w→(Zg w us).getD (i*w+j) false=(us.getD i 0).testBit j
 | [],i,j,h,_=>by simp at h
 | u::us,0,j,_,hj=>by
  simp only[Zg]
  rw[Nat.zero_mul,Nat.zero_add,Q0G,if_pos (by rw[QA]; omega),QhZ,decide_eq_true hj,Bool.true_and]; rfl
 | u::us,i+1,j,h,hj=>by
  simp only[Zg]
  rw[Q0G,QA,if_neg (by rw[Nat.add_mul]; omega),show (i+1)*w+j-w=i*w+j by rw[Nat.add_mul]; omega,QDN w us i j (by simpa using h) hj]; rfl
theorem Quu{w:Nat}{us:List Nat}{i:Nat}(hi:i<us.length)(hu:us.getD i 0<2 ^ w):Zq (wds (Zg w us)) (i*w) w=us.getD i 0:=by
 apply Nat.eq_of_testBit_eq
 intro j
 rw[JX,ZU]
 by_cases hj:j<w
 ·rw[decide_eq_true hj,Bool.true_and,QDN w us i j hi hj]
 ·rw[decide_eq_false hj,Bool.false_and,Qb8 hu (by omega)]
def Qi0(ws:List Nat)(w n:Nat):List Nat:=(List.range n).map fun i=>Zq ws (i*w) w
theorem UB(ws:List Nat)(w n:Nat):(Qi0 ws w n).length=n:=by simp[Qi0]
theorem QAC(ws:List Nat)(w:Nat){n i:Nat}(h:i<n):(Qi0 ws w n).getD i 0=Zq ws (i*w) w:=by
 unfold Qi0
 rw[List.getD_eq_getElem?_getD,List.getElem?_map,List.getElem?_range h]; rfl
theorem QwS(ws:List Nat)(w n:Nat):Qi0 ws w (n+1)=Qi0 ws w n++[Zq ws (n*w) w]:=by simp[Qi0,List.range_succ]
theorem QKs(ws:List Nat)(w n:Nat):∀ u∈Qi0 ws w n,u<2 ^ w:=fun u h=>by
 unfold Qi0 at h
 obtain ⟨i,_,rfl⟩:=List.mem_map.1 h
 exact Q8H _ _ _
theorem QwT{w:Nat}{us:List Nat}(hu:∀ u∈us,u<2 ^ w):Qi0 (wds (Zg w us)) w us.length=us:=by
 apply List.ext_getElem?
 intro i
 by_cases h:i<us.length
 ·have h1:=QAC (wds (Zg w us)) w h
  have h2:us.getD i 0<2 ^ w:=by rw[List.getD_eq_getElem?_getD,List.getElem?_eq_getElem h]; exact hu _ (List.getElem_mem h)
  rw[Quu h h2,List.getD_eq_getElem?_getD,List.getD_eq_getElem?_getD,List.getElem?_eq_getElem h,List.getElem?_eq_getElem (by rw[UB]; exact h)]at h1
  rw[List.getElem?_eq_getElem h,List.getElem?_eq_getElem (by rw[UB]; exact h)]
  exact congrArg some h1
 ·rw[List.getElem?_eq_none (by rw[UB]; omega),List.getElem?_eq_none (by omega)]
theorem QwU{a b:List Bool}(hl:a.length=b.length)(h:∀ i,i<a.length→a.getD i false=b.getD i false):a=b:=by
 apply List.ext_getElem?
 intro i
 by_cases hi:i<a.length
 ·have:=h i hi
  rw[List.getD_eq_getElem?_getD,List.getD_eq_getElem?_getD,List.getElem?_eq_getElem hi,List.getElem?_eq_getElem (by omega)]at this
  rw[List.getElem?_eq_getElem hi,List.getElem?_eq_getElem (by omega)]
  exact congrArg some this
 ·rw[List.getElem?_eq_none (by omega),List.getElem?_eq_none (by omega)]
def Qyh(us:List Nat):Nat→Nat
 | 0=>1
 | i+1=>max (Qyh us i) (bitLen (us.getD i 0))
def QkD(us:List Nat):Nat:=Qyh us us.length
theorem Qrl(us:List Nat):∀ i j,j<i→bitLen (us.getD j 0)≤Qyh us i
 | 0,_,h=>by omega
 | i+1,j,h=>by
  simp only[Qyh]
  by_cases e:j=i
  ·subst e; exact Nat.le_max_right _ _
  ·exact Nat.le_trans (Qrl us i j (by omega)) (Nat.le_max_left _ _)
theorem Qyi(us:List Nat):∀ i,Qyh us i=1∨∃ j,j<i∧bitLen (us.getD j 0)=Qyh us i
 | 0=>.inl rfl
 | i+1=>by
  simp only[Qyh]
  rcases Nat.le_total (Qyh us i) (bitLen (us.getD i 0)) with h|h
  ·rw[Nat.max_eq_right h]; exact .inr ⟨i,by omega,rfl⟩
  ·rw[Nat.max_eq_left h]
   rcases Qyi us i with h|⟨j,h1,h2⟩
   ·exact .inl h
   ·exact .inr ⟨j,by omega,h2⟩
theorem QkE{x w:Nat}: x<2 ^ w↔bitLen x≤w:=
 ⟨fun h=>Q8G h,fun h=>Nat.lt_of_lt_of_le (bitLen_spec x).1 (Nat.pow_le_pow_right (by decide) h)⟩
theorem QDO{us:List Nat}{w:Nat}(hw:1≤w):QkD us≤w↔∀ u∈us,u<2 ^ w:=by
 constructor
 ·intro h u hu
  obtain ⟨i,hi,rfl⟩:=List.getElem_of_mem hu
  have:=Qrl us us.length i hi
  rw[List.getD_eq_getElem?_getD,List.getElem?_eq_getElem hi]at this
  exact QkE.2 (Nat.le_trans this h)
 ·intro h
  rcases Qyi us us.length with e|⟨j,h1,h2⟩
  ·unfold QkD; omega
  ·unfold QkD
   rw[←h2,List.getD_eq_getElem?_getD,List.getElem?_eq_getElem h1]
   exact QkE.1 (h _ (List.getElem_mem h1))
def okI(N w n:Int)(ws:List Nat):Bool:=decide (1≤w∧w≤64∧0≤N∧N≤1048576)&&(QM n ws&&decide (n=N*w))
def Qc9(w:Int)(us:List Nat):Int×Int×Int×List Nat×Int:=
 if 1≤w∧w≤64∧(us.length:Int)*w≤1048576∧(QkD us:Int)≤w then ((us.length:Int),w,(us.length:Int)*w,wds (Zg w.toNat us),0) else (0,0,0,[],2)
def Qsy(N w n:Int)(ws:List Nat)(i:Int):Int×Int:=
 if okI N w n ws=true then (if i<0∨N≤i then (0,3) else ((Zq ws (i.toNat*w.toNat) w.toNat:Nat),0)) else (0,2)
def Yn(N w n:Int)(ws:List Nat):List Nat:=if okI N w n ws=true then Qi0 ws w.toNat N.toNat else []
theorem QeU{N w n:Int}{ws:List Nat}(h:okI N w n ws=true)(hw:∀ x∈ws,x<2 ^ 64):∃ (a b:Nat) (l:List Bool),N=(a:Int)∧w=(b:Int)∧n=((a*b:Nat):Int)∧ws=wds l∧l.length=a*b∧1≤b∧b≤64∧a≤1048576∧a*b≤1048576:=by
 unfold okI at h
 obtain ⟨h1,h2⟩:=Bool.and_eq_true_iff.1 h
 obtain ⟨h2,h3⟩:=Bool.and_eq_true_iff.1 h2
 have h1:=of_decide_eq_true h1
 have h3:=of_decide_eq_true h3
 obtain ⟨l,e1,e2,e3⟩:=Q3t h2 hw
 obtain ⟨a,rfl⟩:∃ a:Nat,N=(a:Int):=⟨N.toNat,by omega⟩
 obtain ⟨b,rfl⟩:∃ b:Nat,w=(b:Int):=⟨w.toNat,by omega⟩
 rw[e1,←Int.natCast_mul]at h3
 have h3:=Int.ofNat.inj h3
 exact ⟨a,b,l,rfl,rfl,by rw[e1,h3],e2,h3,by omega,by omega,by omega,by omega⟩
theorem Qyj{a b:Nat}{l:List Bool}(hl:l.length=a*b)(h1:1≤b)(h2:b≤64)(h3:a*b≤1048576):okI (a:Int) (b:Int) ((a*b:Nat):Int) (wds l)=true:=by
 have ha:a≤a*b:=Nat.le_mul_of_pos_right a h1
 unfold okI
 rw[Bool.and_eq_true_iff,Bool.and_eq_true_iff]
 refine ⟨decide_eq_true ⟨by omega,by omega,by omega,by omega⟩,?_,decide_eq_true (Int.natCast_mul a b)⟩
 have:=Yl l (by omega)
 rwa [hl]at this
end Go.Ev
namespace Go.Proofs.YtofblchonjfdbaaGreatDoor
open Go Go.Ev
section
variable {R : Type}
theorem Quh(a b:Nat):max2 (a:Int) (b:Int)=((max a b:Nat):Int):=by unfold max2; split<;>omega
theorem Qlm(us:List Nat)(hu:∀ u∈us,u<2 ^ 64)(hl:us.length<1000000000)(K0:Int→Option R):∀ (N i:Nat),i≤us.length→us.length-i<N →
  Q0k K0 N ((Qyh us i:Nat):Int) (ci us) (us.length:Int) (i:Int)=K0 ((QkD us:Nat):Int)
 | 0,_,_,h=>by omega
 | N+1,i,h1,h2=>by
  simp only[Q0k,QkY]
  by_cases h:i<us.length
  ·rw[Qb,Q0 (by omega),Q0 (by omega),Q0 (by omega),Int.toNat_natCast,Zp,Q7p _ (Z5 hu i),Quh,Q6 (by omega) (by omega),show (i:Int)+1=((i+1:Nat):Int) by omega]
   exact Qlm us hu hl K0 N (i+1) (by omega) (by omega)
  ·have:i=us.length:=by omega
   subst this
   rw[Q1 (by omega)]; rfl
theorem Qsw(us:List Nat)(hu:∀ u∈us,u<2 ^ 64)(hl:us.length<1000000000)(K:Int→Option R):Qka (ci us) K=K ((QkD us:Nat):Int):=by
 rw[QmY]; unfold Qk9
 rw[Qfr]; unfold Q7E
 rw[Qb]
 exact Qlm us hu hl _ NR 0 (by omega) (by have:=QT; omega)
theorem QwK(us:List Nat)(w:Nat){i:Nat}(h:i<us.length):Zg w (us.take (i+1))=Zg w (us.take i)++Q2T (us.getD i 0) w:=by
 rw[List.take_succ_eq_append_getElem h,Qs7,QIE,List.getD_eq_getElem?_getD,List.getElem?_eq_getElem h]; rfl
theorem QCK(us:List Nat)(w:Nat)(hw:w≤64)(hm:us.length*w≤1048576){i:Nat}(h:i<us.length):Q5X ((i*w:Nat):Int) (wds (Zg w (us.take i))) (us.getD i 0) (w:Int)=((((i+1)*w:Nat):Int),wds (Zg w (us.take (i+1))),0):=by
 have hi:(i+1)*w≤us.length*w:=Nat.mul_le_mul_right _ (by omega)
 have hl:(Zg w (us.take i)).length=i*w:=by rw[ZA,List.length_take,Nat.min_eq_left (by omega)]
 have e1:(i+1)*w=i*w+w:=by rw[Nat.add_mul]; omega
 have hok:=Yl (Zg w (us.take i)) (by omega)
 rw[hl]at hok
 unfold Q5X
 rw[if_pos ⟨hok,by omega,by omega⟩,←hl,UA,Int.toNat_natCast,hl,QwK us w h,e1]
 rfl
theorem QNC(us:List Nat)(w:Nat)(h:us.length*w≤1048576)(i:Nat):Ws (wds (Zg w (us.take i))):=by
 refine ⟨fun x hx=>Q48 hx,?_⟩
 have:(us.take i).length*w≤us.length*w:=Nat.mul_le_mul_right _ (by rw[List.length_take]; omega)
 rw[Qn,ZA]; omega
theorem Qnw(us:List Nat)(hu:∀ u∈us,u<2 ^ 64)(w:Nat)(hw:w≤64)(hw1:1≤w)(hm:us.length*w≤1048576)(a b c:Int)(K0:Int→List Int→Int→Int→Int→Int→List Int→Option R):∀ (N i:Nat),i≤us.length→us.length-i<N →
  Q1r K0 N (w:Int) (ci us) (ci us) (us.length:Int) (i:Int) a b c ((i*w:Nat):Int) (ci (wds (Zg w (us.take i))))=K0 (w:Int) (ci us) a b c ((us.length*w:Nat):Int) (ci (wds (Zg w us)))
 | 0,_,_,h=>by omega
 | N+1,i,h1,h2=>by
  have hle:us.length≤us.length*w:=Nat.le_mul_of_pos_right _ hw1
  simp only[Q1r,QmX]
  by_cases h:i<us.length
  ·rw[Qb,Q0 (by omega),Q0 (by omega),Q0 (by omega),Int.toNat_natCast,Zp,Qb6 _ _ (QNC us w hm i) _ (Z5 hu i),QCK us w hw hm h,Q6 (by omega) (by omega),show (i:Int)+1=((i+1:Nat):Int) by omega]
   exact Qnw us hu w hw hw1 hm a b c K0 N (i+1) (by omega) (by omega)
  ·have:i=us.length:=by omega
   subst this
   rw[Q1 (by omega),List.take_length]
theorem QIp{w n:Nat}(hw:1≤w):¬Qu .i64 1048576 (w:Int)<(n:Int)↔n*w≤1048576:=by
 rw[Jh (by omega) (by omega) (by omega),show (1048576:Int)/(w:Int)=((1048576/w:Nat):Int) from (Int.natCast_ediv 1048576 w).symm]
 rw[show (¬((1048576/w:Nat):Int)<(n:Int))↔n≤1048576/w by omega,Nat.le_div_iff_mul_le (by omega)]
theorem Qag{w:Int}{us:List Nat}(h:¬(1≤w∧w≤64∧(us.length:Int)*w≤1048576∧(QkD us:Int)≤w)):Qc9 w us=(0,0,0,[],2):=if_neg h
theorem Qdq{w:Nat}{us:List Nat}(h1:1≤w)(h2:w≤64)(h3:us.length*w≤1048576)(h4:QkD us≤w):Qc9 (w:Int) us=((us.length:Int),(w:Int),((us.length*w:Nat):Int),wds (Zg w us),0):=by
 unfold Qc9
 rw[if_pos ⟨by omega,by omega,by rw[←Int.natCast_mul]; omega,by omega⟩,Int.toNat_natCast,Int.natCast_mul]
theorem QRu:QIr 0=(0,[],0):=by decide
theorem QRv(w:Nat)(us:List Nat):wds (Zg w (us.take 0))=[]:=by simp[Zg,wds]
theorem QeO(w:Int)(us:List Nat)(hu:∀ u∈us,u<2 ^ 64)(hl:us.length<1000000000)(K:Int→Int→Int→List Int→Int→Option R):
  Qhw w (ci us) K=K (Qc9 w us).1 (Qc9 w us).2.1 (Qc9 w us).2.2.1 (ci (Qc9 w us).2.2.2.1) (Qc9 w us).2.2.2.2:=by
 have bad:∀ (K0:Int→Int→Int→Int→Option R) (K1:Int→List Int→Int→Int→Int→Option R),Q2m w (ci us) true 0 0 0 K0 K1=K0 2 0 0 0:=fun K0 K1=>by
  rw[QaP]; unfold Q9q; rfl
 rw[QoB]; unfold Qfs
 by_cases h1:w<1
 ·rw[Q0 h1,bad,Qag (by omega)]; rfl
 by_cases h2:64<w
 ·rw[Q1 h1,Q0 h2,bad,Qag (by omega)]; rfl
 obtain ⟨v,rfl⟩:∃ v:Nat,w=(v:Int):=⟨w.toNat,by omega⟩
 have hq:=QIp (w:=v) (n:=us.length) (by omega)
 rw[Q1 h1,Q1 h2,Q1 (by omega),Qb]
 by_cases h3:us.length*v≤1048576
 ·rw[Q1 (hq.2 h3),Qsw us hu hl]
  by_cases h4:QkD us≤v
  ·rw[decide_eq_false (by omega),Qdq (by omega) (by omega) h3 h4,QaP]; unfold Q9q
   rw[Ev.Q5]
   show Q2n _ _ _ _ _ _=_
   rw[Qhv]; unfold Qen
   rw[Qvf,QRu,Qhu]; unfold Q9r
   rw[Qb]
   have:=Qnw us hu v (by omega) (by omega) h3 0 0 0 (fun (n473:Int) (xs474:List Int) (_ _ _ n478:Int) (xs479:List Int)=>K ((xs474.length:Nat):Int) n473 n478 xs479 0) NR 0 (by omega) (by have:=QT; omega)
   rw[Nat.zero_mul,QRv]at this
   refine Eq.trans (by exact this) ?_
   rw[Qb]
  ·rw[decide_eq_true (by omega),bad,Qag (by omega)]; rfl
 ·rw[Q0 (Decidable.not_not.1 fun h=>h3 (hq.1 h)),bad,Qag (by rw[←Int.natCast_mul]; omega)]; rfl
theorem Q3g(N w n:Int)(ws:List Nat)(hw:Ws ws)(K:Bool→Option R):Q7W N w n (ci ws) K=K (okI N w n ws):=by
 rw[Qn6]; unfold Qkh okI
 by_cases h1:1≤w
 ·rw[Q0 h1]
  by_cases h2:w≤64
  ·rw[Q0 h2]
   by_cases h3:0≤N
   ·rw[Q0 h3]
    by_cases h4:N≤1048576
    ·obtain ⟨a,rfl⟩:∃ a:Nat,N=(a:Int):=⟨N.toNat,by omega⟩
     obtain ⟨b,rfl⟩:∃ b:Nat,w=(b:Int):=⟨w.toNat,by omega⟩
     have hm:a*b≤1048576*64:=Nat.mul_le_mul (by omega) (by omega)
     rw[Q0 h4,QP n ws hw,decide_eq_true (show (1:Int)≤(b:Int)∧(b:Int)≤64∧(0:Int)≤(a:Int)∧(a:Int)≤1048576 from ⟨h1,h2,h3,h4⟩),Bool.true_and,Ze (by rw[←Int.natCast_mul]; omega) (by rw[←Int.natCast_mul]; omega)]
     cases QM n ws<;>rfl
    ·rw[Q1 h4,decide_eq_false (by omega)]; rfl
   ·rw[Q1 h3,decide_eq_false (by omega)]; rfl
  ·rw[Q1 h2,decide_eq_false (by omega)]; rfl
 ·rw[Q1 h1,decide_eq_false (by omega)]; rfl
theorem Qve(N w n:Int)(ws:List Nat)(hw:Ws ws)(i:Int)(K0:Int→Option R)(K1:Unit→Option R):Qqe N w n (ci ws) i K0 K1=if okI N w n ws=true then (if i<0∨N≤i then K0 3 else K1 ()) else K0 2:=by
 rw[Qqf]; unfold Qpr
 rw[Q3g N w n ws hw]
 have j5:∀ (b:Bool) (K0:Int→Option R) (K1:Unit→Option R),Qc4 b K0 K1=if b=true then K0 3 else K1 ():=fun b K0 K1=>by
  rw[Ql8]; unfold QgB; cases b<;>rfl
 cases okI N w n ws with
 | false=>rfl
 | true=>
  rw[Bool.not_true,Ev.Q5,if_pos rfl]
  by_cases h1:i<0
  ·rw[Q0 h1,j5,if_pos rfl,if_pos (.inl h1)]
  ·rw[Q1 h1,j5]
   by_cases h2:N≤i
   ·rw[if_pos (decide_eq_true h2),if_pos (.inr h2)]
   ·rw[if_neg (by simpa using h2),if_neg (by omega)]
theorem QCL{N w n:Int}{ws:List Nat}(h:okI N w n ws=true)(hw:Ws ws){a b:Nat}(e1:N=(a:Int))(e2:w=(b:Int)):n=((a*b:Nat):Int)∧QM n ws=true∧1≤b∧b≤64∧a≤1048576∧a*b≤1048576:=by
 obtain ⟨a',b',l,f1,f2,f3,f4,f5,f6,f7,f8,f9⟩:=QeU h hw.1
 have:a'=a:=by omega
 have:b'=b:=by omega
 subst_vars
 refine ⟨rfl,?_,f6,f7,f8,f9⟩
 have:=Yl l (by omega)
 rwa [f5]at this
theorem Qrh{a b:Nat}{n:Int}{ws:List Nat}(hn:n=((a*b:Nat):Int))(hok:QM n ws=true)(h1:1≤b)(h2:b≤64){i:Nat}(hi:i<a):Qah n ws ((i*b:Nat):Int) (b:Int)=(((Zq ws (i*b) b:Nat):Int),0):=by
 have:(i+1)*b≤a*b:=Nat.mul_le_mul_right _ (by omega)
 rw[Nat.add_mul]at this
 unfold Qah
 rw[if_pos ⟨hok,by omega⟩,if_neg (by omega),Int.toNat_natCast,Int.toNat_natCast]
theorem QoP(N w n:Int)(ws:List Nat)(hw:Ws ws)(i:Int)(K:Int→Int→Option R):Qnd N w n (ci ws) i K=K (Qsy N w n ws i).1 (Qsy N w n ws i).2:=by
 rw[Qqg]; unfold Qps Qsy
 rw[Qve N w n ws hw]
 cases hok:okI N w n ws with
 | false=>rfl
 | true=>
  rw[if_pos rfl,if_pos rfl]
  by_cases h:i<0∨N≤i
  ·rw[if_pos h,if_pos h]
  ·rw[if_neg h,if_neg h]
   obtain ⟨a,b,l,rfl,rfl,rfl,rfl,hl,f6,f7,f8,f9⟩:=QeU hok hw.1
   obtain ⟨k,rfl⟩:∃ k:Nat,i=(k:Int):=⟨i.toNat,by omega⟩
   have hk:k<a:=by omega
   have hm:k*b≤a*b:=Nat.mul_le_mul_right _ (by omega)
   obtain ⟨_,g2,_⟩:=QCL hok hw rfl rfl
   rw[Ze (by rw[←Int.natCast_mul]; omega) (by rw[←Int.natCast_mul]; omega),←Int.natCast_mul,Q3h _ _ hw _ _ (by omega) (by omega),Qrh rfl g2 f6 f7 hk,Int.toNat_natCast,Int.toNat_natCast]
theorem QIq(us:List Nat)(ws:List Nat)(b i n:Nat)(hi:i<n):(Qi0 ws b i++List.replicate (n-i) 0).set i (Zq ws (i*b) b)=Qi0 ws b (i+1)++List.replicate (n-(i+1)) 0:=by
 rw[List.set_append_right _ _ (by rw[UB]; omega),UB,Nat.sub_self,QwS,List.append_assoc,show n-i=(n-(i+1))+1 by omega,List.replicate_succ,List.set_cons_zero]
 rfl
theorem Qnx(a b:Nat)(n:Int)(ws:List Nat)(hw:Ws ws)(hn:n=((a*b:Nat):Int))(hok:QM n ws=true)(h1:1≤b)(h2:b≤64)(h3:a*b≤1048576)(K0:Nat→List Int→Option R):∀ (N i:Nat),i≤a→a-i<N →
  Q1u K0 N a (a:Int) (i:Int) (a:Int) (b:Int) n (ci ws) (ci (Qi0 ws b i++List.replicate (a-i) 0))=K0 a (ci (Qi0 ws b a))
 | 0,_,_,h=>by omega
 | N+1,i,g1,g2=>by
  have hle:a≤a*b:=Nat.le_mul_of_pos_right _ h1
  simp only[Q1u,Qn7]
  by_cases h:i<a
  ·have hm:i*b≤a*b:=Nat.mul_le_mul_right _ (by omega)
   rw[Q0 (by omega),Ze (by rw[←Int.natCast_mul]; omega) (by rw[←Int.natCast_mul]; omega),←Int.natCast_mul,Q3h _ _ hw _ _ (by omega) (by omega),Qrh hn hok h1 h2 h,Q0 (by omega),Q0 (by omega),Qb,List.length_append,UB,List.length_replicate,Q0 (by omega),Qm,Int.toNat_natCast,Qri,QIq [] ws b i a h,Q6 (by omega) (by omega),show (i:Int)+1=((i+1:Nat):Int) by omega]
   exact Qnx a b n ws hw hn hok h1 h2 h3 K0 N (i+1) (by omega) (by omega)
  ·have:i=a:=by omega
   subst this
   rw[Q1 (by omega),Nat.sub_self,List.replicate_zero,List.append_nil]
theorem Qny(N w n:Int)(ws:List Nat)(hw:Ws ws)(K:List Int→Option R):QhG N w n (ci ws) K=K (ci (Yn N w n ws)):=by
 rw[QoF]; unfold Qn8 Yn
 rw[Q3g N w n ws hw]
 cases hok:okI N w n ws with
 | false=>rfl
 | true=>
  obtain ⟨a,b,l,rfl,rfl,rfl,rfl,hl,f6,f7,f8,f9⟩:=QeU hok hw.1
  obtain ⟨_,g2,_⟩:=QCL hok hw rfl rfl
  rw[Bool.not_true,Ev.Q5,Q0 (by omega),Q0 (by omega),Q0 (by omega),Q0 (by omega),Qm,Int.toNat_natCast,if_pos rfl,QhF,QqA]; unfold Q9G
  refine (show _=_ from Qnx a b _ (wds l) hw rfl g2 f6 f7 f9 (fun (l399:Nat) (xs400:List Int)=>sel (decide (l399=List.length xs400)) (K xs400) none) NR 0 (by omega) (by have:=QT; omega)).trans ?_
  rw[Q0 (by rw[Qb,UB])]
  rfl
theorem Qy4{ws:List Nat}{b:Nat}(hb:b≤64)(n:Nat):∀ u∈Qi0 ws b n,u<2 ^ 64:=fun u h=>Nat.lt_of_lt_of_le (QKs ws b n u h) (Nat.pow_le_pow_right (by decide) hb)
end
end Go.Proofs.YtofblchonjfdbaaGreatDoor
namespace Go.Proofs.YtofblchonjfdbaaGreatDoor
open Go Go.Ev
section
variable {R : Type}
theorem QNE(x:Nat)(h0:x≠0)(hx:x<2 ^ 64):ZC .u64 (UC .u64 (J2 .u64 (x:Int) (QBX .u64 (x:Int))) 285870213051353865) 58=((2 ^ Lib.ctz 64 x*285870213051353865%18446744073709551616/288230376151711744:Nat):Int):=by
 have e:QBX .u64 (x:Int)=((2 ^ 64-x:Nat):Int):=by rw[QDx,Ev.Qc8]; omega
 rw[e,Q0E _ _ hx (by omega),(Lib.lowest_bit 64 x h0 hx).1,show (285870213051353865:Int)=((285870213051353865:Nat):Int) from rfl,QGm,show (58:Int)=((58:Nat):Int) from rfl,Q0F _ _ (Nat.mod_lt _ (by decide))]
theorem QNF:∀ k:Nat,k<64→2 ^ k*285870213051353865%18446744073709551616/288230376151711744<64∧Qt4.getD (2 ^ k*285870213051353865%18446744073709551616/288230376151711744) 0=(k:Int):=by decide +kernel
theorem Qba(x:Nat)(hx:x<2 ^ 64)(K:Int→Option R):Yc (x:Int) K=K ((Lib.ctz 64 x:Nat):Int):=by
 rw[Q24]; unfold Jn
 by_cases h0:x=0
 ·rw[Q0 (by omega)]; subst h0; rfl
 ·rw[Q1 (by omega),QNE x h0 hx]
  have hk:=(Lib.lowest_bit 64 x h0 hx).2
  obtain ⟨h1,h2⟩:=QNF _ hk
  rw[Q0 (Int.natCast_nonneg _),Q0 (by omega),Int.toNat_natCast,h2,QhW (by omega) (by omega)]
theorem Qi1(k:Nat)(hk:k≤64)(K:Int→Option R):∀ (N:Nat) (x i:Nat),x<2 ^ 64→i≤k→k-i<N→(k-i<pc x 64)→∃ y:Nat,y<2 ^ 64∧y≠0∧Qdh y 0=Qdh x ((k-i:Nat):Int)∧Jy K N (x:Int) (k:Int) (i:Int)=K (y:Int)
 | 0,_,_,_,_,h,_=>by omega
 | N+1,x,i,hx,hi,hN,hp=>by
  have h0:x≠0:=by rintro rfl; rw[Qqw]at hp; omega
  simp only[Jy,QhA]
  by_cases hlt:i<k
  ·have hc:=Qqz h0 hx
   obtain ⟨y,h1,h2,h3,h4⟩:=Qi1 k hk K N (x &&& (x-1)) (i+1) (QwM hx) (by omega) (by omega) (by omega)
   refine ⟨y,h1,h2,?_,?_⟩
   ·rw[h3,show ((k-i:Nat):Int)=((k-(i+1):Nat):Int)+1 by omega,QAx h0 hx (by omega)]
   ·rw[Q0 (by omega),QeR (by omega) (by omega),show (x:Int)-1=((x-1:Nat):Int) by omega,Q0E _ _ hx (by omega),Q6 (by omega) (by omega),show (i:Int)+1=((i+1:Nat):Int) by omega,h4]
  ·have:i=k:=by omega
   subst this
   rw[Nat.sub_self]
   exact ⟨x,hx,h0,rfl,Q1 (by omega)⟩
theorem Q1W(x:Nat)(hx:x<2 ^ 64)(k:Int)(K:Int→Option R):Q25 (x:Int) k K=K ((Qdh x k:Nat):Int):=by
 rw[QkZ]; unfold Qgq
 by_cases h:k<0
 ·rw[Q0 h]
  unfold Qdh
  rw[if_pos h]; rfl
 ·rw[Q1 h,Uq x hx]
  by_cases h1:((pc x 64:Nat):Int)≤k
  ·rw[Q0 h1,Qqy (i:=64) (.inr ⟨rfl,.inr h1⟩)]; rfl
  ·rw[Q1 h1,Qes]; unfold QaS
   have hp:=Q15 x 64
   obtain ⟨q,rfl⟩:∃ q:Nat,k=(q:Int):=⟨k.toNat,by omega⟩
   rw[Qeq]; unfold Q5R
   obtain ⟨y,a1,a2,a3,a4⟩:=Qi1 (R:=R) q (by omega) (fun n=>Yc n fun m=>K m) NR x 0 hx (by omega) (by have:=QT; omega) (by omega)
   rw[show (0:Int)=((0:Nat):Int) from rfl,a4,Qba y a1,←QAy a2 a1,a3]; rfl
end
end Go.Proofs.YtofblchonjfdbaaGreatDoor
namespace Go.Ev
open Go
theorem Quv(a b:Nat)(hb:b≤63)(h:a*2 ^ b<2 ^ 63):Qap .i64 (a:Int) (b:Int)=((a*2 ^ b:Nat):Int):=by
 rw[Qxx]
 have hb2:(IntKind.i64.bits)=64:=rfl
 rw[hb2,Int.toNat_natCast,Q7m,show min b 64=b by omega]
 have e:(2:Int) ^ b=((2 ^ b:Nat):Int):=by simp
 rw[e,←Int.natCast_mul]
 omega
theorem Quw(a b:Nat)(ha:a<2 ^ 63):ZC .i64 (a:Int) (b:Int)=((a/2 ^ b:Nat):Int):=by
 rw[Qxy]
 have hb:(IntKind.i64.bits)=64:=rfl
 rw[hb,Int.toNat_natCast]
 have e:(2:Int) ^ min b 64=((2 ^ min b 64:Nat):Int):=by simp
 rw[e,Int.fdiv_eq_ediv_of_nonneg _ (Int.natCast_nonneg _),←Int.natCast_ediv]
 congr 1
 by_cases h:b≤64
 ·rw[show min b 64=b by omega]
 ·rw[show min b 64=64 by omega,Nat.div_eq_of_lt (by omega),Nat.div_eq_of_lt (Nat.lt_of_lt_of_le ha (Nat.pow_le_pow_right (by decide) (by omega)))]
theorem QDP(a b:Nat)(ha:a<2 ^ 63)(hb:b<2 ^ 63):orW .i64 (a:Int) (b:Int)=((a ||| b:Nat):Int):=by
 rw[QBZ]
 have hx:a ||| b<2 ^ 63:=Nat.or_lt_two_pow ha hb
 show IntKind.i64.wrap ((BitVec.ofInt 64 (a:Int) ||| BitVec.ofInt 64 (b:Int)).toNat:Int)=_
 rw[BitVec.toNat_or,QhY a (by omega),QhY b (by omega),Q7m]
 omega
theorem QqE:∀ {a b:List Nat},a.Pairwise (· < ·)→b.Pairwise (· < ·)→(∀ x,x∈a↔x∈b)→a=b
 | [],[],_,_,_=>rfl
 | [],y::b,_,_,h=>by have:=(h y).2 (by simp); simp at this
 | x::a,[],_,_,h=>by have:=(h x).1 (by simp); simp at this
 | x::a,y::b,ha,hb,h=>by
  obtain ⟨a1,a2⟩:=List.pairwise_cons.1 ha
  obtain ⟨b1,b2⟩:=List.pairwise_cons.1 hb
  have e:x=y:=by
   have h1:=(h x).1 (by simp)
   have h2:=(h y).2 (by simp)
   rcases List.mem_cons.1 h1 with e|e
   ·exact e
   ·rcases List.mem_cons.1 h2 with e2|e2
    ·exact e2.symm
    ·have:=b1 x e; have:=a1 y e2; omega
  subst e
  rw[QqE a2 b2 (fun z=>?_)]
  constructor
  ·intro hz
   rcases List.mem_cons.1 ((h z).1 (List.mem_cons_of_mem _ hz)) with e|e
   ·have:=a1 z hz; omega
   ·exact e
  ·intro hz
   rcases List.mem_cons.1 ((h z).2 (List.mem_cons_of_mem _ hz)) with e|e
   ·have:=b1 z hz; omega
   ·exact e
def plN(l:List Bool)(n:Nat):List Nat:=(List.range n).filter fun i=>l.getD i false
def pl(l:List Bool):List Nat:=plN l l.length
theorem Qoj(l:List Bool):(pl l).Pairwise (· < ·):=List.Pairwise.filter _ List.pairwise_lt_range
theorem QCU{l:List Bool}{x:Nat}: x∈pl l↔l.getD x false=true:=by
 unfold pl plN
 rw[List.mem_filter,List.mem_range]
 constructor
 ·exact fun h=>h.2
 ·intro h
  refine ⟨?_,h⟩
  by_cases h2:x<l.length
  ·exact h2
  ·rw[QsP (by omega)]at h; cases h
theorem QoR{l:List Bool}{x:Nat}(h:x∈pl l):x<l.length:=by
 unfold pl plN at h
 rw[List.mem_filter,List.mem_range]at h
 exact h.1
theorem Qux(l:List Bool)(n:Nat):plN l (n+1)=plN l n++(if l.getD n false=true then [n] else []):=by
 unfold plN
 rw[List.range_succ,List.filter_append]
 congr 1
 simp only[List.filter_cons,List.filter_nil]
theorem Qbb(l:List Bool):∀ n,(plN l n).length=Qg l true n
 | 0=>rfl
 | n+1=>by
  rw[Qux,List.length_append,Qbb l n]
  simp only[Qg]
  cases l.getD n false<;>simp
theorem Qi2(l:List Bool):(pl l).length=Qg l true l.length:=Qbb l _
theorem QDQ{l:List Bool}{k i:Nat}(h:IsAt l true k i):∀ n,i<n→(plN l n).getD k 0=i
 | 0,hn=>by omega
 | n+1,hn=>by
  rw[Qux]
  by_cases e:i=n
  ·subst e
   rw[if_pos h.is,List.getD_eq_getElem?_getD,List.getElem?_append_right (by rw[Qbb,h.cnt]; exact Nat.le_refl _),Qbb,h.cnt]
   simp
  ·have h1:k<(plN l n).length:=by
    rw[Qbb,←h.cnt]
    exact QeT l true (by omega) h.is
   rw[List.getD_eq_getElem?_getD,List.getElem?_append_left h1,←List.getD_eq_getElem?_getD]
   exact QDQ h n (by omega)
theorem QIF{l:List Bool}{k i:Nat}(h:IsAt l true k i):(pl l).getD k 0=i:=QDQ h _ h.lt
theorem QDR{l:List Bool}{k:Nat}(h:k<(pl l).length):IsAt l true k ((pl l).getD k 0):=by
 rw[Qi2]at h
 obtain ⟨i,h1,_⟩:=Qyg l true k l.length (Nat.le_refl _) h
 rw[QIF h1]; exact h1
def pw(x:Nat):List Nat:=(List.range 64).filter fun i=>x.testBit i
theorem Qyk(x:Nat):(pw x).Pairwise (· < ·):=List.Pairwise.filter _ List.pairwise_lt_range
theorem Qpz{x i:Nat}: i∈pw x↔i<64∧x.testBit i=true:=by
 unfold pw; rw[List.mem_filter,List.mem_range]
theorem QDS:pw 0=[]:=by
 unfold pw; rw[List.filter_eq_nil_iff]; simp
theorem QKt(m j:Nat):(2*m+1).testBit (j+1)=(2*m).testBit (j+1):=by
 rw[Nat.testBit_succ,Nat.testBit_succ,show (2*m+1)/2=2*m/2 by omega]
theorem QsQ{x:Nat}(h0:x≠0)(hx:x<2 ^ 64):pw x=Qdh x 0::pw (x &&& (x-1)):=by
 rw[QAy h0 hx]
 obtain ⟨m,e,hc⟩:=QsO h0 hx
 generalize Lib.ctz 64 x=c at e hc
 subst e
 rw[Qum]
 have z:∀ i,i<64→((2 ^ c*(2*m+1)).testBit i=true↔i=c∨(2 ^ c*(2*m)).testBit i=true):=fun i hi=>by
  rw[QkB,QkB]
  by_cases h1:i<c
  ·simp[show ¬c≤i by omega]; omega
  by_cases h2:i=c
  ·subst h2; simp
  ·obtain ⟨j,hj⟩:∃ j,i-c=j+1:=⟨i-c-1,by omega⟩
   rw[hj,QKt]; simp[h2]
 have hz:(2 ^ c*(2*m)).testBit c=false:=by rw[QkB]; simp
 refine QqE (Qyk _) ?_ fun i=>?_
 ·refine List.pairwise_cons.2 ⟨fun i hi=>?_,Qyk _⟩
  have:=(Qpz.1 hi).2
  rw[QkB]at this
  simp at this
  rcases Nat.lt_or_ge c i with h|h
  ·exact h
  ·have:i=c:=by omega
   subst this
   have:=(Qpz.1 hi).2
   rw[hz]at this; cases this
 ·rw[List.mem_cons,Qpz,Qpz]
  constructor
  ·rintro ⟨h1,h2⟩
   rcases (z i h1).1 h2 with h|h
   ·exact .inl h
   ·exact .inr ⟨h1,h⟩
  ·rintro (h|⟨h1,h2⟩)
   ·subst h; exact ⟨hc,(z _ hc).2 (.inl rfl)⟩
   ·exact ⟨h1,(z _ h1).2 (.inr h2)⟩
theorem Quy(x:Nat):∀ n,((List.range n).filter fun i=>x.testBit i).length=pc x n
 | 0=>rfl
 | n+1=>by
  rw[List.range_succ,List.filter_append,List.length_append,Quy x n]
  simp only[pc]
  cases h:x.testBit n<;>simp[List.filter,h]
theorem QwV(x:Nat):(pw x).length=pc x 64:=Quy x 64
theorem Quz{x:Nat}(hx:x<2 ^ 64):x &&& (x-1)<2 ^ 64:=Nat.lt_of_le_of_lt Nat.and_le_left hx
theorem QIG:∀ (k x:Nat),x<2 ^ 64→k<pc x 64→(pw x).getD k 0=Qdh x (k:Int)
 | 0,x,hx,hk=>by
  have h0:x≠0:=fun e=>by subst e; rw[Qqw]at hk; omega
  rw[QsQ h0 hx]; rfl
 | k+1,x,hx,hk=>by
  have h0:x≠0:=fun e=>by subst e; rw[Qqw]at hk; omega
  have:=Qqz h0 hx
  rw[QsQ h0 hx,List.getD_cons_succ,QIG k _ (Quz hx) (by omega),←QAx h0 hx (by omega)]
  rfl
def plw:Nat→List Nat→List Nat
 | _,[]=>[]
 | j,w::ws=>(pw w).map (fun i=>64*j+i)++plw (j+1) ws
theorem QCV(w:Nat)(ws:List Nat)(i:Nat):QN (w::ws) i=if i<64 then w.testBit i else QN ws (i-64):=by
 unfold QN
 by_cases h:i<64
 ·rw[if_pos h,show i/64=0 by omega,show i%64=i by omega]; rfl
 ·rw[if_neg h,show i/64=(i-64)/64+1 by omega,List.getD_cons_succ,show (i-64)%64=i%64 by omega]
theorem Qyl:∀ (ws:List Nat) (j x:Nat),x∈plw j ws↔64*j≤x∧QN ws (x-64*j)=true
 | [],j,x=>by simp[plw,QN]
 | w::ws,j,x=>by
  unfold plw
  rw[List.mem_append,List.mem_map,Qyl ws (j+1) x,QCV]
  constructor
  ·rintro (⟨i,h,rfl⟩|⟨h1,h2⟩)
   ·obtain ⟨h1,h2⟩:=Qpz.1 h
    exact ⟨by omega,by rw[show 64*j+i-64*j=i by omega,if_pos h1]; exact h2⟩
   ·refine ⟨by omega,?_⟩
    rw[if_neg (by omega),show x-64*j-64=x-64*(j+1) by omega]; exact h2
  ·rintro ⟨h1,h2⟩
   by_cases h:x-64*j<64
   ·rw[if_pos h]at h2
    exact .inl ⟨x-64*j,Qpz.2 ⟨h,h2⟩,by omega⟩
   ·rw[if_neg h,show x-64*j-64=x-64*(j+1) by omega]at h2
    exact .inr ⟨by omega,h2⟩
theorem QAD:∀ (ws:List Nat) (j:Nat),(plw j ws).Pairwise (· < ·)
 | [],_=>by simp[plw]
 | w::ws,j=>by
  unfold plw
  refine List.pairwise_append.2 ⟨?_,QAD ws (j+1),?_⟩
  ·rw[List.pairwise_map]
   exact (Qyk w).imp (by intro a b h; omega)
  ·intro a ha b hb
   obtain ⟨i,hi,rfl⟩:=List.mem_map.1 ha
   have:=(Qpz.1 hi).1
   have:=((Qyl ws (j+1) b).1 hb).1
   omega
theorem QkF(l:List Bool):plw 0 (wds l)=pl l:=by
 refine QqE (QAD _ _) (Qoj l) fun x=>?_
 rw[Qyl,QCU,Nat.mul_zero,Nat.sub_zero,ZU]
 simp
theorem QuA(ws:List Nat)(j:Nat)(h:j<ws.length)(q:Nat):plw q (ws.drop j)=(pw (ws.getD j 0)).map (fun i=>64*q+i)++plw (q+1) (ws.drop (j+1)):=by
 rw[List.drop_eq_getElem_cons h]
 simp only[plw]
 rw[List.getD_eq_getElem?_getD,List.getElem?_eq_getElem h]; rfl
theorem Qym(ws:List Nat)(j q:Nat)(h:ws.length≤j):plw q (ws.drop j)=[]:=by
 rw[List.drop_of_length_le h]; rfl
def Qca(qs:List Nat)(b:List Bool):List Bool:=qs.foldl (fun b q=>b.set q true) b
theorem Qcb:∀ (qs:List Nat) (b:List Bool),(Qca qs b).length=b.length
 | [],_=>rfl
 | q::qs,b=>by show (Qca qs (b.set q true)).length=_; rw[Qcb qs]; simp
theorem Qrm:∀ (qs:List Nat) (b:List Bool),(∀ q∈qs,q<b.length)→∀ i,(Qca qs b).getD i false=(decide (i∈qs)||b.getD i false)
 | [],b,_,i=>by simp[Qca]
 | q::qs,b,h,i=>by
  have hq:=h q (by simp)
  show (Qca qs (b.set q true)).getD i false=_
  rw[Qrm qs _ (fun q' h'=>by rw[List.length_set]; exact h q' (List.mem_cons_of_mem _ h'))]
  by_cases e:i=q
  ·subst e
   rw[List.getD_eq_getElem?_getD,List.getElem?_set_self hq]; simp
  ·rw[List.getD_eq_getElem?_getD,List.getElem?_set_ne (by omega),←List.getD_eq_getElem?_getD]; simp[e]
theorem QwW(L i:Nat):(List.replicate L false).getD i false=false:=by
 rw[List.getD_eq_getElem?_getD]
 by_cases h:i<L
 ·rw[List.getElem?_replicate_of_lt h]; rfl
 ·rw[List.getElem?_eq_none (by simp; omega)]; rfl
theorem QDT{qs:List Nat}{L:Nat}(hr:qs.Pairwise (· < ·))(hl:∀ q∈qs,q<L):pl (Qca qs (List.replicate L false))=qs:=by
 refine QqE (Qoj _) hr fun x=>?_
 rw[QCU,Qrm qs _ (by simpa using hl),QwW]; simp
theorem QDU(l:List Bool):Qca (pl l) (List.replicate l.length false)=l:=by
 refine QwU (by rw[Qcb]; simp) fun i _=>?_
 rw[Qrm _ _ (fun q hq=>by rw[List.length_replicate]; exact QoR hq),QwW,Bool.or_false]
 have:=@QCU l i
 cases h:l.getD i false
 ·rw[h]at this; simp at this; simp[this]
 ·simp[this.2 h]
def hq(w:Nat):Nat→List Nat→List Nat
 | _,[]=>[]
 | i,p::ps=>(p/2 ^ w+i)::hq w (i+1) ps
theorem Qbc(w:Nat):∀ (ps:List Nat) (i:Nat),(hq w i ps).length=ps.length
 | [],_=>rfl
 | p::ps,i=>by simp[hq,Qbc w ps]
theorem QCW(w:Nat):∀ (ps:List Nat) (i k:Nat),k<ps.length→(hq w i ps).getD k 0=ps.getD k 0/2 ^ w+(i+k)
 | [],_,_,h=>by simp at h
 | p::ps,i,0,_=>rfl
 | p::ps,i,k+1,h=>by
  simp only[hq,List.getD_cons_succ]
  rw[QCW w ps (i+1) k (by simpa using h)]; omega
theorem QMi(w:Nat):∀ (ps:List Nat) (i a:Nat),(∀ p∈ps,a≤p)→∀ q∈hq w i ps,a/2 ^ w+i≤q
 | [],_,_,_,q,h=>by simp[hq]at h
 | p::ps,i,a,ha,q,h=>by
  rcases List.mem_cons.1 h with rfl|h
  ·have:=Nat.div_le_div_right (c:=2 ^ w) (ha p (by simp)); omega
  ·have:=QMi w ps (i+1) a (fun p' h'=>ha p' (List.mem_cons_of_mem _ h')) q h; omega
theorem QDV(w:Nat):∀ (ps:List Nat) (i:Nat),ps.Pairwise (· < ·)→(hq w i ps).Pairwise (· < ·)
 | [],_,_=>by simp[hq]
 | p::ps,i,h=>by
  obtain ⟨h1,h2⟩:=List.pairwise_cons.1 h
  refine List.pairwise_cons.2 ⟨fun q hq'=>?_,QDV w ps (i+1) h2⟩
  have:=QMi w ps (i+1) p (fun p' h'=>Nat.le_of_lt (h1 p' h')) q hq'
  omega
theorem QMj(w n:Nat):∀ (ps:List Nat) (i:Nat),(∀ p∈ps,p≤n)→∀ q∈hq w i ps,q<n/2 ^ w+i+ps.length
 | [],_,_,q,h=>by simp[hq]at h
 | p::ps,i,ha,q,h=>by
  rcases List.mem_cons.1 h with rfl|h
  ·have:=Nat.div_le_div_right (c:=2 ^ w) (ha p (by simp)); simp only[List.length_cons]; omega
  ·have:=QMj w n ps (i+1) (fun p' h'=>ha p' (List.mem_cons_of_mem _ h')) q h; simp only[List.length_cons]; omega
def Q5Y(n m:Nat):Nat:=if m=0 then 0 else bitLen (n/m)-1
theorem QDW{n m:Nat}(h:n<2 ^ 21):Q5Y n m≤20:=by
 unfold Q5Y
 split
 ·omega
 ·have:bitLen (n/m)≤21:=Q8G (Nat.lt_of_le_of_lt (Nat.div_le_self _ _) h)
  omega
def Q0Z(w:Nat)(ps:List Nat):List Nat:=if w=0 then [] else ps.map (· % 2 ^ w)
def QDX(w n:Nat)(ps:List Nat):List Bool:=Qca (hq w 0 ps) (List.replicate (ps.length+n/2 ^ w+1) false)
theorem Qyn(w n:Nat)(ps:List Nat):(QDX w n ps).length=ps.length+n/2 ^ w+1:=by
 unfold QDX; rw[Qcb,List.length_replicate]
theorem QMk{w n:Nat}{ps:List Nat}(h:∀ p∈ps,p≤n):∀ q∈hq w 0 ps,q<ps.length+n/2 ^ w+1:=fun q hq'=>by
 have:=QMj w n ps 0 h q hq'; omega
theorem QKu{w n:Nat}{ps:List Nat}(hr:ps.Pairwise (· < ·))(h:∀ p∈ps,p≤n):pl (QDX w n ps)=hq w 0 ps:=QDT (QDV w ps 0 hr) (QMk h)
theorem QKv(w:Nat)(ps:List Nat):∀ u∈Q0Z w ps,u<2 ^ w:=fun u h=>by
 unfold Q0Z at h
 split at h
 ·simp at h
 ·obtain ⟨p,_,rfl⟩:=List.mem_map.1 h
  exact Nat.mod_lt _ (Nat.two_pow_pos _)
theorem Q8K(w:Nat)(ps:List Nat):(Q0Z w ps).length=if w=0 then 0 else ps.length:=by
 unfold Q0Z; split<;>simp
theorem QAE{w:Nat}(h:w≠0){ps:List Nat}{i:Nat}(hi:i<ps.length):(Q0Z w ps).getD i 0=ps.getD i 0%2 ^ w:=by
 unfold Q0Z
 rw[if_neg h,List.getD_eq_getElem?_getD,List.getElem?_map,List.getElem?_eq_getElem hi,List.getD_eq_getElem?_getD,List.getElem?_eq_getElem hi]; rfl
def pF(w:Nat)(low:List Nat)(i q:Nat):Nat:=if 0<w∧i<low.length then ((q-i)*2 ^ w) ||| (low.getD i 0%2 ^ w) else (q-i)*2 ^ w
def Qot(w:Nat)(low:List Nat)(M N:Nat):List Nat→Nat→List Bool→Bool×List Bool
 | [],_,out=>(true,out)
 | q::qs,i,out=>if i<M∧pF w low i q<N then Qot w low M N qs (i+1) (out.set (pF w low i q) true) else (false,out)
theorem QnI(w:Nat)(low:List Nat)(M N:Nat):∀ (qs:List Nat) (i:Nat) (out:List Bool),(Qot w low M N qs i out).2.length=out.length
 | [],_,_=>rfl
 | q::qs,i,out=>by
  unfold Qot
  split
  ·rw[QnI w low M N qs]; simp
  ·rfl
theorem QCX{a b w:Nat}(h:b<2 ^ w):(a*2 ^ w) ||| b=a*2 ^ w+b:=by
 rw[Nat.mul_comm,←Nat.two_pow_add_eq_or_of_lt h]
theorem QMl{w n:Nat}{ps:List Nat}{i:Nat}(hi:i<ps.length)(hn:∀ p∈ps,p≤n):pF w (Q0Z w ps) i ((hq w 0 ps).getD i 0)=ps.getD i 0:=by
 unfold pF
 rw[QCW w ps 0 i hi,show ps.getD i 0/2 ^ w+(0+i)-i=ps.getD i 0/2 ^ w by rw[Nat.zero_add,Nat.add_sub_cancel],Q8K]
 by_cases h:w=0
 ·subst h; simp
 ·rw[if_pos ⟨by omega,by rw[if_neg h]; exact hi⟩,QAE h hi,Nat.mod_mod,QCX (Nat.mod_lt _ (Nat.two_pow_pos _))]
  exact Nat.div_add_mod' _ _
theorem QAF{w n:Nat}{ps:List Nat}(hn:∀ p∈ps,p<n):∀ (f i:Nat) (out:List Bool),i+f=ps.length →
  Qot w (Q0Z w ps) ps.length n ((hq w 0 ps).drop i) i out=(true,Qca (ps.drop i) out)
 | 0,i,out,h=>by
  rw[List.drop_of_length_le (by rw[Qbc]; omega),List.drop_of_length_le (by omega)]; rfl
 | f+1,i,out,h=>by
  have hi:i<ps.length:=by omega
  have hi2:i<(hq w 0 ps).length:=by rw[Qbc]; exact hi
  have e:=QMl (w:=w) (n:=n) hi (fun p h=>Nat.le_of_lt (hn p h))
  rw[List.drop_eq_getElem_cons hi2,List.drop_eq_getElem_cons hi]
  have e1:(hq w 0 ps)[i]=(hq w 0 ps).getD i 0:=by rw[List.getD_eq_getElem?_getD,List.getElem?_eq_getElem hi2]; rfl
  have e2:ps[i]=ps.getD i 0:=by rw[List.getD_eq_getElem?_getD,List.getElem?_eq_getElem hi]; rfl
  unfold Qot
  rw[e1,e,if_pos ⟨hi,by rw[←e2]; exact hn _ (List.getElem_mem hi)⟩,QAF hn f (i+1) _ (by omega),e2]
  rfl
end Go.Ev
