import Derived.Test.YtofblchonjfdbaaGreatDoorW14
import Derived.Test.YtofblchonjfdbaaGreatDoorRrrC
import Derived.Test.YtofblchonjfdbaaGreatDoorIntsRefO
import Derived.Test.YtofblchonjfdbaaGreatDoorW12
namespace Go.Proofs.YtofblchonjfdbaaGreatDoor
open Go Go.Ev
section
variable {R : Type}
theorem Q8T(x:Nat)(hx:x<2 ^ 64)(n:Int)(h2:n≤9223372036854775807)(K:Int→Option R):∀ (N i:Nat),i≤min n.toNat 64→64-i<N→ZQ K N (x:Int) n ((pc x i:Nat):Int) (i:Int)=K ((QcY x n:Nat):Int)
 | 0,_,_,h=>by omega
 | N+1,i,hi,hN=>by
  simp only[ZQ,Q8q]
  have hl:=Q15 x i
  by_cases h:i<min n.toNat 64
  ·rw[Q0 (by omega),Q0 (by omega),Q6g]
   unfold Q1C
   rw[ZL (by omega) (by omega),Q0 (by omega),Q6 (a:=(i:Int)) (by omega) (by omega),Q0F _ _ hx,show (2:Int)=((2:Nat):Int) from rfl,Qai]
   have ih:=Q8T x hx n h2 K N (i+1) (by omega) (by omega)
   by_cases hb:x/2 ^ i%2=1
   ·rw[Q0 (by omega),Q6 (by omega) (by omega)]
    simp only[pc,(QfL x i).1 hb,Bool.toNat_true]at ih
    exact ih
   ·rw[Q1 (by omega)]
    have:x.testBit i=false:=by
     cases h:x.testBit i with
     | false=>rfl
     | true=>exact absurd ((QfL x i).2 h) hb
    simp only[pc,this,Bool.toNat_false]at ih
    exact ih
  ·have e:i=min n.toNat 64:=by omega
   have:K ((pc x i:Nat):Int)=K ((QcY x n:Nat):Int):=by rw[e]; rfl
   by_cases h64:i<64
   ·rw[Q0 (by omega),Q1 (by omega),this]
   ·rw[Q1 (by omega),this]
theorem Qid(x:Nat)(hx:x<2 ^ 64)(n:Int)(h2:n≤9223372036854775807)(K:Int→Option R):Q2x (x:Int) n K=K ((QcY x n:Nat):Int):=by
 rw[Q9Z]; unfold Q5l
 rw[Q6h]; unfold US
 exact Q8T x hx n h2 _ NR 0 (Nat.zero_le _) (by have:=QT; omega)
end
end Go.Proofs.YtofblchonjfdbaaGreatDoor
namespace Go.Proofs.YtofblchonjfdbaaGreatDoor
open Go Go.Ev
section
variable {R : Type}
theorem Qsf(n:Nat)(k:Int)(i:Nat)(hi:i+1≤n)(hn:n≤62)(K:Int→Int→Nat→Int→List Int→Option R):∀ (N j:Nat),j≤i+1→j<N→Z9 K N (n:Int) k (n+1) ((i+1:Nat):Int) (j:Int) (tab (Qaj i j) (n+1))=K (n:Int) k (n+1) ((i+1:Nat):Int) (tab (ch (i+1)) (n+1))
 | 0,_,_,h=>by omega
 | N+1,j,h1,h2=>by
  simp only[Z9,Q5m]
  cases j with
  | zero=>rw[Q1 (by omega),QwZ]
  | succ j=>
   have e0:QB .i64 ((j+1:Nat):Int) 1=(j:Int):=by rw[Qp (by omega) (by omega)]; omega
   have a1:=QqL (n:=i+1) (k:=j+1) (by omega)
   have e1:Qaj i (j+1) (j+1)+Qaj i (j+1) j=ch (i+1) (j+1):=by
    unfold Qaj
    rw[if_neg (by omega),if_neg (by omega),ch]; omega
   have ea:Qe .u64 ((tab (Qaj i (j+1)) (n+1)).getD (Int.toNat ((j+1:Nat):Int)) 0) ((tab (Qaj i (j+1)) (n+1)).getD (Int.toNat (j:Int)) 0)=((Qaj i (j+1) (j+1)+Qaj i (j+1) j:Nat):Int):=by
    rw[Int.toNat_natCast,Int.toNat_natCast,QfM _ (by omega),QfM _ (by omega),Qqx (by omega) (by omega)]; omega
   rw[Q2U,e0,ea,Q0 (by omega),Q0 (by omega),Q0 (by omega),Q0 (by omega),Q0 (by omega),Q0 (by omega),Q0 (by omega),Q0 (by omega),Q0 (by omega),Q0 (by omega),Qm,Int.toNat_natCast,Qx0 i j (n+1) (by omega)]
   exact Qsf n k i hi hn K N j (by omega) (by omega)
theorem Qsg(n:Nat)(k:Int)(hn:n≤62)(K:Int→Nat→List Int→Option R):∀ (N i:Nat),i≤n→n-i<N→Zk K N (n:Int) k (n+1) ((i+1:Nat):Int) (tab (ch i) (n+1))=K k (n+1) (tab (ch n) (n+1))
 | 0,_,_,h=>by omega
 | N+1,i,h1,h2=>by
  simp only[Zk,Q6i]
  by_cases h:i<n
  ·rw[Q0 (by omega),Q3e,←QuO i (n+1)]; unfold YG
   refine (Qsf n k i (by omega) hn _ NR (i+1) (Nat.le_refl _) (by have:=QT; omega)).trans ?_
   rw[Q6 (by omega) (by omega),show ((i+1:Nat):Int)+1=((i+1+1:Nat):Int) by omega]
   exact Qsg n k hn K N (i+1) (by omega) (by omega)
  ·have:i=n:=by omega
   subst this
   rw[Q1 (by omega)]
theorem QKJ(n:Nat):(List.replicate (n+1) (0:Int)).set 0 1=tab (ch 0) (n+1):=by
 apply List.ext_getElem?
 intro j
 rw[List.getElem?_set,QnM,List.getElem?_replicate,List.length_replicate]
 cases j with
 | zero=>rw[if_pos rfl,if_pos (by omega),if_pos (by omega)]; rfl
 | succ j=>
  rw[if_neg (by omega),Qdi 0 (j+1) (by omega)]; rfl
theorem U4(n k:Int)(K:Int→Option R):Y1 n k K=K ((chI n k:Nat):Int):=by
 rw[Q76]; unfold Q2y chI
 by_cases h1:n<0
 ·rw[Q0 h1,if_neg (by omega)]; rfl
 by_cases h2:62<n
 ·rw[Q1 h1,Q0 h2,if_neg (by omega)]; rfl
 by_cases h3:k<0
 ·rw[Q1 h1,Q1 h2,Q0 h3,if_neg (by omega)]; rfl
 by_cases h4:n<k
 ·rw[Q1 h1,Q1 h2,Q1 h3,Q0 h4,if_neg (by omega)]; rfl
 obtain ⟨a,rfl⟩:∃ a:Nat,n=(a:Int):=⟨n.toNat,by omega⟩
 obtain ⟨b,rfl⟩:∃ b:Nat,k=(b:Int):=⟨k.toNat,by omega⟩
 rw[Q1 h1,Q1 h2,Q1 h3,Q1 h4,if_pos ⟨by omega,by omega,by omega,by omega⟩,Q4v]; unfold Q0d
 have e1:Qe .i64 (a:Int) 1=((a+1:Nat):Int):=by rw[Q6 (by omega) (by omega)]; omega
 rw[e1,Q0 (by omega),Q0 (by omega),Q0 (by omega),Q0 (by omega),Qm,Int.toNat_natCast,Q0 (by omega),Q0 (by rw[List.length_replicate]; omega),Qm,QKJ,Q4u]; unfold YX
 refine (Qsg a (b:Int) (by omega) _ NR 0 (by omega) (by have:=QT; omega)).trans ?_
 rw[Q2U,Int.toNat_natCast,Int.toNat_natCast,Q0 (by omega),Q0 (by omega),Q0 (by omega),QfM _ (by omega)]
theorem Qan(x:Nat)(hx:x<2 ^ 64)(n:Nat)(hn:n≤62)(c:Int)(K0:Int→Int→Option R):∀ (N m o:Nat),m≤n→m<N→o+Q1Y x m≤4611686018427387904→Zl K0 N (x:Int) c (o:Int) ((pc x m:Nat):Int) ((m:Int)-1)=K0 c ((o+Q1Y x m:Nat):Int)
 | 0,_,_,_,h,_=>by omega
 | N+1,m,o,h1,h2,h3=>by
  simp only[Zl,Q6j]
  cases m with
  | zero=>rw[Q1 (by omega)]; rfl
  | succ m=>
   have e0:((m+1:Nat):Int)-1=(m:Int):=by omega
   have e1:QB .i64 (m:Int) 1=(m:Int)-1:=Qp (by omega) (by omega)
   have hb:=QfL x m
   have hs:=Qdj x m
   have hl:=Q15 x m
   rw[e0,Q0 (by omega),ZL (by omega) (by omega),Q0 (by omega),Q0F _ _ hx,show (2:Int)=((2:Nat):Int) from rfl,Qai,e1]
   by_cases hbit:x.testBit m=true
   ·have g:=hb.2 hbit
    have eo:Q1Y x (m+1)=Q1Y x m+ch m (pc x (m+1)):=by simp only[Q1Y]; rw[if_pos hbit]
    rw[if_pos hbit]at hs
    have hcl:=QqL (n:=m) (k:=pc x (m+1)) (by omega)
    have ih:=Qan x hx n hn c K0 N m (o+ch m (pc x (m+1))) (by omega) (by omega) (by omega)
    rw[Q0 (by omega),U4,Qi5 m _ (by omega),Qqx (by omega) (by omega),Qp (by omega) (by omega),show ((pc x (m+1):Nat):Int)-1=((pc x m:Nat):Int) by omega,←Int.natCast_add,ih,eo]
    congr 2; omega
   ·have g:¬x/2 ^ m%2=1:=fun k=>hbit (hb.1 k)
    have eo:Q1Y x (m+1)=Q1Y x m:=by simp only[Q1Y]; rw[if_neg hbit]; rfl
    rw[if_neg hbit]at hs
    replace hs:pc x (m+1)=pc x m:=by omega
    rw[Q1 (by omega),hs,Qan x hx n hn c K0 N m o (by omega) (by omega) (by omega),eo]
theorem Qf3(x:Nat)(hx:x<2 ^ 64)(n:Nat)(hn:n≤62)(K:Int→Int→Option R):Q0x (x:Int) (n:Int) K=K ((pc x n:Nat):Int) ((Q1Y x n:Nat):Int):=by
 rw[Q77]; unfold Q2z
 have hlt:=QqM x n
 have hcl:=QqL (n:=n) (k:=pc x n) hn
 have er:QcY x (n:Int)=pc x n:=by unfold QcY; congr 1; omega
 rw[Q1 (by omega),Q1 (by omega),Q4x]; unfold Q0e
 rw[Qid x hx _ (by omega),er,Qp (by omega) (by omega),Q4w]; unfold YY
 refine (Qan x hx n hn _ _ NR n 0 (Nat.le_refl _) (by have:=QT; omega) (by omega)).trans ?_
 rw[Nat.zero_add]
theorem Qbj(n:Nat)(hn:n≤62)(K0:Int→Option R):∀ (N m k off x:Nat),m≤n→m<N→k≤62→off<2 ^ 64→x%2 ^ m=0→x+2 ^ m≤2 ^ n→Zw K0 N (k:Int) (off:Int) (x:Int) ((m:Int)-1)=K0 ((x+Qdk m k off:Nat):Int)
 | 0,_,_,_,_,_,h,_,_,_,_=>by omega
 | N+1,m,k,off,x,h1,h2,hk,ho,hx,hx2=>by
  have hp:2 ^ n≤2 ^ 62:=Nat.pow_le_pow_right (by decide) hn
  simp only[Zw,Q7k]
  cases m with
  | zero=>rw[Q1 (by omega)]; rfl
  | succ m=>
   have e0:((m+1:Nat):Int)-1=(m:Int):=by omega
   have e1:QB .i64 (m:Int) 1=(m:Int)-1:=Qp (by omega) (by omega)
   rw[e0,Q0 (by omega)]
   simp only[Qdk]
   by_cases h0:k=0
   ·subst h0; rw[Q1 (by omega),if_pos rfl]; rfl
   ·have hpm:2 ^ (m+1)=2 ^ m*2:=Nat.pow_succ 2 m
    have hcl:=QqL (n:=m) (k:=k) (by omega)
    have hxm:=QAQ hx
    rw[Q0 (by omega),Q5F]; unfold Q0X
    rw[U4,Qi5 m k (by omega),if_neg h0,e1]
    by_cases h:ch m k≤off
    ·rw[Q0 (by omega),if_pos h,ZL (by omega) (by omega),Q0 (by omega),Qp (by omega) (by omega),QeR (by omega) (by omega),show (1:Int)=((1:Nat):Int) from rfl,Q3i _ _ (by omega),Nat.one_mul,Nat.mod_eq_of_lt (by omega),QbB _ _ (by omega) (by omega),QIS hx,
      show ((off:Nat):Int)-((ch m k:Nat):Int)=((off-ch m k:Nat):Int) by omega,show ((k:Nat):Int)-((1:Nat):Int)=((k-1:Nat):Int) by omega]
     refine (Qbj n hn K0 N m (k-1) (off-ch m k) (x+2 ^ m) (by omega) (by omega) (by omega) (by omega) (by rw[Nat.add_mod_right]; exact hxm) (by omega)).trans ?_
     rw[Nat.add_assoc]
    ·rw[Q1 (by omega),if_neg h]
     exact Qbj n hn K0 N m k off x (by omega) (by omega) hk ho hxm (by omega)
theorem Q12(n k:Int)(off:Nat)(ho:off<2 ^ 64)(K:Int→Bool→Option R):Q1h n k (off:Int) K=if chI n k≤off then K 0 false else K ((Qdk n.toNat k.toNat off:Nat):Int) true:=by
 rw[Q8C]; unfold Q44
 rw[U4]
 by_cases h:chI n k≤off
 ·rw[Q0 (by omega),if_pos h]
 ·rw[Q1 (by omega),if_neg h]
  have hc:0≤n∧n≤62∧0≤k∧k≤n:=by
   apply Decidable.byContradiction
   intro hc
   have:chI n k=0:=if_neg hc
   omega
  obtain ⟨a,rfl⟩:∃ a:Nat,n=(a:Int):=⟨n.toNat,by omega⟩
  obtain ⟨b,rfl⟩:∃ b:Nat,k=(b:Int):=⟨k.toNat,by omega⟩
  rw[Q5G,Qp (by omega) (by omega)]; unfold Up
  refine (Qbj a (by omega) _ NR a b off 0 (Nat.le_refl _) (by have:=QT; omega) (by omega) ho (Nat.zero_mod _) (by omega)).trans ?_
  rw[Nat.zero_add,Int.toNat_natCast,Int.toNat_natCast]
theorem Q13(n k:Int)(K:Int→Option R):Ja n k K=K ((QAR n k:Nat):Int):=by
 rw[Q8r]; unfold Q3S QAR
 rw[U4]
 have hl:=QIQ n k
 by_cases h:chI n k=0
 ·rw[h,Q0 (by omega),if_pos rfl]; rfl
 ·rw[Q1 (by omega),if_neg h,QeR (by omega) (by omega),show ((chI n k:Nat):Int)-1=((chI n k-1:Nat):Int) by omega,Q2V _ (by omega)]
end
end Go.Proofs.YtofblchonjfdbaaGreatDoor
namespace Go.Proofs.YtofblchonjfdbaaGreatDoor
open Go Go.Ev
section
variable {R : Type}
theorem Qbi(l:List Bool)(hl:l.length≤1048576)(i:Nat)(hi:i<NB l)(K0:Int→Option R):∀ (F k:Nat),k≤min 15 (l.length-15*i)→min 15 (l.length-15*i)-k<F →
  Zt K0 F ((15*i:Nat):Int) ((Zq (wds l) (15*i) k:Nat):Int) (k:Int) (l.length:Int) (ci (wds l))=K0 ((bw l i:Nat):Int)
 | 0,_,_,h=>by omega
 | F+1,k,h1,h2=>by
  have hn:=Qcc.1 hi
  simp only[Zt,Q75]
  by_cases h:k<min 15 (l.length-15*i)
  ·have hs:=Q8H (wds l) (15*i) k
   have hp:2 ^ k≤2 ^ 15:=Nat.pow_le_pow_right (by decide) (by omega)
   have hnx:=Qsb (wds l) (15*i) k
   rw[Q0 (by omega),Q6 (a:=((15*i:Nat):Int)) (by omega) (by omega),Q0 (by omega),Q5j]; unfold Q0S
   rw[Q6 (a:=((15*i:Nat):Int)) (by omega) (by omega),←Int.natCast_add,ZJ _ _ (fun w hw=>Q48 hw) _ (by rw[Qn]; omega) (by omega),Q6 (by omega) (by omega),show (k:Int)+1=((k+1:Nat):Int) by omega]
   cases hb:QN (wds l) (15*i+k) with
   | true=>
    rw[hb,if_pos rfl]at hnx
    have e1:orW .u64 ((Zq (wds l) (15*i) k:Nat):Int) (Qap .u64 1 (QV .u64 (k:Int)))=((Zq (wds l) (15*i) (k+1):Nat):Int):=by
     rw[ZL (by omega) (by omega),show (1:Int)=((1:Nat):Int) from rfl,Q3i _ _ (by omega),Nat.one_mul,Nat.mod_eq_of_lt (by omega),QbB _ _ (by omega) (by omega),hnx]
    rw[Ev.Q8,Q0 (by rw[ZL (by omega) (by omega)]; omega),e1]
    exact Qbi l hl i hi K0 F (k+1) (by omega) (by omega)
   | false=>
    rw[hb,if_neg (by simp)]at hnx
    rw[Ev.Q5,←hnx]
    exact Qbi l hl i hi K0 F (k+1) (by omega) (by omega)
  ·have e:k=min 15 (l.length-15*i):=by omega
   have e2:Zq (wds l) (15*i) k=bw l i:=by rw[e,QuH]
   rw[e2]
   by_cases h15:k<15
   ·rw[Q0 (by omega),Q6 (by omega) (by omega),Q1 (by omega)]
   ·rw[Q1 (by omega)]
theorem QgO(l:List Bool)(hl:l.length≤1048576)(i:Nat)(hi:i<NB l)(K:Int→Option R):Q1e (l.length:Int) (ci (wds l)) ((15*i:Nat):Int) K=K ((bw l i:Nat):Int):=by
 rw[Q8p]; unfold Q3P
 rw[Q5k]; unfold Uk
 have e:Zq (wds l) (15*i) 0=0:=rfl
 have:=Qbi l hl i hi K NR 0 (by omega) (by have:=QT; omega)
 rw[e]at this
 exact this
theorem QnO(u:Nat)(hu:u<2 ^ 64)(w:Nat)(hw:w≤64)(K0:Nat→List Bool→Option R):∀ (F k:Nat),k≤w→w-k<F →
  Y7 K0 F (u:Int) (w:Int) k (k:Int) (Q2T u k)=K0 w (Q2T u w)
 | 0,_,_,h=>by omega
 | F+1,k,h1,h2=>by
  simp only[Y7,Qa1]
  by_cases h:k<w
  ·have e:Q2T u k++[decide (YP (ZC .u64 (u:Int) (QV .u64 (k:Int))) 2=1)]=Q2T u (k+1):=by rw[Qyw _ _ hu (by omega),Qrt]
   rw[Q0 (by omega),Q0 (by rw[ZL (by omega) (by omega)]; omega),Q0 (by rw[QA]),Q0 (by omega),Qm,e,Q6 (by omega) (by omega),show (k:Int)+1=((k+1:Nat):Int) by omega]
   exact QnO u hu w hw K0 F (k+1) (by omega) (by omega)
  ·have:k=w:=by omega
   subst this
   rw[Q1 (by omega)]
theorem QkL(u:Nat)(hu:u<2 ^ 64)(w:Nat)(hw:w≤64)(K:List Bool→Option R):Q4y (u:Int) (w:Int) K=K (Q2T u w):=by
 rw[Qaz]; unfold Q6I
 rw[Q79]; unfold Jq
 refine (show _=_ from QnO u hu w hw (fun v2 v3=>sel (decide (v2=List.length v3)) (K v3) none) NR 0 (by omega) (by have:=QT; omega)).trans ?_
 rw[Q0 (QA u w).symm]
theorem Qx4(l:List Bool)(hl:l.length≤1048576)(i:Nat)(hi:i<max 1 (NB l))(o:Int)(a b c d e f g h j k:Int)(p q:Nat)(xs ys:List Int)(K0:Nat→Nat→Int→Int→Int→List Int→Int→Int→Int→Int→Int→Int→Int→Int→Int→Int→Nat→Nat→List Int→List Int→List Int→List Bool→Option R):
  Yt i (QU l i).length ((Qg l true (15*i):Nat):Int) (i:Int) (l.length:Int) (ci (wds l)) a b c d e f g h j k p q xs ys (ci (UE l i)) (QU l i) K0 =
   K0 (min (i+1) (NB l)) (QU l (min (i+1) (NB l))).length ((Qg l true (15*min (i+1) (NB l)):Nat):Int) (i:Int) (l.length:Int) (ci (wds l)) a b c d e f g h j k p q xs ys (ci (UE l (min (i+1) (NB l)))) (QU l (min (i+1) (NB l))):=by
 have hn:=Q8M hl
 rw[Q4z]; unfold YZ
 have em:UC .i64 (i:Int) 15=((15*i:Nat):Int):=by rw[Ze (by omega) (by omega)]; omega
 rw[em]
 by_cases h0:i<NB l
 ·have h1:=Qcc.1 h0
  have hc:=QuI l i
  have hb:=QqJ l i
  have hw:=Qi4 (cls l i)
  have hp:2 ^ Ua (cls l i)≤2 ^ 13:=Nat.pow_le_pow_right (by decide) hw
  have ho:=QsS l i
  have hs:=JY hl (i:=i) (by omega)
  have hcl:=Q0H l true (15*i)
  have hmin:min (i+1) (NB l)=i+1:=by omega
  have e1:ci (UE l i)++[QV .u64 ((pc (bw l i) 15:Nat):Int)]=ci (UE l (i+1)):=by
   rw[show pc (bw l i) 15=cls l i from rfl,ZL (by omega) (by omega),QwX,←Qdv]; rfl
  have e3:Qe .i64 ((Qg l true (15*i):Nat):Int) ((pc (bw l i) 15:Nat):Int)=((Qg l true (15*(i+1)):Nat):Int):=by
   rw[show pc (bw l i) 15=cls l i from rfl,Q6 (by omega) (by omega),QAK]; omega
  rw[Q0 (by omega),QgO l hl i h0,show (15:Int)=((15:Nat):Int) from rfl,Qf3 _ (by omega) 15 (by decide)]
  rw[Qb,Z1,Q0 rfl,Q0 (by omega),Qm,e1,Q13,show ((15:Nat):Int)=15 from rfl,show pc (bw l i) 15=cls l i from rfl,QqI,show Q1Y (bw l i) 15=ofs l i from rfl,QkL _ (by omega) _ (by omega),Q0 rfl,QA,Q0 (by omega),Qm,hmin,show cls l i=pc (bw l i) 15 from rfl,e3]
  have e4:QU l (i+1)=QU l i++Q2T (ofs l i) (Ua (pc (bw l i) 15)):=rfl
  rw[e4,List.length_append,QA]
 ·have h1:NB l=0:=by omega
  have h2:i=0:=by omega
  subst h2
  have h3:¬15*0<l.length:=fun h=>h0 (Qcc.2 h)
  rw[Q1 (by omega),h1]
  rfl
theorem QuU(l:List Bool)(hl:l.length≤1048576)(a b c d e f g h j k:Int)(K0:Nat→Nat→Int→Int→Int→Int→Int→Int→Int→Int→Int→Int→Nat→Nat→List Int→List Int→List Int→List Bool→Option R):∀ (F i:Nat),i≤max 1 (NB l)→max 1 (NB l)-i<F →
  QY K0 F (min i (NB l)) (QU l (min i (NB l))).length ((Qg l true (15*min i (NB l)):Nat):Int) (i:Int) (l.length:Int) (ci (wds l)) a b c d e f g h j k (grp i) (grp i) (Q1X l (grp i)) (Qbd l (grp i)) (ci (UE l (min i (NB l)))) (QU l (min i (NB l))) =
   K0 (NB l) (QU l (NB l)).length a b c d e f g h j k (NG l) (NG l) (Q1X l (NG l)) (Qbd l (NG l)) (ci (UE l (NB l))) (QU l (NB l))
 | 0,_,_,h=>by omega
 | F+1,i,h1,h2=>by
  have hn:=Q8M hl
  simp only[QY,Q7a]
  have em:UC .i64 (i:Int) 15=((15*i:Nat):Int):=by rw[Ze (by omega) (by omega)]; omega
  by_cases hi:i<max 1 (NB l)
  ·have ih:=QuU l hl a b c d e f g h j k K0 F (i+1) (by omega) (by omega)
   have hmin:min i (NB l)=i:=by omega
   have er:YP (i:Int) 8=((i%8:Nat):Int):=Qai i 8
   have e5:Qe .i64 (i:Int) 1=((i+1:Nat):Int):=by rw[Q6 (by omega) (by omega)]; omega
   have hg:=QAM i
   have hgl:grp i≤i:=by unfold grp; omega
   rw[hmin]
   have key:Yu i (QU l i).length ((Qg l true (15*i):Nat):Int) (i:Int) (l.length:Int) (ci (wds l)) a b c d e f g h j k (grp i) (grp i) (Q1X l (grp i)) (Qbd l (grp i)) (ci (UE l i)) (QU l i) (QY K0 F) =
     K0 (NB l) (QU l (NB l)).length a b c d e f g h j k (NG l) (NG l) (Q1X l (NG l)) (Qbd l (NG l)) (ci (UE l (NB l))) (QU l (NB l)):=by
    rw[Q4A]; unfold U0
    rw[er]
    by_cases h8:i%8=0
    ·have h9:=QIM h8
     rw[if_pos h8]at hg
     have e6:Q1X l (grp i)++[((Qg l true (15*i):Nat):Int)]=Q1X l (grp (i+1)):=by rw[hg,QuK,show 120*grp i=15*i by omega]
     have e7:Qbd l (grp i)++[((QU l i).length:Int)]=Qbd l (grp (i+1)):=by rw[hg,QwY,h9]
     rw[Q0 (by omega),Js,Q0 rfl,Q0 (by omega),Qm,Q8L,Q0 rfl,Q0 (by omega),Qm,e6,e7,←hg,Qx4 l hl i hi 0]
     rw[e5]
     exact ih
    ·rw[if_neg h8]at hg
     replace hg:grp (i+1)=grp i:=hg
     rw[Q1 (by omega),←hg,Qx4 l hl i hi 0,e5]
     exact ih
   by_cases h0:i=0
   ·rw[Q0 (by omega)]; exact key
   ·rw[Q1 (by omega),em,Q0 (by have:=Qcc (l:=l) (i:=i); omega)]; exact key
  ·have h3:i=max 1 (NB l):=by omega
   have h4:min i (NB l)=NB l:=by omega
   have h5:grp i=NG l:=by rw[h3]; unfold NG grp; omega
   have h6:¬15*i<l.length:=fun h=>by have:=Qcc.2 h; omega
   rw[Q1 (by omega),em,Q1 (by omega),h4,h5]
theorem Q7u(l:List Bool)(hl:l.length≤1048576)(K:Int→Int→Int→Int→List Int→Int→List Int→List Int→List Int→Int→Option R):
  YN (l.length:Int) (ci (wds l)) K=K (l.length:Int) ((NB l:Nat):Int) 4 ((NB l*4:Nat):Int) (ci (wds (Zg 4 (UE l (NB l))))) ((QU l (NB l)).length:Int) (ci (wds (QU l (NB l)))) (Q1X l (NG l)) (Qbd l (NG l)) 0:=by
 have hn:=Q8M hl
 have ho:=JY hl (i:=NB l) (Nat.le_refl _)
 have hmk:Qc9 4 (UE l (NB l))=(((NB l:Nat):Int),4,((NB l*4:Nat):Int),wds (Zg 4 (UE l (NB l))),0):=by
  have:=Qdq (w:=4) (us:=UE l (NB l)) (by decide) (by decide) (by rw[Z1]; omega) (QDZ l _)
  rw[Z1]at this; exact this
 have hu:∀ u∈UE l (NB l),u<2 ^ 64:=fun u h=>by have:=QsT l _ u h; omega
 rw[Q1K]; unfold Q04
 rw[JP]; unfold Un
 rw[Qq _ _ (Ws.wds hl),Yl l hl,Bool.not_true,Ev.Q5,Q5p]; unfold Ul
 have hloop:=fun a b c d e f g h j k K0=>QuU (R:=R) l hl a b c d e f g h j k K0 NR 0 (by omega) (by have:=QT; omega)
 have z1:min 0 (NB l)=0:=by omega
 have e2:Q1X l (grp 0)=[]:=by simp[grp,Q1X]
 have e3:Qbd l (grp 0)=[]:=by simp[grp,Qbd]
 have e4:ci (UE l 0)=[]:=by simp[UE,ci]
 rw[z1,e2,e3,e4]at hloop
 refine (show _=_ from hloop _ _ _ _ _ _ _ _ _ _ _).trans ?_
 rw[Qb,Z1,Q0 rfl,Q0 rfl,Q8Q _ _ hu (by rw[Z1]; omega),hmk]
 dsimp only
 rw[Q0 rfl,Q0 rfl,Yy _ (by omega)]
 rw[Js,Q8L,Q0 rfl,Q0 rfl]
theorem Qib(n:Int)(ws:List Nat)(hw:Ws ws)(h:QM n ws=false)(K:Int→Int→Int→Int→List Int→Int→List Int→List Int→List Int→Int→Option R):YN n (ci ws) K=K 0 0 0 0 [] 0 [] [] [] 2:=by
 rw[Q1K]; unfold Q04
 rw[JP]; unfold Un
 rw[Qq n ws hw,h]; rfl
theorem Yz(a b c d:Int)(e:List Int)(f:Int)(g h j:List Int)(a' b' c' d':Int)(e':List Int)(f':Int)(g' h' j':List Int)(h1:e.length<4000000000)(h2:g.length<4000000000)(h3:h.length<4000000000)(h4:j.length<4000000000)(K:Bool→Option R):
  JS a b c d e f g h j a' b' c' d' e' f' g' h' j' K=K (decide (a=a'∧b=b'∧c=c'∧d=d'∧e=e'∧f=f'∧g=g'∧h=h'∧j=j')):=by
 rw[Qa8]; unfold Q5w
 by_cases q1:a=a'
 ·rw[Q0 q1,Q8S _ _ _ _ _ _ _ _ h1]
  by_cases q2:b=b'∧c=c'∧d=d'∧e=e'
  ·rw[Q0 q2,Zd _ _ _ _ h2]
   by_cases q3:f=f'∧g=g'
   ·rw[Q0 q3,YJ _ _ h3]
    by_cases q4:h=h'
    ·rw[Q0 q4,YJ _ _ h4]
     congr 1
     exact decide_eq_decide.2 ⟨fun q5=>⟨q1,q2.1,q2.2.1,q2.2.2.1,q2.2.2.2,q3.1,q3.2,q4,q5⟩,fun q5=>q5.2.2.2.2.2.2.2.2⟩
    ·rw[Q1 q4,decide_eq_false (fun q=>q4 q.2.2.2.2.2.2.2.1)]
   ·rw[Q1 q3,decide_eq_false (fun q=>q3 ⟨q.2.2.2.2.2.1,q.2.2.2.2.2.2.1⟩)]
  ·rw[Q1 q2,decide_eq_false (fun q=>q2 ⟨q.2.1,q.2.2.1,q.2.2.2.1,q.2.2.2.2.1⟩)]
 ·rw[Q1 q1,decide_eq_false (fun q=>q1 q.1)]
end
end Go.Proofs.YtofblchonjfdbaaGreatDoor
namespace Go.Proofs.YtofblchonjfdbaaGreatDoor
open Go Go.Ev
section
variable {R : Type}
theorem Qsc(N:Nat)(hN:N≤1048576)(u:Nat)(hu:u<2 ^ 64)(o:List Bool)(ho:o.length≤N)(v1:Int)(v2:List Int)(v3 v4 v8 v9 va:Int)(vb:List Int)(vc:Int)(vd ve vf:List Int)(vg:Int)(K0:Nat→Int→List Int→Int→Int→Int→Int→Int→Int→List Int→Int→List Int→List Int→List Int→Int→List Bool→Option R):∀ (F k:Nat),k≤min 15 (N-o.length)→min 15 (N-o.length)-k<F →
  ZT K0 F (o.length+k) v1 v2 v3 v4 (u:Int) (k:Int) (N:Int) v8 v9 va vb vc vd ve vf vg (o++Q2T u k) =
   K0 (o.length+min 15 (N-o.length)) v1 v2 v3 v4 (N:Int) v8 v9 va vb vc vd ve vf vg (o++Q2T u (min 15 (N-o.length)))
 | 0,_,_,h=>by omega
 | F+1,k,h1,h2=>by
  simp only[ZT,Q8D]
  by_cases h:k<min 15 (N-o.length)
  ·have e:o++Q2T u k++[decide (YP (ZC .u64 (u:Int) (QV .u64 (k:Int))) 2=1)]=o++Q2T u (k+1):=by rw[Qyw _ _ hu (by omega),Qrt,List.append_assoc]
   rw[Q0 (by omega),Q0 (by omega),Q6u]; unfold Q1S
   rw[Q0 (by rw[ZL (by omega) (by omega)]; omega),Q0 (by rw[List.length_append,QA]),Q0 (by omega),Qm,e,Q6 (by omega) (by omega),show (k:Int)+1=((k+1:Nat):Int) by omega]
   exact Qsc N hN u hu o ho v1 v2 v3 v4 v8 v9 va vb vc vd ve vf vg K0 F (k+1) (by omega) (by omega)
  ·have e:k=min 15 (N-o.length):=by omega
   rw[←e]
   by_cases h15:k<15
   ·rw[Q0 (by omega),Q1 (by omega)]
   ·rw[Q1 (by omega)]
theorem QE4{x:Int}(h:x<0∨15<x):chI 15 x=0:=by unfold chI; rw[if_neg (by omega)]
theorem QIX{x:Int}(h:x<0∨15<x):QAR 15 x=0:=by unfold QAR; rw[if_pos (QE4 h)]
theorem QnN(N:Nat)(hN:N≤1048576)(ob:List Bool)(ho:ob.length≤1048576)(cs:List Nat)(hc:∀ u∈cs,u<2 ^ 64)(hcl:cs.length<1000000000)(a b c:Int)(e hs' js:List Int)(z:Int)(K0:Int→Option R)(K1:Nat→Int→List Bool→Option R):∀ (F j at_:Nat) (o:List Bool),j≤cs.length→cs.length-j<F→at_≤ob.length→o.length≤N →
  Y8 K0 K1 F o.length (at_:Int) (ci cs) (j:Int) (N:Int) a b c e (ob.length:Int) (ci (wds ob)) hs' js z o =
   match QqK false N ob (cs.drop j) at_ o with|none=>K0 0|some r=>K1 r.length z r
 | 0,_,_,_,_,h,_,_=>by omega
 | F+1,j,at_,o,h1,h2,h3,h4=>by
  simp only[Y8,Qad]
  by_cases h:j<cs.length
  ·have hx:=Z5 hc j
   have hd:cs.drop j=cs.getD j 0::cs.drop (j+1):=by
    rw[List.getD_eq_getElem?_getD,List.getElem?_eq_getElem h]; exact List.drop_eq_getElem_cons h
   rw[hd,Qb,Q0 (by omega),Q0 (by omega),Q0 (by omega),Int.toNat_natCast,Zp]
   simp only[QqK]
   generalize cs.getD j 0=x at *
   by_cases h5:15<x
   ·have hy:QV .i64 (x:Int)<0∨15<QV .i64 (x:Int):=by
     rw[Qo2,Q7m]; omega
    rw[if_pos h5,Q13,QIX hy,Q11 _ _ (Ws.wds ho),QeV ob ho _ _ (by omega) (by omega),if_neg (by omega)]
    dsimp only
    rw[Q12 _ _ _ (by have:=Q8H (wds ob) (Int.toNat (at_:Int)) (Int.toNat ((0:Nat):Int)); have:2 ^ Int.toNat ((0:Nat):Int)=1:=rfl; omega),QE4 hy,if_pos (Nat.zero_le _),Qt rfl,Bool.not_false,Ev.Q8]
   have hw:=Qi4 x
   have hp:2 ^ Ua x≤2 ^ 13:=Nat.pow_le_pow_right (by decide) hw
   have e15:chI 15 (x:Int)=ch 15 x:=Qi5 15 x (by decide)
   rw[if_neg h5,Qrn (by omega),Q13,QqI,Q11 _ _ (Ws.wds ho),QeV ob ho _ _ (by omega) (by omega)]
   by_cases h6:ob.length<at_+Ua x
   ·rw[if_pos (by omega),if_pos h6,show ((0:Int),(3:Int)).1=((0:Nat):Int) from rfl,Q12 _ _ _ (by decide)]
    split<;>rw[Zr (show ¬((0:Int),(3:Int)).2=0 by decide)]
   rw[if_neg (by omega),if_neg h6,Int.toNat_natCast,Int.toNat_natCast]
   dsimp only
   have hs:=Q8H (wds ob) at_ (Ua x)
   rw[Q12 _ _ _ (by omega),e15]
   generalize Zq (wds ob) at_ (Ua x)=y at *
   by_cases h7:ch 15 x≤y
   ·rw[if_pos h7,if_pos h7,Qt rfl,Bool.not_false,Ev.Q8]
   rw[if_neg h7,if_neg h7,Qt rfl,Bool.not_true,Ev.Q5,show (15:Int).toNat=15 from rfl,Int.toNat_natCast,if_neg (by simp)]
   have hb:=QsU 15 x y
   generalize Qdk 15 x y=w at *
   rw[Q6w]; unfold Q1T
   rw[Q6v]; unfold J0
   have e0:o++Q2T w 0=o:=by simp[Q2T]
   have hin:=fun v1 v2 v3 v4 v8 v9 va vb vc vd ve vf vg K0=>Qsc (R:=R) N hN w (by omega) o h4 v1 v2 v3 v4 v8 v9 va vb vc vd ve vf vg K0 NR 0 (by omega) (by have:=QT; omega)
   rw[e0]at hin
   refine (show _=_ from hin _ _ _ _ _ _ _ _ _ _ _ _ _ _).trans ?_
   rw[Q6 (by omega) (by omega)]
   dsimp only
   rw[Q6 (by omega) (by omega),show (j:Int)+1=((j+1:Nat):Int) by omega,show (at_:Int)+((Ua x:Nat):Int)=((at_+Ua x:Nat):Int) by omega]
   have hlen:o.length+min 15 (N-o.length)=(o++Q2T w (min 15 (N-o.length))).length:=by rw[List.length_append,QA]
   rw[hlen]
   exact QnN N hN ob ho cs hc hcl a b c e hs' js z K0 K1 F (j+1) (at_+Ua x) _ (by omega) (by omega) (by omega) (by omega)
  ·rw[Q1 (by rw[Qb]; omega),List.drop_of_length_le (by omega)]
   rfl
def QuT(N a w n:Int)(ws:List Nat)(f:Int)(vs:List Nat):List Bool:=(QuE false N a w n ws f vs).getD []
theorem Qsd(N a w n:Int)(ws:List Nat)(f:Int)(vs:List Nat):(QuT N a w n ws f vs).length≤1048576:=by
 unfold QuT
 cases h:QuE false N a w n ws f vs with
 | none=>simp
 | some r=>exact QnL h
theorem QkJ(N a w n:Int)(ws:List Nat)(hw:Ws ws)(f:Int)(vs:List Nat)(hv:Ws vs)(hs js:List Int)(h1:0≤N)(h2:N≤1048576)(h3:okI a w n ws=true)(h4:QM f vs=true)(K:Int→List Int→Option R):
  Q4E N a w n (ci ws) f (ci vs) hs js K=K ((QuT N a w n ws f vs).length:Int) (ci (wds (QuT N a w n ws f vs))):=by
 obtain ⟨ob,hf,rfl,hob⟩:=Q3t h4 hv.1
 subst hf
 obtain ⟨N,rfl⟩:∃ b:Nat,N=(b:Int):=⟨N.toNat,by omega⟩
 have hcs:∀ u∈Yn a w n ws,u<2 ^ 64:=fun u hu=>by
  unfold Yn at hu
  rw[if_pos h3]at hu
  obtain ⟨_,b,_,_,rfl,_,_,_,_,hb,_⟩:=QeU h3 hw.1
  exact Qy4 hb _ u hu
 have hcl:(Yn a w n ws).length<1000000000:=by
  obtain ⟨a',b,_,rfl,rfl,_,_,_,_,hb,h7,_⟩:=QeU h3 hw.1
  unfold Yn
  rw[if_pos h3,UB]; omega
 have hx:QuE false (N:Int) a w n ws (ob.length:Int) (wds ob)=QqK false N ob (Yn a w n ws) 0 []:=by
  unfold QuE
  rw[if_pos ⟨by omega,by omega,h3,h4,fun h=>by cases h⟩,UA,Int.toNat_natCast]
 rw[QaC]; unfold Q6L
 rw[Q8R _ _ _ _ hw,Q7l]; unfold Jr
 refine (show _=_ from QnN N (by omega) ob hob _ hcs hcl a w n (ci ws) hs js 0 _ _ NR 0 0 [] (by omega) (by have:=QT; omega) (by omega) (by simp)).trans ?_
 unfold QuT
 rw[hx,List.drop_zero]
 cases hr:QqK false N ob (Yn a w n ws) 0 [] with
 | none=>rfl
 | some r=>
  have hl:r.length≤1048576:=QnL (hx.trans hr)
  dsimp only
  rw[Q0 rfl,Q0 rfl,Yy _ hl]
  rfl
open Classical in
theorem Qal{N a w n:Int}{ws:List Nat}{f:Int}{vs:List Nat}{h j:List Int}(hw:Ws ws)(hv:Ws vs)(s1:ws.length<4000000000)(s2:vs.length<4000000000)(s3:h.length<4000000000)(s4:j.length<4000000000)(K:Int→List Int→Bool→Option R):
  Z4 N a w n (ci ws) f (ci vs) h j K=if (0≤N∧N≤1048576∧okI a w n ws=true∧QM f vs=true)∧IsR (QuT N a w n ws f vs) N a w n (ci ws) f (ci vs) h j then K ((QuT N a w n ws f vs).length:Int) (ci (wds (QuT N a w n ws f vs))) true else K 0 [] false:=by
 have bad:∀ (v1 v2 v3 v4:Int) (v5:List Int) (v6:Int) (v7 v8 v9:List Int) (va:Int) (K0:Bool→Int→Option R) (K1:Int→Int→Int→Int→List Int→Int→List Int→List Int→List Int→Int→Option R),QS true v1 v2 v3 v4 v5 v6 v7 v8 v9 va K0 K1=K0 false 0:=fun _ _ _ _ _ _ _ _ _ _ _ _=>by
  rw[JV]; rfl
 have good:∀ (v1 v2 v3 v4:Int) (v5:List Int) (v6:Int) (v7 v8 v9:List Int) (va:Int) (K0:Bool→Int→Option R) (K1:Int→Int→Int→Int→List Int→Int→List Int→List Int→List Int→Int→Option R),QS false v1 v2 v3 v4 v5 v6 v7 v8 v9 va K0 K1=K1 v1 v2 v3 v4 v5 v6 v7 v8 v9 va:=fun _ _ _ _ _ _ _ _ _ _ _ _=>by
  rw[JV]; rfl
 rw[Q8E]; unfold Q07
 by_cases h1:N<0
 ·rw[Q0 h1,bad,if_neg (fun q=>by have:=q.1; omega)]
 by_cases h2:1048576<N
 ·rw[Q1 h1,Q0 h2,bad,if_neg (fun q=>by have:=q.1; omega)]
 rw[Q1 h1,Q1 h2,Zx _ _ _ _ hw]
 cases h3:okI a w n ws with
 | false=>rw[Bool.not_false,Ev.Q8,bad,if_neg (fun h=>by cases h.1.2.2.1)]
 | true=>
  rw[Bool.not_true,Ev.Q5,Qq _ _ hv]
  cases h4:QM f vs with
  | false=>rw[Bool.not_false,bad,if_neg (fun h=>by cases h.1.2.2.2)]
  | true=>
   have hl:=Qsd N a w n ws f vs
   rw[Bool.not_true,good,Q5I]; unfold Q0Y
   rw[QkJ N a w n ws hw f vs hv h j (by omega) (by omega) h3 h4]
   dsimp only
   rw[Q7u _ hl,Yz _ _ _ _ _ _ _ _ _ _ _ _ _ _ _ _ _ _ (by rw[Qb]; exact s1) (by rw[Qb]; exact s2) s3 s4]
   by_cases hq:IsR (QuT N a w n ws f vs) N a w n (ci ws) f (ci vs) h j
   ·rw[if_pos ⟨⟨by omega,by omega,rfl,rfl⟩,hq⟩,decide_eq_true ⟨hq.a,hq.b,hq.c,hq.d,hq.e,hq.f,hq.g,hq.h,hq.j⟩]; rfl
   ·rw[if_neg (fun q=>hq q.2),decide_eq_false (fun ⟨q1,q2,q3,q4,q5,q6,q7,q8,q9⟩=>hq ⟨q1,q2,q3,q4,q5,q6,q7,q8,q9⟩)]; rfl
theorem Q8P{l:List Bool}(hl:l.length≤1048576){a b c d:Int}{e:List Int}{f:Int}{g h j:List Int}(r:IsR l a b c d e f g h j)(K:Int→List Int→Bool→Option R):Z4 a b c d e f g h j K=K (l.length:Int) (ci (wds l)) true:=by
 obtain ⟨rfl,rfl,rfl,rfl,rfl,rfl,rfl,rfl,rfl⟩:=r
 obtain ⟨w1,w2⟩:=IsR.ws hl
 obtain ⟨s1,s2,s3,s4⟩:=IsR.short hl
 have hn:=Q8M hl
 have ho:=JY hl (i:=NB l) (Nat.le_refl _)
 have hok:okI ((NB l:Nat):Int) 4 ((NB l*4:Nat):Int) (wds (Zg 4 (UE l (NB l))))=true:=Qyj (a:=NB l) (b:=4) (by rw[ZA,Z1]) (by decide) (by decide) (by omega)
 have hr:QuT (l.length:Int) ((NB l:Nat):Int) 4 ((NB l*4:Nat):Int) (wds (Zg 4 (UE l (NB l)))) ((QU l (NB l)).length:Int) (wds (QU l (NB l)))=l:=by
  unfold QuT; rw[IsR.row hl]; rfl
 rw[Qal w1 w2 (by rw[Qb]at s1; exact s1) (by rw[Qb]at s2; exact s2) s3 s4,hr,if_pos ⟨⟨by omega,by omega,hok,Yl _ (by omega)⟩,⟨rfl,rfl,rfl,rfl,rfl,rfl,rfl,rfl,rfl⟩⟩]
theorem QkK{a b c d:Int}{ws:List Nat}{f:Int}{vs:List Nat}{h j:List Int}(hw:Ws ws)(hv:Ws vs)(s1:ws.length<4000000000)(s2:vs.length<4000000000)(s3:h.length<4000000000)(s4:j.length<4000000000)(no:∀ l:List Bool,l.length≤1048576→¬IsR l a b c d (ci ws) f (ci vs) h j)(K:Int→List Int→Bool→Option R):Z4 a b c d (ci ws) f (ci vs) h j K=K 0 [] false:=by
 rw[Qal hw hv s1 s2 s3 s4,if_neg (fun q=>no _ (Qsd ..) q.2)]
end
end Go.Proofs.YtofblchonjfdbaaGreatDoor
namespace Go.Proofs.YtofblchonjfdbaaGreatDoor
open Go Go.Ev
section
variable {R : Type}
structure NotR (a b c d:Int) (ws:List Nat) (f:Int) (vs:List Nat) (h j:List Int):Prop where
 w:Ws ws
 v:Ws vs
 s1:ws.length<4000000000
 s2:vs.length<4000000000
 s3:h.length<4000000000
 s4:j.length<4000000000
 no:∀ l:List Bool,l.length≤1048576→¬IsR l a b c d (ci ws) f (ci vs) h j
theorem Qvk{a b c d:Int}{ws:List Nat}{f:Int}{vs:List Nat}{h j:List Int}(n:NotR a b c d ws f vs h j)(K:Int→List Int→Bool→Option R):Z4 a b c d (ci ws) f (ci vs) h j K=K 0 [] false:=QkK n.w n.v n.s1 n.s2 n.s3 n.s4 n.no K
theorem QNL{a b c d:Int}{ws:List Nat}{f:Int}{vs:List Nat}{h j:List Int}(n:NotR a b c d ws f vs h j)(K:Int→List Int→Bool→Option R):QaX a b c d (ci ws) f (ci vs) h j K=K 0 [] false:=Qyr n.w n.v n.s1 n.s2 n.s3 n.s4 n.no K
theorem QuS{l:List Bool}(hl:l.length≤1048576){a b c d:Int}{e:List Int}{f:Int}{g h j:List Int}(r:IsR l a b c d e f g h j)(K:Bool→Option R):Q18 a b c d e f g h j K=K true:=by
 rw[Q88]; unfold Q3A
 rw[Q8P hl r]
theorem Qvl{l:List Bool}(hl:l.length≤1048576){a b c d:Int}{e:List Int}{f:Int}{g h j:List Int}(r:IsR l a b c d e f g h j)(K:Int→Option R):Q2d a b c d e f g h j K=K ((QKx l:Nat):Int):=by
 rw[Q91]; unfold Q4Z
 rw[QuS hl r,Bool.not_true,Ev.Q5]
 obtain ⟨_,_,_,rfl,_,rfl,_,rfl,_⟩:=r
 have hn:=Q8M hl
 have ho:=JY hl (i:=NB l) (Nat.le_refl _)
 have hg:NG l≤1000000:=by unfold NG grp; omega
 have e1:Qe .i64 ((NB l*4:Nat):Int) ((QU l (NB l)).length:Int)=((NB l*4+(QU l (NB l)).length:Nat):Int):=by rw[Q6 (by omega) (by omega)]; omega
 have e2:UC .i64 64 ((NG l:Nat):Int)=((64*NG l:Nat):Int):=by rw[Ze (by omega) (by omega)]; omega
 rw[Js,e1,e2,Q6 (by omega) (by omega)]
 congr 1
theorem Qyv{a b c d:Int}{ws:List Nat}{f:Int}{vs:List Nat}{h j:List Int}(n:NotR a b c d ws f vs h j)(K:Bool→Option R):Q3q a b c d (ci ws) f (ci vs) h j K=K false:=by
 rw[Qgy]; unfold Qfw
 rw[QNL n]
end
end Go.Proofs.YtofblchonjfdbaaGreatDoor
namespace Go.Proofs.YtofblchonjfdbaaGreatDoor
open Go Go.Ev
section
variable {R : Type}
theorem Qsh(l:List Bool)(hl:l.length≤1048576)(K0:Nat→List Int→Option R):∀ (F i:Nat),i≤l.length→l.length-i<F →
  Zn K0 F (plN l i).length (i:Int) (l.length:Int) (ci (wds l)) (ci (plN l i))=K0 (pl l).length (ci (pl l))
 | 0,_,_,h=>by omega
 | F+1,i,h1,h2=>by
  simp only[Zn,Q6n]
  by_cases h:i<l.length
  ·have hn:(plN l i).length≤i:=by rw[Qbb]; exact Q0H _ _ _
   have ih:=Qsh l hl K0 F (i+1) (by omega) (by omega)
   rw[Qux]at ih
   rw[Q0 (by omega),ZJ _ _ (fun w hw=>Q48 hw) i (by rw[Qn]; omega) (by omega),ZU,Q6 (by omega) (by omega),show (i:Int)+1=((i+1:Nat):Int) by omega]
   cases hb:l.getD i false with
   | true=>
    rw[hb,if_pos rfl]at ih
    rw[Ev.Q8,Q0 (Qb _),Q0 (by omega),Qm,←ih,List.length_append]
    unfold ci
    rw[List.map_append]; rfl
   | false=>
    rw[hb,if_neg (by decide),List.append_nil]at ih
    rw[Ev.Q5]; exact ih
  ·have:i=l.length:=by omega
   subst this
   rw[Q1 (by omega)]; rfl
theorem Q6y(l:List Bool)(hl:l.length≤1048576)(K:List Int→Option R):Uz (l.length:Int) (ci (wds l)) K=K (ci (pl l)):=by
 rw[Q7e]; unfold Q2G
 rw[Q4C]; unfold U2
 refine (show _=_ from Qsh l hl _ NR 0 (by omega) (by have:=QT; omega)).trans ?_
 rw[Q0 (Qb _).symm]
theorem Q7v(n m:Nat)(hn:n<2 ^ 62)(hm:m≤n)(K:Int→Option R):YO (n:Int) (m:Int) K=K ((Q5Y n m:Nat):Int):=by
 rw[Q8v]; unfold Q3W Q5Y
 by_cases h:m=0
 ·subst h; rw[Q0 (by omega),if_pos rfl]; rfl
 ·have h1:n/m≤n:=Nat.div_le_self _ _
  have h2:0<n/m:=Nat.div_pos hm (by omega)
  have h3:=QkC (x:=n/m) (by omega)
  have h4:bitLen (n/m)≤64:=Q8G (by omega)
  rw[Q1 (by omega),Q1 (by omega),if_neg h,Jh (by omega) (by omega) (by omega),←Int.natCast_ediv,ZL (by omega) (by omega),Q2V _ (by omega),Qp (by omega) (by omega)]
  congr 1; omega
theorem QE6(p w:Nat)(hw:w≤20):YP (p:Int) (Qap .u64 1 (w:Int))=((p%2 ^ w:Nat):Int):=by
 have h:2 ^ w<2 ^ 64:=Nat.pow_lt_pow_right (by decide) (by omega)
 rw[show (1:Int)=((1:Nat):Int) from rfl,Q3i _ _ (by decide),Nat.one_mul,Nat.mod_eq_of_lt h,Qai]
theorem QJ1(w:Nat)(hw:w≤20):¬Qap .u64 1 (w:Int)=0:=by
 have h:2 ^ w<2 ^ 64:=Nat.pow_lt_pow_right (by decide) (by omega)
 have:=Nat.two_pow_pos w
 rw[show (1:Int)=((1:Nat):Int) from rfl,Q3i _ _ (by decide),Nat.one_mul,Nat.mod_eq_of_lt h]; omega
theorem QeZ(ps:List Nat){i:Nat}(h:i<ps.length):ps.drop i=ps.getD i 0::ps.drop (i+1):=by
 rw[List.drop_eq_getElem_cons h,List.getD_eq_getElem?_getD,List.getElem?_eq_getElem h]; rfl
theorem QKL{w i L:Nat}{p:Nat}(hp:p<2 ^ 21)(hi:i<2 ^ 21)(hb:p/2 ^ w+i<L)(hL:L<2 ^ 22):Qe .i64 (ZC .i64 (p:Int) (w:Int)) (i:Int)=((p/2 ^ w+i:Nat):Int):=by
 have hz:=Int.natCast_nonneg (p/2 ^ w)
 rw[Quw _ _ (by omega),Q6 (by omega) (by omega)]; omega
theorem Qyx(ps:List Nat)(w L:Nat)(hw:w≤20)(hL:L<2 ^ 22)(z1 z2 z3 z4 z5 z6 z7 z8 z9 za zb zc:Int)
 (K0:Int→Nat→Nat→Int→Int→Int→Int→Int→Int→Int→Int→Int→Int→Int→Int→List Bool→List Int→Option R) :
  ∀ (F i:Nat) (bs:List Bool) (low:List Nat),i≤ps.length→ps.length-i<F→bs.length=L→low.length≤i→OkH w L i (ps.drop i) →
  Yk K0 F (ci ps) (w:Int) L low.length (i:Int) z1 z2 z3 z4 z5 z6 z7 z8 z9 za zb zc bs (ci low)=K0 (w:Int) L (low++Q0Z w (ps.drop i)).length z1 z2 z3 z4 z5 z6 z7 z8 z9 za zb zc (Qca (hq w i (ps.drop i)) bs) (ci (low++Q0Z w (ps.drop i)))
 | 0,_,_,_,_,h,_,_,_=>by omega
 | F+1,i,bs,low,h1,h2,h3,h4,h7=>by
  simp only[Yk,QaA]
  rw[Qb]
  by_cases h:i<ps.length
  ·rw[QeZ ps h]at h7 ⊢
   obtain ⟨g1,g2,g3,g4⟩:=h7.head
   have g5:=Int.natCast_nonneg (ps.getD i 0/2 ^ w)
   rw[Int.toNat_natCast,Zp,ZL (a:=(w:Int)) (by omega) (by omega),QKL g3 g4 g2 hL,Int.toNat_natCast,ZL (a:=((ps.getD i 0:Nat):Int)) (by omega) (by omega),QE6 _ _ hw]
   rw[Q0 (by omega),Q0 (by omega),Q0 (by omega),Q0 (by omega),Q0 (by omega),Q0 (by omega),Q0 (by omega),Qm]
   by_cases h0:w=0
   ·have ih:=Qyx ps w L hw hL z1 z2 z3 z4 z5 z6 z7 z8 z9 za zb zc K0 F (i+1) (bs.set (ps.getD i 0/2 ^ w+i) true) low (by omega) (by omega) (by rw[List.length_set]; exact h3) (by omega) g1
    rw[Q1 (by omega),Q6 (by have:=h7.1; omega) (by have:=h7.1; omega),show (i:Int)+1=((i+1:Nat):Int) by omega,ih]
    unfold Q0Z
    rw[if_pos h0,if_pos h0]
    rfl
   ·have ih:=Qyx ps w L hw hL z1 z2 z3 z4 z5 z6 z7 z8 z9 za zb zc K0 F (i+1) (bs.set (ps.getD i 0/2 ^ w+i) true) (low++[ps.getD i 0%2 ^ w]) (by omega) (by omega) (by rw[List.length_set]; exact h3) (by rw[List.length_append]; simp; omega) g1
    rw[Q0 (by omega),Q0 (by omega),Q0 (by omega),Q0 (by omega),Q1 (QJ1 w hw),Q0 (Qb low),Q0 (by have:=h7.1; omega),Qm,Q6 (by have:=h7.1; omega) (by have:=h7.1; omega),show (i:Int)+1=((i+1:Nat):Int) by omega]
    have e:low++Q0Z w (ps.getD i 0::ps.drop (i+1))=(low++[ps.getD i 0%2 ^ w])++Q0Z w (ps.drop (i+1)):=by
     unfold Q0Z; rw[if_neg h0,if_neg h0,List.append_assoc]; rfl
    rw[e]
    refine Eq.trans ?_ ih
    rw[List.length_append]
    unfold ci
    rw[List.map_append]; rfl
  ·have:i=ps.length:=by omega
   subst this
   have e:Q0Z w []=[]:=by unfold Q0Z; split<;>rfl
   rw[Q1 (by omega),List.drop_of_length_le (Nat.le_refl _),e,List.append_nil]
   simp[hq,Qca]
theorem QKM(w:Nat):max2 (w:Int) 1=((max 1 w:Nat):Int):=by
 rw[show (1:Int)=((1:Nat):Int) from rfl,Quh,Nat.max_comm]
theorem QaG(l:List Bool)(hl:l.length≤3000)(K:Int→Int→Int→Int→Int→List Int→Int→List Int→Int→Option R):
  Q1M (l.length:Int) (ci (pl l)) K=K (l.length:Int) ((FM l:Nat):Int) ((FL l).length:Int) ((FV l:Nat):Int) (((FL l).length*FV l:Nat):Int) (ci (wds (Zg (FV l) (FL l)))) ((FH l).length:Int) (ci (wds (FH l))) 0:=by
 obtain ⟨b1,b2,b3⟩:=Qqs hl
 have hw:=Qs5 hl
 have hm:=Qaf l
 rw[Qc7]; unfold Q2J
 rw[Qb]
 show YO (l.length:Int) ((FM l:Nat):Int) _=_
 rw[Q7v _ _ (by omega) hm,show Q5Y l.length (FM l)=FW l from rfl]
 rw[ZL (a:=((FW l:Nat):Int)) (by omega) (by omega),b1]
 show sel _ (sel (decide (0≤Qe .i64 (Qe .i64 ((FM l:Nat):Int) ((l.length/2 ^ FW l:Nat):Int)) 1)) _ _) _=_
 rw[show (((pl l).length:Nat):Int)=((FM l:Nat):Int) from rfl,b2]
 generalize hLe:FM l+l.length/2 ^ FW l+1=L at *
 rw[Q0 (by omega),Q0 (by omega),Q0 (by omega),Q0 (by omega),Q0 (by omega),Qm,Int.toNat_natCast,Q8w]; unfold Q05
 have hs:=Qb5 (low:=FL l) hw (Nat.le_trans hm hl) (Q5W l)
 have hlm:=QAs hw (Nat.le_trans hm hl) (Q5W l) (QAr l)
 have hfl:=Q5W l
 have hmk:Qc9 ((max 1 (FW l):Nat):Int) (FL l)=(((FL l).length:Int),((max 1 (FW l):Nat):Int),(((FL l).length*max 1 (FW l):Nat):Int),wds (Zg (max 1 (FW l)) (FL l)),0):=
  Qdq (by omega) (by omega) (by rw[←Int.natCast_mul]at hlm; omega) (by omega)
 have hok:OkH (FW l) L 0 (pl l):=by rw[←hLe]; exact QMf hl
 have hfin:Qca (hq (FW l) 0 (pl l)) (List.replicate L false)=FH l:=by rw[←hLe]; rfl
 have hfin2:Q0Z (FW l) (pl l)=FL l:=rfl
 have hFH:(FH l).length=L:=by rw[Qrg,hLe]
 refine (show _=_ from Qyx (pl l) (FW l) L (by omega) (by omega) 0 0 0 0 0 0 (l.length:Int) ((FM l:Nat):Int) 0 0 0 0 _ NR 0 (List.replicate L false) [] (by omega) (by have:(pl l).length=FM l:=rfl; have:=QT; omega) (by simp) (by simp) (by rw[List.drop_zero]; exact hok)).trans ?_
 rw[List.drop_zero,hfin,hfin2,List.nil_append,Qb,Q0 rfl,Q0 rfl,QKM,Q8Q _ _ (QDD hw (QAr l)) (by omega),hmk]
 try dsimp only
 rw[Q0 hFH.symm,Q0 hFH.symm,Yy _ (by omega)]
 try dsimp only
 rw[Qt rfl,Q7f]; unfold Q2H
 rw[Qt rfl]
 try dsimp only
 rw[Q7g]; unfold Q2I
 rfl
theorem QgP(l:List Bool)(hl:l.length≤3000)(K:Int→Int→Int→Int→Int→List Int→Int→List Int→Int→Option R):
  Jb (l.length:Int) (ci (wds l)) K=K (l.length:Int) ((FM l:Nat):Int) ((FL l).length:Int) ((FV l:Nat):Int) (((FL l).length*FV l:Nat):Int) (ci (wds (Zg (FV l) (FL l)))) ((FH l).length:Int) (ci (wds (FH l))) 0:=by
 rw[Q1N]; unfold Q06
 rw[Qq _ _ (Q6M (by omega)),Yl l (by omega),Bool.not_true,Ev.Q5,Q6y l (by omega),QaG l hl]
theorem Qie(n:Int)(ws:List Nat)(hw:Ws ws)(h:QM n ws=false)(K:Int→Int→Int→Int→Int→List Int→Int→List Int→Int→Option R):
  Jb n (ci ws) K=K 0 0 0 0 0 [] 0 [] 2:=by
 rw[Q1N]; unfold Q06
 rw[Qq _ _ hw,h,Bool.not_false,Ev.Q8]
end
end Go.Proofs.YtofblchonjfdbaaGreatDoor
namespace Go.Proofs.YtofblchonjfdbaaGreatDoor
open Go Go.Ev
section
variable {R : Type}
def QaF(N:Nat)(ps:List Nat):Prop:=ps.Pairwise (· < ·)∧∀ p∈ps,p<N
instance (N : Nat) (ps : List Nat) : Decidable (QaF N ps) := by unfold QaF; infer_instance
def plF(w:Nat)(low:List Nat):Nat→List Nat→List Nat
 | _,[]=>[]
 | i,q::qs=>pF w low i q::plF w low (i+1) qs
theorem QE5{w n:Nat}{ps:List Nat}(hn:∀ p∈ps,p≤n):∀ (f i:Nat),i+f=ps.length→plF w (Q0Z w ps) i ((hq w 0 ps).drop i)=ps.drop i
 | 0,i,h=>by
  rw[List.drop_of_length_le (by rw[Qbc]; omega),List.drop_of_length_le (by omega)]; rfl
 | f+1,i,h=>by
  rw[QeZ (hq w 0 ps) (by rw[Qbc]; omega),QeZ ps (by omega)]
  simp only[plF]
  rw[QMl (by omega) hn,QE5 hn f (i+1) (by omega)]
theorem QGt{ps:List Nat}(h:ps.Pairwise (· < ·)):∀ x∈ps,x≤ps.getD (ps.length-1) 0:=fun x hx=>by
 obtain ⟨i,hi,rfl⟩:=List.mem_iff_getElem.1 hx
 have e:ps.getD (ps.length-1) 0=ps[ps.length-1]'(by omega):=by
  rw[List.getD_eq_getElem?_getD,List.getElem?_eq_getElem (by omega)]; rfl
 rw[e]
 by_cases h1:i=ps.length-1
 ·subst h1; exact Nat.le_refl _
 ·exact Nat.le_of_lt (List.pairwise_iff_getElem.1 h i (ps.length-1) hi (by omega) (by omega))
theorem QaF.snoc{N p:Nat}{out:List Nat}(h:QaF N out)(h1:p<N)(h2:out≠[]→out.getD (out.length-1) 0<p):QaF N (out++[p]):=by
 refine ⟨List.pairwise_append.2 ⟨h.1,by simp,fun a ha b hb=>?_⟩,fun q hq=>?_⟩
 ·rw[List.mem_singleton.1 hb]
  have:=QGt h.1 a ha
  have:=h2 (by intro e; rw[e]at ha; simp at ha)
  omega
 ·rcases List.mem_append.1 hq with hq|hq
  ·exact h.2 q hq
  ·rw[List.mem_singleton.1 hq]; exact h1
theorem QaF.not_big{N p:Nat}{out qs:List Nat}(h:QaF N (out++p::qs)):p<N:=h.2 p (by simp)
theorem QaF.not_low{N p:Nat}{out qs:List Nat}(h:QaF N (out++p::qs))(h0:out≠[]):out.getD (out.length-1) 0<p:=by
 have h1:=(List.pairwise_append.1 h.1).2.2
 have hl:0<out.length:=List.length_pos_iff.2 h0
 refine h1 _ ?_ p (by simp)
 rw[List.getD_eq_getElem?_getD,List.getElem?_eq_getElem (by omega)]
 exact List.getElem_mem _
section
variable (w : Nat) (low qs : List Nat) (N : Nat) (M a b c : Int) (xs : List Int) (h : Int) (zs : List Int)
theorem QJ0(i:Nat)(p:Nat)(out:List Nat)(hi2:i<2 ^ 21)(ho:out.length=i)(K0:Bool→Option R)(K1:Int→List Int→List Int→Nat→Int→Int→Int→Int→Int→Int→List Int→Int→List Int→List Int→Option R):
  Yh (w:Int) (ci low) (ci qs) i (i:Int) (p:Int) (N:Int) M a b c xs h zs (ci out) K0 K1 =
  if N≤p∨(0<i∧p≤out.getD (i-1) 0) then K0 false else K1 (w:Int) (ci low) (ci qs) (i+1) (i:Int) (N:Int) M a b c xs h zs (ci (out++[p])):=by
 have j18:U9 (w:Int) (ci low) (ci qs) i (i:Int) (p:Int) (N:Int) M a b c xs h zs (ci out) K1=K1 (w:Int) (ci low) (ci qs) (i+1) (i:Int) (N:Int) M a b c xs h zs (ci (out++[p])):=by
  rw[Q6x]; unfold Q1U
  rw[Q0 (by rw[Qb]; exact ho),Q0 (by omega),Qm]
  unfold ci
  rw[List.map_append]; rfl
 rw[Q63]; unfold UG
 by_cases h1:N≤p
 ·rw[Q0 (by omega),if_pos (.inl h1)]
 rw[Q1 (by omega)]
 by_cases hi:0<i
 ·rw[Q0 (by omega),Qp (by omega) (by omega),show (i:Int)-1=((i-1:Nat):Int) by omega,Q0 (by omega),Q0 (by omega),Int.toNat_natCast,Qb,Q0 (by omega),Zp]
  by_cases h2:p≤out.getD (i-1) 0
  ·rw[Q0 (by omega),if_pos (.inr ⟨hi,h2⟩)]
  ·rw[Q1 (by omega),if_neg (by omega),j18]
 ·rw[Q1 (by omega),if_neg (by omega),j18]
theorem QGu(i q:Nat)(hlow:∀ u∈low,u<2 ^ 64)(hw:w≤20)(hq1:i≤q)(hq2:q<2 ^ 21):
  ((0<w∧i<low.length)→Qe .i64 (((q-i)*2 ^ w:Nat):Int) (QV .i64 ((low.getD i 0%2 ^ w:Nat):Int))=((pF w low i q:Nat):Int))∧(¬(0<w∧i<low.length)→(q-i)*2 ^ w=pF w low i q):=by
 have h1:=Qqt (a:=q-i) (w:=w) (by omega) hw
 unfold pF
 constructor
 ·intro h0
  have hm:low.getD i 0%2 ^ w<2 ^ w:=Nat.mod_lt _ (Nat.two_pow_pos _)
  have hm2:low.getD i 0%2 ^ w<2 ^ 41:=Nat.lt_of_lt_of_le hm (Nat.pow_le_pow_right (by decide) (by omega))
  have hz:=Int.natCast_nonneg (low.getD i 0%2 ^ w)
  have hz2:=Int.natCast_nonneg ((q-i)*2 ^ w)
  rw[if_pos h0,QCX hm]
  generalize low.getD i 0%2 ^ w=r at *
  generalize (q-i)*2 ^ w=s at *
  rw[QhW (by omega) (by omega),Q6 (by omega) (by omega)]; omega
 ·intro h0; rw[if_neg h0]
theorem QAW(hlow:∀ u∈low,u<2 ^ 64)(hw:w≤20)(K0:Bool→Option R)(K1:Nat→List Int→Option R):∀ (F i:Nat) (out:List Nat),i≤qs.length→qs.length-i<F→out.length=i→qs.length<2 ^ 21→QaF N out→Ge i (qs.drop i) →
  Z6 K0 K1 F (w:Int) (ci low) (ci qs) i (i:Int) (N:Int) M a b c xs h zs (ci out)=if QaF N (out++plF w low i (qs.drop i)) then K1 (out++plF w low i (qs.drop i)).length (ci (out++plF w low i (qs.drop i))) else K0 false
 | 0,_,_,_,hF,_,_,_,_=>by omega
 | F+1,i,out,h1,h2,h3,h5,h6,h7=>by
  simp only[Z6,Q87]
  rw[Qb,Qb]
  by_cases hi:i<qs.length
  ·rw[QeZ qs hi]at h7 ⊢
   obtain ⟨g1,g2⟩:=h7.2 _ (List.mem_cons_self ..)
   have hsh:=Qqt (a:=qs.getD i 0-i) (w:=w) (by omega) hw
   obtain ⟨p1,p2⟩:=QGu w low i (qs.getD i 0) hlow hw g1 g2
   have key:∀ (K1':Int→List Int→List Int→Nat→Int→Int→Int→Int→Int→Int→List Int→Int→List Int→List Int→Option R),
     (K1' (w:Int) (ci low) (ci qs) (i+1) (i:Int) (N:Int) M a b c xs h zs (ci (out++[pF w low i (qs.getD i 0)]))=Z6 K0 K1 F (w:Int) (ci low) (ci qs) (i+1) ((i+1:Nat):Int) (N:Int) M a b c xs h zs (ci (out++[pF w low i (qs.getD i 0)]))) →
     Yh (w:Int) (ci low) (ci qs) i (i:Int) ((pF w low i (qs.getD i 0):Nat):Int) (N:Int) M a b c xs h zs (ci out) K0 K1' =
     if QaF N (out++plF w low i (qs.getD i 0::qs.drop (i+1))) then K1 (out++plF w low i (qs.getD i 0::qs.drop (i+1))).length (ci (out++plF w low i (qs.getD i 0::qs.drop (i+1)))) else K0 false:=fun K1' hK1'=>by
    rw[QJ0 w low qs N M a b c xs h zs i _ out (by omega) h3]
    have hne:0<i→out≠[]:=fun h e=>by rw[e]at h3; simp at h3; omega
    split
    ·rename_i hb
     refine (if_neg fun hr=>?_).symm
     have r1:=QaF.not_big (p:=pF w low i (qs.getD i 0)) (qs:=plF w low (i+1) (qs.drop (i+1))) hr
     rcases hb with hb|⟨hb0,hb⟩
     ·omega
     ·have r2:=QaF.not_low (p:=pF w low i (qs.getD i 0)) (qs:=plF w low (i+1) (qs.drop (i+1))) hr (hne hb0)
      rw[h3]at r2
      omega
    ·rename_i hb
     have ih:=QAW hlow hw K0 K1 F (i+1) (out++[pF w low i (qs.getD i 0)]) (by omega) (by omega) (by rw[List.length_append,h3]; rfl) h5 (h6.snoc (by omega) (fun hne=>by have:0<out.length:=List.length_pos_iff.2 hne; rw[h3]; omega)) h7.tail
     have e:(out++[pF w low i (qs.getD i 0)])++plF w low (i+1) (qs.drop (i+1))=out++plF w low i (qs.getD i 0::qs.drop (i+1)):=by rw[List.append_assoc]; rfl
     simp only[e]at ih
     rw[hK1',ih]
   rw[Q0 (by omega),Q0 (by omega),Q0 (by omega),ZL (a:=(w:Int)) (by omega) (by omega),Q0 (by omega),Int.toNat_natCast,Zp,Qp (by omega) (by omega),show ((qs.getD i 0:Nat):Int)-(i:Int)=((qs.getD i 0-i:Nat):Int) by omega,Quv _ _ (by omega) (by omega)]
   by_cases h0:0<w
   ·rw[Q0 (by omega),Q0g]; unfold J1
    by_cases hl:i<low.length
    ·rw[Q0 (by omega),Q0 (by omega),Qb,Q0 (by omega),ZL (a:=(w:Int)) (by omega) (by omega),Q0 (by omega),Q1 (QJ1 w hw),Int.toNat_natCast,Zp,QE6 _ _ hw,p1 ⟨h0,hl⟩]
     refine key _ ?_
     rw[Q6 (by omega) (by omega),show (i:Int)+1=((i+1:Nat):Int) by omega]
    ·rw[Q1 (by omega),p2 (by omega)]
     refine key _ ?_
     rw[Q6 (by omega) (by omega),show (i:Int)+1=((i+1:Nat):Int) by omega]
   ·rw[Q1 (by omega),Q0g]; unfold J1
    rw[Ev.Q5,p2 (by omega)]
    refine key _ ?_
    rw[Q6 (by omega) (by omega),show (i:Int)+1=((i+1:Nat):Int) by omega]
  ·have:i=qs.length:=by omega
   subst this
   rw[Q1 (by omega),List.drop_of_length_le (Nat.le_refl _)]
   have e:out++plF w low qs.length []=out:=List.append_nil _
   simp only[e]
   rw[if_pos h6,h3]
end
end
end Go.Proofs.YtofblchonjfdbaaGreatDoor
namespace Go.Proofs.YtofblchonjfdbaaGreatDoor
open Go Go.Ev
section
variable {R : Type}
section
variable (w : Nat) (low qs : List Nat) (N : Nat) (M a b c : Int) (xs : List Int) (h : Int) (zs : List Int)
theorem QKK(hlow:∀ u∈low,u<2 ^ 64)(hw:w≤20)(h5:qs.length<2 ^ 21)(h7:Ge 0 qs)(K0:Bool→Option R)(K1:Nat→Bool→List Int→Option R)(KK:List Nat→Bool→Option R)(hK0:K0 false=KK [] false)(hK1:∀ Q:List Nat,K1 Q.length true (ci Q)=KK Q true):
  Ys (w:Int) (ci low) (ci qs) (N:Int) M a b c xs h zs K0 K1=if QaF N (plF w low 0 qs) then KK (plF w low 0 qs) true else KK [] false:=by
 rw[Q6S]; unfold Q29
 rw[Q64]; unfold UH
 refine (show _=_ from QAW w low qs N M a b c xs h zs hlow hw _ _ NR 0 [] (by omega) (by have:=QT; omega) rfl h5 ⟨by simp,by simp⟩ h7).trans ?_
 rw[List.drop_zero,List.nil_append]
 split
 ·rw[hK1]
 ·rw[hK0]
end
theorem QGs{a b c:Int}{xs:List Nat}(hxs:Ws xs):∀ u∈Yn a b c xs,u<2 ^ 64:=fun u hu=>by
 unfold Yn at hu
 split at hu
 ·rename_i hok
  obtain ⟨a',b',l,rfl,rfl,rfl,rfl,f1,f2,f3,f4,f5⟩:=QeU hok hxs.1
  rw[Int.toNat_natCast,Int.toNat_natCast]at hu
  exact Qy4 f3 _ u hu
 ·simp at hu
theorem QQV{H:List Bool}(h:H.length≤1048576):Ge 0 (pl H):=⟨Qoj H,fun q hq=>⟨Nat.zero_le _,by have:=QoR hq; omega⟩⟩
theorem Qce(N M:Nat)(hN:N≤3000)(hM:M≤N)(a b c:Int)(xs:List Nat)(hxs:Ws xs)(hok:okI a b c xs=true)(H:List Bool)(hH:H.length≤1048576)(K:List Int→Bool→Option R):
  YE (N:Int) (M:Int) a b c (ci xs) (H.length:Int) (ci (wds H)) K =
  if ((pl H).length=M∧(0<Q5Y N M→(Yn a b c xs).length=M))∧QaF N (plF (Q5Y N M) (Yn a b c xs) 0 (pl H)) then K (ci (plF (Q5Y N M) (Yn a b c xs) 0 (pl H))) true else K [] false:=by
 have hw:Q5Y N M≤20:=QDW (by omega)
 have hpl:(pl H).length<2 ^ 21:=by have:=Qaf H; unfold FM at this; omega
 rw[Q3z]; unfold Q17
 rw[Q1 (by omega),Q1 (by omega),Q1 (by omega),Q1 (by omega),Zx _ _ _ _ hxs,hok,Bool.not_true,Ev.Q5,Qq _ _ (Q6M hH),Yl H hH,Bool.not_true,Ev.Q5,Q6U]; unfold Q2b
 rw[Q7v _ _ (by omega) hM,Q6T]; unfold Q2a
 rw[Q8R _ _ _ _ hxs,Q6y H hH,Qb,Qb]
 have j9:∀ (K0:Bool→Option R) (K1:Nat→Bool→List Int→Option R),(K0 false=K [] false)→(∀ Q:List Nat,K1 Q.length true (ci Q)=K (ci Q) true) →
   Ys ((Q5Y N M:Nat):Int) (ci (Yn a b c xs)) (ci (pl H)) (N:Int) (M:Int) a b c (ci xs) (H.length:Int) (ci (wds H)) K0 K1=if QaF N (plF (Q5Y N M) (Yn a b c xs) 0 (pl H)) then K (ci (plF (Q5Y N M) (Yn a b c xs) 0 (pl H))) true else K [] false:=fun K0 K1 e0 e1=>
  QKK (Q5Y N M) (Yn a b c xs) (pl H) N (M:Int) a b c (ci xs) (H.length:Int) (ci (wds H)) (QGs hxs) hw hpl (QQV hH) K0 K1 (fun Q b=>K (ci Q) b) e0 e1
 have hout:∀ Q:List Nat,(sel (decide (Q.length=List.length (ci Q))) (K (ci Q) true) none)=K (ci Q) true:=fun Q=>by
  rw[Q0 (Qb _).symm]
 by_cases h1:(pl H).length=M
 ·rw[Qt (by omega)]
  by_cases h2:0<Q5Y N M
  ·rw[Q0 (by omega)]
   by_cases h3:(Yn a b c xs).length=M
   ·rw[Qt (by omega),j9 _ _ rfl (fun Q=>hout Q)]
    simp only[h1,h3,implies_true,and_self,true_and]
   ·rw[Zr (by omega),if_neg (fun h=>h3 (h.1.2 h2))]
  ·rw[Q1 (by omega),j9 _ _ rfl (fun Q=>hout Q)]
   simp only[h1,h2,false_implies,and_self,true_and]
 ·rw[Zr (by omega),if_neg (fun h=>h1 h.1.1)]
theorem Qlz(N M a b c:Int)(xs:List Nat)(h:Int)(hs:List Nat)(hxs:Ws xs)(hhs:Ws hs)(hno:¬(0≤N∧N≤1048576∧0≤M∧M≤N∧okI a b c xs=true∧QM h hs=true))(K:List Int→Bool→Option R):
  YE N M a b c (ci xs) h (ci hs) K=K [] false:=by
 rw[Q3z]; unfold Q17
 by_cases h1:N<0
 ·rw[Q0 h1]
 rw[Q1 h1]
 by_cases h1b:1048576<N
 ·rw[Q0 h1b]
 rw[Q1 h1b]
 by_cases h2:M<0
 ·rw[Q0 h2]
 rw[Q1 h2]
 by_cases h3:N<M
 ·rw[Q0 h3]
 rw[Q1 h3,Zx _ _ _ _ hxs]
 cases hok:okI a b c xs with
 | false=>rw[Bool.not_false,Ev.Q8]
 | true=>
  rw[Bool.not_true,Ev.Q5,Qq _ _ hhs]
  cases hrow:QM h hs with
  | false=>rw[Bool.not_false,Ev.Q8]
  | true=>exact absurd ⟨by omega,by omega,by omega,by omega,hok,hrow⟩ hno
theorem Qx5(Q:List Nat)(N:Nat)(hQ:∀ q∈Q,q<N)(hQl:Q.length<1000000)(z:Int)(K0:Nat→Int→List Bool→Option R):∀ (F i:Nat) (bs:List Bool),i≤Q.length→Q.length-i<F→bs.length=N →
  Zh K0 F (ci Q) N (i:Int) z bs=K0 N z (Qca (Q.drop i) bs)
 | 0,_,_,_,h,_=>by omega
 | F+1,i,bs,h1,h2,h3=>by
  simp only[Zh,Q65]
  rw[Qb]
  by_cases h:i<Q.length
  ·have hq:=hQ (Q.getD i 0) (by rw[List.getD_eq_getElem?_getD,List.getElem?_eq_getElem h]; exact List.getElem_mem _)
   rw[Int.toNat_natCast,Zp,Int.toNat_natCast,Q0 (by omega),Q0 (by omega),Q0 (by omega),Q0 (by omega),Q0 (by omega),Q0 (by omega),Qm,Q6 (by omega) (by omega),show (i:Int)+1=((i+1:Nat):Int) by omega,Qx5 Q N hQ hQl z K0 F (i+1) _ (by omega) (by omega) (by rw[List.length_set]; exact h3),QeZ Q h]
   rfl
  ·rw[Q1 (by omega),List.drop_of_length_le (by omega)]; rfl
theorem YA(N M a b c:Int)(xs:List Int)(h:Int)(hs:List Int)(N' M' a' b' c':Int)(xs':List Int)(h':Int)(hs':List Int)(hx:xs.length<4000000000)(hh:hs.length<4000000000)(K:Bool→Option R):
  JT N M a b c xs h hs N' M' a' b' c' xs' h' hs' K=K (decide (N=N'∧M=M'∧(a=a'∧b=b'∧c=c'∧xs=xs')∧(h=h'∧hs=hs'))):=by
 rw[Qa9]; unfold Q5x
 by_cases h1:N=N'
 ·rw[Q0 h1]
  by_cases h2:M=M'
  ·rw[Q0 h2,Q8S _ _ _ _ _ _ _ _ hx]
   by_cases h3:a=a'∧b=b'∧c=c'∧xs=xs'
   ·rw[decide_eq_true h3,Ev.Q8,Zd _ _ _ _ hh]
    congr 1
    rw[decide_eq_decide]
    exact ⟨fun h4=>⟨h1,h2,h3,h4⟩,fun h4=>h4.2.2.2⟩
   ·rw[decide_eq_false h3,Ev.Q5,decide_eq_false (fun h4=>h3 h4.2.2.1)]
  ·rw[Q1 h2,decide_eq_false (fun h4=>h2 h4.2.1)]
 ·rw[Q1 h1,decide_eq_false (fun h4=>h1 h4.1)]
theorem QoW(N:Nat)(hN:N≤3000)(M a b c:Int)(xs:List Nat)(h:Int)(hs:List Nat)(hx:xs.length<4000000000)(hh:hs.length<4000000000)(l:List Bool)(hl:l.length=N)(Q:List Nat)(hQ:Q=pl l)(hrow:∀ K:List Int→Bool→Option R,YE (N:Int) M a b c (ci xs) h (ci hs) K=K (ci Q) true)(K:Int→List Int→Bool→Option R):
  Z3 (N:Int) M a b c (ci xs) h (ci hs) K=if c=(((FL l).length*FV l:Nat):Int)∧Qs3 M a b xs h hs l then K (l.length:Int) (ci (wds l)) true else K 0 [] false:=by
 subst hQ
 rw[Q1l]; unfold U6
 rw[hrow,Bool.not_true,Ev.Q5]
 have e:=QaG (R:=R) l (by omega)
 rw[hl]at e
 rw[e,Qt rfl,YA _ _ _ _ _ _ _ _ _ _ _ _ _ _ _ _ (by rw[Qb]; exact hx) (by rw[Qb]; exact hh)]
 by_cases hy:c=(((FL l).length*FV l:Nat):Int)∧Qs3 M a b xs h hs l
 ·obtain ⟨y0,y1,y2,y3,y4,y5,y6⟩:=hy
  rw[if_pos ⟨y0,y1,y2,y3,y4,y5,y6⟩,decide_eq_true ⟨rfl,y1,⟨y2,y3,y0,Qnv.2 y4⟩,y5,Qnv.2 y6⟩,Bool.not_true,JE]; unfold Ug
  rw[Ev.Q5]
  try dsimp only
  rw[Q4X]; unfold Q0J
  have hpl:(pl l).length≤N:=by have:=Qaf l; unfold FM at this; omega
  rw[Q0 (by omega),Q0 (by omega),Q0 (by omega),Q0 (by omega),Qm,Q4i]; unfold YT
  rw[Int.toNat_natCast]
  refine (Qx5 (pl l) N (fun q hq=>by have:=QoR hq; omega) (by omega) 0 _ NR 0 (List.replicate N false) (by omega) (by have:=QT; omega) (by simp)).trans ?_
  have e2:Qca ((pl l).drop 0) (List.replicate N false)=l:=by rw[List.drop_zero,←hl]; exact QDU l
  rw[e2,Q0 hl.symm,Q0 hl.symm,Yy l (by omega)]
 ·rw[if_neg hy,decide_eq_false (fun h4=>hy ⟨h4.2.2.1.2.2.1,h4.2.1,h4.2.2.1.1,h4.2.2.1.2.1,Qnv.1 h4.2.2.1.2.2.2,h4.2.2.2.1,Qnv.1 h4.2.2.2.2⟩),Bool.not_false,JE]; unfold Ug
  rw[Ev.Q8]
theorem Q8U(l:List Bool)(hl:l.length≤3000)(K:Int→List Int→Bool→Option R):
  Z3 (l.length:Int) ((FM l:Nat):Int) ((FL l).length:Int) ((FV l:Nat):Int) (((FL l).length*FV l:Nat):Int) (ci (wds (Zg (FV l) (FL l)))) ((FH l).length:Int) (ci (wds (FH l))) K=K (l.length:Int) (ci (wds l)) true:=by
 have hh:=Quf hl
 rw[QoW l.length hl _ _ _ _ _ _ _ (Qy1 hl) (by rw[Qn]; omega) l rfl (pl l) rfl (fun K=>?_),if_pos ⟨rfl,Que l⟩]
 rw[Qce l.length (FM l) hl (Qaf l) _ _ _ _ (Qy2 hl) (QAo hl) (FH l) (by omega)]
 have e:plF (Q5Y l.length (FM l)) (FL l) 0 (pl (FH l))=pl l:=by
  rw[QAp]
  exact QE5 (w:=FW l) (n:=l.length) (ps:=pl l) (fun p hp=>Nat.le_of_lt (QoR hp)) (pl l).length 0 (by omega)
 simp only[Qy0 hl,e]
 rw[if_pos]
 refine ⟨⟨?_,fun h0=>?_⟩,Qoj l,fun p hp=>QoR hp⟩
 ·rw[QAp,Qbc]; rfl
 ·have h0:0<FW l:=h0
  unfold FL FM; rw[Q8K,if_neg (by omega)]
theorem QkN(N M a b c:Int)(xs:List Nat)(h:Int)(hs:List Nat)(hN:N≤3000)(hxs:Ws xs)(hxl:xs.length<4000000000)(hhs:Ws hs)(hno:∀ l:List Bool,l.length≤3000→¬IsF N M a b c xs h hs l)(K:Int→List Int→Bool→Option R):
  Z3 N M a b c (ci xs) h (ci hs) K=K 0 [] false:=by
 have bad:(∀ K:List Int→Bool→Option R,YE N M a b c (ci xs) h (ci hs) K=K [] false)→Z3 N M a b c (ci xs) h (ci hs) K=K 0 [] false:=fun hr=>by
  rw[Q1l]; unfold U6
  rw[hr,Bool.not_false,Ev.Q8]
 by_cases hg:0≤N∧N≤1048576∧0≤M∧M≤N∧okI a b c xs=true∧QM h hs=true
 ·obtain ⟨g1,g2,g3,g4,hok,hrow⟩:=hg
  obtain ⟨H,rfl,rfl,hH⟩:=Q3t hrow hhs.1
  obtain ⟨N,rfl⟩:∃ b:Nat,N=(b:Int):=⟨N.toNat,by omega⟩
  obtain ⟨M,rfl⟩:∃ b:Nat,M=(b:Int):=⟨M.toNat,by omega⟩
  have hr:=fun K:List Int→Bool→Option R=>Qce (R:=R) N M (by omega) (by omega) a b c xs hxs hok H hH K
  by_cases hy:((pl H).length=M∧(0<Q5Y N M→(Yn a b c xs).length=M))∧QaF N (plF (Q5Y N M) (Yn a b c xs) 0 (pl H))
  ·generalize hQ:plF (Q5Y N M) (Yn a b c xs) 0 (pl H)=Q at *
   have hl:(Qca Q (List.replicate N false)).length=N:=by rw[Qcb,List.length_replicate]
   rw[QoW N (by omega) _ _ _ _ xs _ _ hxl (by rw[Qn]; omega) (Qca Q (List.replicate N false)) hl Q (QDT hy.2.1 hy.2.2).symm (fun K=>by rw[hr,if_pos hy]),if_neg]
   intro h4
   exact hno _ (by omega) ⟨by omega,h4.1,h4.2⟩
  ·exact bad fun K=>by rw[hr,if_neg hy]
 ·exact bad fun K=>Qlz N M a b c xs h hs hxs hhs hg K
theorem QIZ(a b:Bool):(!(a==b)) = !decide (a=b):=by cases a<;>cases b<;>rfl
theorem QuV(l:List Bool)(hl:l.length≤3000)(K:Bool→Option R):Q19 (l.length:Int) ((FM l:Nat):Int) ((FL l).length:Int) ((FV l:Nat):Int) (((FL l).length*FV l:Nat):Int) (ci (wds (Zg (FV l) (FL l)))) ((FH l).length:Int) (ci (wds (FH l))) K=K true:=by
 rw[Q89]; unfold Q3B
 rw[Q8U l hl]
theorem Qvm(l:List Bool)(hl:l.length≤3000)(K:Int→Option R):Q2e (l.length:Int) ((FM l:Nat):Int) ((FL l).length:Int) ((FV l:Nat):Int) (((FL l).length*FV l:Nat):Int) (ci (wds (Zg (FV l) (FL l)))) ((FH l).length:Int) (ci (wds (FH l))) K=K (((FL l).length*FV l+(FH l).length+64:Nat):Int):=by
 have h1:=Qb5 (low:=FL l) (Qs5 hl) (Nat.le_trans (Qaf l) hl) (Q5W l)
 have h2:=Quf hl
 rw[Q92]; unfold Q50
 rw[QuV l hl,Bool.not_true,Ev.Q5]
 have h3:(FL l).length*FV l≤33000:=h1
 have hz:=Int.natCast_nonneg ((FL l).length*FV l)
 generalize (FL l).length*FV l=d at *
 have e:Qe .i64 (d:Int) ((FH l).length:Int)=((d+(FH l).length:Nat):Int):=by rw[Q6 (by omega) (by omega)]; omega
 rw[e,Q6 (by omega) (by omega)]
 congr 1
section
variable {N M a b c : Int} {xs : List Nat} {h : Int} {hs : List Nat} (hN : N ≤ 3000) (hxs : Ws xs) (hxl : xs.length < 4000000000) (hhs : Ws hs) (hno : ∀ l : List Bool, l.length ≤ 3000 → ¬ IsF N M a b c xs h hs l)
include hN hxs hxl hhs hno
end
end
end Go.Proofs.YtofblchonjfdbaaGreatDoor
