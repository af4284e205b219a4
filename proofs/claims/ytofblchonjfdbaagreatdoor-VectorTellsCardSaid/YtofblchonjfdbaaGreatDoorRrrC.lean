import Derived.Test.YtofblchonjfdbaaGreatDoorW12
import Derived.Test.YtofblchonjfdbaaGreatDoorW14
import Derived.Test.YtofblchonjfdbaaGreatDoorWA
namespace Go.Ev
open Go
def NB(l:List Bool):Nat:=(l.length+14)/15
def bw(l:List Bool)(i:Nat):Nat:=Zq (wds l) (15*i) 15
def cls(l:List Bool)(i:Nat):Nat:=pc (bw l i) 15
def ofs(l:List Bool)(i:Nat):Nat:=Q1Y (bw l i) 15
def Ua(k:Nat):Nat:=bitLen (ch 15 k-1)
def QU(l:List Bool):Nat→List Bool
 | 0=>[]
 | i+1=>QU l i++Q2T (ofs l i) (Ua (cls l i))
def UE(l:List Bool)(n:Nat):List Nat:=(List.range n).map (cls l)
def grp(i:Nat):Nat:=(i+7)/8
def Q1X(l:List Bool)(n:Nat):List Int:=(List.range n).map fun g=>((Qg l true (120*g):Nat):Int)
def Qbd(l:List Bool)(n:Nat):List Int:=(List.range n).map fun g=>(((QU l (8*g)).length:Nat):Int)
def NG(l:List Bool):Nat:=max 1 (grp (NB l))
theorem QCY(l:List Bool)(i j:Nat):(bw l i).testBit j=(decide (j<15)&&l.getD (15*i+j) false):=by
 unfold bw; rw[JX,ZU]
theorem QqJ(l:List Bool)(i:Nat):bw l i<32768:=Q8H _ _ _
theorem QuH(l:List Bool)(i:Nat):Zq (wds l) (15*i) (min 15 (l.length-15*i))=bw l i:=by
 apply Nat.eq_of_testBit_eq
 intro j
 rw[QCY,JX,ZU]
 by_cases h1:j<15
 ·by_cases h2:15*i+j<l.length
  ·rw[decide_eq_true (by omega),decide_eq_true h1]
  ·rw[QsP (by omega),Bool.and_false,Bool.and_false]
 ·rw[decide_eq_false (by omega),decide_eq_false h1]
theorem QNH(l:List Bool)(i:Nat):bw l i<2 ^ min 15 (l.length-15*i):=by rw[←QuH]; exact Q8H _ _ _
theorem QuI(l:List Bool)(i:Nat):cls l i≤15:=Q15 _ _
theorem QsR(l:List Bool)(i:Nat):∀ r,r≤15→Qg l true (15*i+r)=Qg l true (15*i)+pc (bw l i) r
 | 0,_=>rfl
 | r+1,h=>by
  have ih:=QsR l i r (by omega)
  rw[Qdj,QCY,decide_eq_true (by omega),Bool.true_and]
  show Qg l true (15*i+r)+(l.getD (15*i+r) false==true).toNat=_
  rw[ih]
  cases l.getD (15*i+r) false<;>simp<;>omega
theorem QAK(l:List Bool)(i:Nat):Qg l true (15*(i+1))=Qg l true (15*i)+cls l i:=QsR l i 15 (Nat.le_refl _)
theorem Qys(l:List Bool)(i:Nat):ofs l i<ch 15 (cls l i):=QqM _ _
theorem QII(l:List Bool)(i:Nat):Qdk 15 (cls l i) (ofs l i)=bw l i:=by
 unfold cls ofs; rw[QAO]; exact Nat.mod_eq_of_lt (QqJ l i)
theorem QsS(l:List Bool)(i:Nat):ofs l i<2 ^ Ua (cls l i):=by
 have h:=Qys l i
 exact QkE.2 (Nat.le_trans (bitLen_le_of (by omega)) (Nat.le_refl _))
where bitLen_le_of {a b:Nat} (h:a≤b):bitLen a≤bitLen b:=QkE.1 (Nat.lt_of_le_of_lt h (bitLen_spec b).1)
theorem Qi4(k:Nat):Ua k≤13:=by
 unfold Ua
 by_cases h:k≤15
 ·have:∀ j,j<16→bitLen (ch 15 j-1)≤13:=by decide +kernel
  exact this k (by omega)
 ·rw[Qdi 15 k (by omega)]; decide
theorem QCZ:Ua 0=0:=by decide
theorem QIJ{l:List Bool}{i:Nat}(h:cls l i=0):ofs l i=0:=by
 have:=Qys l i
 rw[h,Qok]at this; omega
theorem QE0(l:List Bool):∀ i,(QU l i).length≤13*i
 | 0=>by simp[QU]
 | i+1=>by
  have:=QE0 l i
  have:=Qi4 (cls l i)
  simp only[QU,List.length_append,QA]; omega
theorem Qrp(l:List Bool){i j:Nat}(h:i≤j):(QU l i).length≤(QU l j).length:=by
 induction h with
 | refl=>exact Nat.le_refl _
 | step _ ih=>simp only[QU,List.length_append]; omega
theorem QIK(l:List Bool)(q:Nat):∀ {i j:Nat},i≤j→q<(QU l i).length→(QU l j).getD q false=(QU l i).getD q false:=by
 intro i j h hq
 induction h with
 | refl=>rfl
 | step h ih=>
  have:=Qrp l h
  simp only[QU]
  rw[Q0G,if_pos (by omega),ih]
theorem QuJ(l:List Bool){i j:Nat}(h:i<j):Zq (wds (QU l j)) (QU l i).length (Ua (cls l i))=ofs l i:=by
 apply Nat.eq_of_testBit_eq
 intro q
 rw[JX,ZU]
 by_cases hq:q<Ua (cls l i)
 ·rw[decide_eq_true hq,Bool.true_and,QIK l _ (show i+1≤j from h) (by simp only[QU,List.length_append,QA]; omega)]
  simp only[QU]
  rw[Q0G,if_neg (by omega),show (QU l i).length+q-(QU l i).length=q by omega,QhZ,decide_eq_true hq,Bool.true_and]
 ·rw[decide_eq_false hq,Bool.false_and,Qb8 (QsS l i) (by omega)]
theorem Z1(l:List Bool)(n:Nat):(UE l n).length=n:=by simp[UE]
theorem QAL(l:List Bool){n i:Nat}(h:i<n):(UE l n).getD i 0=cls l i:=by
 unfold UE
 rw[List.getD_eq_getElem?_getD,List.getElem?_map,List.getElem?_range h]; rfl
theorem QwX(l:List Bool)(n:Nat):UE l (n+1)=UE l n++[cls l n]:=by simp[UE,List.range_succ]
theorem QsT(l:List Bool)(n:Nat):∀ u∈UE l n,u<16:=fun u h=>by
 obtain ⟨i,_,rfl⟩:=List.mem_map.1 h
 have:=QuI l i; omega
theorem Js(l:List Bool)(n:Nat):(Q1X l n).length=n:=by simp[Q1X]
theorem Q8L(l:List Bool)(n:Nat):(Qbd l n).length=n:=by simp[Qbd]
theorem QGq(l:List Bool){n g:Nat}(h:g<n):(Q1X l n).getD g 0=((Qg l true (120*g):Nat):Int):=by
 unfold Q1X
 rw[List.getD_eq_getElem?_getD,List.getElem?_map,List.getElem?_range h]; rfl
theorem QIL(l:List Bool){n g:Nat}(h:g<n):(Qbd l n).getD g 0=(((QU l (8*g)).length:Nat):Int):=by
 unfold Qbd
 rw[List.getD_eq_getElem?_getD,List.getElem?_map,List.getElem?_range h]; rfl
theorem QuK(l:List Bool)(n:Nat):Q1X l (n+1)=Q1X l n++[((Qg l true (120*n):Nat):Int)]:=by simp[Q1X,List.range_succ]
theorem QwY(l:List Bool)(n:Nat):Qbd l (n+1)=Qbd l n++[(((QU l (8*n)).length:Nat):Int)]:=by simp[Qbd,List.range_succ]
theorem Q8M{l:List Bool}{n:Nat}(h:l.length≤n):NB l≤(n+14)/15:=Nat.div_le_div_right (by omega)
theorem Qcc{l:List Bool}{i:Nat}: i<NB l↔15*i<l.length:=by unfold NB; omega
theorem QAM(i:Nat):grp (i+1)=grp i+(if i%8=0 then 1 else 0):=by unfold grp; split<;>omega
theorem QIM{i:Nat}(h:i%8=0):8*grp i=i:=by unfold grp; omega
theorem QKy(l:List Bool)(i:Nat):l.take (15*i)++Q2T (bw l i) (min 15 (l.length-15*i))=l.take (15*(i+1)):=by
 apply QwU
 ·simp only[List.length_append,List.length_take,QA]; omega
 ·intro q hq
  rw[Q0G,List.length_take]
  have ht:∀ n,(l.take n).getD q false=(decide (q<n)&&l.getD q false):=fun n=>by
   rw[List.getD_eq_getElem?_getD,List.getElem?_take,List.getD_eq_getElem?_getD]
   by_cases h:q<n
   ·rw[if_pos h,decide_eq_true h,Bool.true_and]
   ·rw[if_neg h,decide_eq_false h,Bool.false_and]; rfl
  simp only[List.length_append,List.length_take,QA]at hq
  by_cases h1:q<min (15*i) l.length
  ·rw[if_pos h1,ht,ht,decide_eq_true (by omega),decide_eq_true (by omega)]
  ·rw[if_neg h1,QhZ,QCY,ht,decide_eq_true (by omega),decide_eq_true (by omega),decide_eq_true (by omega),show 15*i+(q-min (15*i) l.length)=q by omega,Bool.true_and,Bool.true_and]
def QqK(tight:Bool)(N:Nat)(off:List Bool):List Nat→Nat→List Bool→Option (List Bool)
 | [],_,out=>some out
 | c::cs,at_,out=>
  if 15<c then none else if off.length<at_+Ua c then none else if ch 15 c≤Zq (wds off) at_ (Ua c) then none
  else if tight=true∧min 15 (N-out.length)<bitLen (Qdk 15 c (Zq (wds off) at_ (Ua c))) then none
  else QqK tight N off cs (at_+Ua c) (out++Q2T (Qdk 15 c (Zq (wds off) at_ (Ua c))) (min 15 (N-out.length)))
theorem Qsa{tight:Bool}{N:Nat}{off:List Bool}: ∀ {cs:List Nat} {at_:Nat} {out r:List Bool},QqK tight N off cs at_ out=some r→out.length≤N→r.length≤N
 | [],_,_,_,h,hN=>by cases h; exact hN
 | c::cs,at_,out,r,h,hN=>by
  simp only[QqK]at h
  split at h
  ·cases h
  ·split at h
   ·cases h
   ·split at h
    ·cases h
    ·split at h
     ·cases h
     ·exact Qsa h (by rw[List.length_append,QA]; omega)
theorem QuL(tight:Bool)(l:List Bool):∀ (f i:Nat),i+f=NB l→QqK tight l.length (QU l (NB l)) ((List.range' i f).map (cls l)) (QU l i).length (l.take (15*i))=some l
 | 0,i,h=>by
  simp only[List.range'_zero,List.map_nil,QqK]
  rw[List.take_of_length_le (by unfold NB at h; omega)]
 | f+1,i,h=>by
  have hi:i<NB l:=by omega
  have hl:=Qcc.1 hi
  have hs:=QuJ l hi
  have hm:=Qrp l (show i+1≤NB l by omega)
  have hlen:(QU l (i+1)).length=(QU l i).length+Ua (cls l i):=by simp[QU,QA]
  have ht:(l.take (15*i)).length=15*i:=by rw[List.length_take]; omega
  rw[List.range'_succ,List.map_cons]
  simp only[QqK]
  rw[if_neg (by have:=QuI l i; omega),if_neg (by omega),hs,if_neg (by have:=Qys l i; omega),QII,ht,if_neg (by rintro ⟨_,h3⟩; have:=Q8G (QNH l i); omega),
   QKy,←hlen]
  exact QuL tight l f (i+1) (by omega)
theorem QIN(tight:Bool)(l:List Bool):QqK tight l.length (QU l (NB l)) (UE l (NB l)) 0 []=some l:=by
 have:=QuL tight l (NB l) 0 (by omega)
 rw[Nat.mul_zero,List.take_zero,←List.range_eq_range']at this
 exact this
def bwB(l:List Bool)(bit:Bool)(i:Nat):Nat:=if bit=true then bw l i else 32767-bw l i
theorem QIO(l:List Bool)(bit:Bool)(i:Nat):bwB l bit i<32768:=by
 have:=QqJ l i
 unfold bwB; split<;>omega
theorem Qyt(l:List Bool)(bit:Bool)(i r:Nat)(h:r≤15):Qg l bit (15*i+r)=Qg l bit (15*i)+pc (bwB l bit i) r:=by
 have h1:=QsR l i r h
 cases bit with
 | true=>exact h1
 | false=>
  have h2:=Q1V l (15*i+r)
  have h3:=Q1V l (15*i)
  have h4:=QIu (x:=bw l i) (n:=15) (QqJ l i) r h
  show _=_+pc (32767-bw l i) r
  have h4:pc (32767-bw l i) r+pc (bw l i) r=r:=h4
  omega
theorem QQU{x:Nat}(h:x<32768):pc x 64=pc x 15:=QIt (n:=15) h (by decide)
theorem QE1(l:List Bool)(bit:Bool)(i:Nat):Qg l bit (15*(i+1))=Qg l bit (15*i)+pc (bwB l bit i) 64:=by
 rw[QQU (QIO l bit i),←Qyt l bit i 15 (Nat.le_refl _)]; rfl
theorem QKz{l:List Bool}{bit:Bool}{k p:Nat}(h:IsAt l bit k p):Qdh (bwB l bit (p/15)) ((k-Qg l bit (15*(p/15)):Nat):Int)=p%15∧Qg l bit (15*(p/15))≤k∧k<Qg l bit (15*(p/15+1)):=by
 have e:15*(p/15)+p%15=p:=by omega
 have h1:=Qyt l bit (p/15) (p%15) (by omega)
 have h2:=Qyt l bit (p/15) (p%15+1) (by omega)
 rw[e,h.cnt]at h1
 have h3:Qg l bit (15*(p/15)+(p%15+1))=k+1:=by
  rw[show 15*(p/15)+(p%15+1)=p+1 by omega]
  show Qg l bit p+(l.getD p false==bit).toNat=k+1
  rw[h.cnt,h.is]; simp
 rw[h3]at h2
 have hb:(bwB l bit (p/15)).testBit (p%15)=true:=by
  have:=Qdj (bwB l bit (p/15)) (p%15)
  cases hx:(bwB l bit (p/15)).testBit (p%15) with
  | true=>rfl
  | false=>rw[hx]at this; simp at this; omega
 have hm:=Qb9 l bit (show 15*(p/15)+(p%15+1)≤15*(p/15+1) by omega)
 refine ⟨Qqy ?_,by omega,by omega⟩
 exact .inl ⟨by omega,hb,by omega⟩
def Qsz(l:List Bool)(i:Int):Bool×Int:=if i<0∨(l.length:Int)≤i then (false,3) else (l.getD i.toNat false,0)
def QuM(l:List Bool)(bit:Bool)(i:Int):Int×Int:=if i<0∨(l.length:Int)<i then (0,3) else (((Qg l bit i.toNat:Nat):Int),0)
def Qrq(l:List Bool)(bit:Bool)(k:Int):Int×Int:=if k<0 then (0,3) else match QnF l bit k.toNat with|some i=>((i:Int),0)|none=>(0,3)
end Go.Ev
namespace Go.Proofs.YtofblchonjfdbaaGreatDoor
open Go Go.Ev
section
variable {R : Type}
theorem Qln(i:Nat)(hi:i+1≤62)(K:List Int→Option R):∀ (N k:Nat),k≤i+1→k<N→YK K N (k:Int) (tab (Qaj i k) 63)=K (tab (ch (i+1)) 63)
 | 0,_,_,h=>by omega
 | N+1,k,h1,h2=>by
  simp only[YK,QcF]
  cases k with
  | zero=>rw[Q1 (by omega),QwZ]
  | succ k=>
   have e0:QB .i64 ((k+1:Nat):Int) 1=(k:Int):=by rw[Qp (by omega) (by omega)]; omega
   have a1:=QqL (n:=i+1) (k:=k+1) (by omega)
   have e1:Qaj i (k+1) (k+1)+Qaj i (k+1) k=ch (i+1) (k+1):=by
    unfold Qaj
    rw[if_neg (by omega),if_neg (by omega),ch]; omega
   have ea:Qe .u64 ((tab (Qaj i (k+1)) 63).getD (Int.toNat ((k+1:Nat):Int)) 0) ((tab (Qaj i (k+1)) 63).getD (Int.toNat (k:Int)) 0)=((Qaj i (k+1) (k+1)+Qaj i (k+1) k:Nat):Int):=by
    rw[Int.toNat_natCast,Int.toNat_natCast,QfM _ (by omega),QfM _ (by omega),Qqx (by omega) (by omega)]; omega
   rw[Q2U,e0,ea,Q0 (by omega),Q0 (by omega),Q0 (by omega),Q0 (by omega),Q0 (by omega),Q0 (by omega),Q0 (by omega),Q0 (by omega),Q0 (by omega),Q0 (by omega),Qm,Int.toNat_natCast,Qx0 i k 63 (by omega)]
   exact Qln i hi K N k (by omega) (by omega)
theorem Qlo(i:Nat)(hi:i+1≤62)(K:List Int→Option R):Q1p (i:Int) (tab (ch i) 63) K=K (tab (ch (i+1)) 63):=by
 rw[QbV]; unfold Q7R
 rw[Qar]; unfold Q1b
 rw[Q6 (by omega) (by omega),show (i:Int)+1=((i+1:Nat):Int) by omega,←QuO i 63]
 exact Qln i hi _ NR (i+1) (by omega) (by have:=QT; omega)
def chI(n k:Int):Nat:=if 0≤n∧n≤62∧0≤k∧k≤n then ch n.toNat k.toNat else 0
theorem QKC(n k:Nat)(h1:n≤62)(h2:k≤n):chI (n:Int) (k:Int)=ch n k:=by
 unfold chI
 rw[if_pos ⟨by omega,by omega,by omega,by omega⟩,Int.toNat_natCast,Int.toNat_natCast]
theorem Qi5(n k:Nat)(h1:n≤62):chI (n:Int) (k:Int)=ch n k:=by
 by_cases h:k≤n
 ·exact QKC n k h1 h
 ·unfold chI; rw[if_neg (by omega),Qdi n k (by omega)]
theorem QIQ(n k:Int):chI n k≤4611686018427387904:=by
 unfold chI
 split
 ·exact QqL (by omega)
 ·omega
theorem QfN(n k:Nat)(hn:n≤62)(K:Int→List Int→Option R):∀ (N i:Nat),i≤n→n-i<N→UL K N (k:Int) (n:Int) (i:Int) (tab (ch i) 63)=K (k:Int) (tab (ch n) 63)
 | 0,_,_,h=>by omega
 | N+1,i,h1,h2=>by
  simp only[UL,Qfp]
  by_cases h:i<n
  ·rw[Q0 (by omega),Qlo i (by omega),Q6 (by omega) (by omega),show (i:Int)+1=((i+1:Nat):Int) by omega]
   exact QfN n k hn K N (i+1) (by omega) (by omega)
  ·have:i=n:=by omega
   subst this
   rw[Q1 (by omega)]
theorem QsA(n k:Nat)(hn:n≤62)(l:List Int)(h:l=tab (ch 0) 63)(K:Int→List Int→Option R):Q7C (k:Int) (n:Int) 0 l K=K (k:Int) (tab (ch n) 63):=by
 subst h
 rw[QcJ]; unfold Q4m
 exact QfN n k hn _ NR 0 (by omega) (by have:=QT; omega)
theorem QfO(n k:Int)(K:Int→Option R):Q9i n k K=K ((chI n k:Nat):Int):=by
 rw[Qhr]; unfold Qej chI
 by_cases h1:n<0
 ·rw[Q0 h1,if_neg (by omega)]; rfl
 by_cases h2:62<n
 ·rw[Q1 h1,Q0 h2,if_neg (by omega)]; rfl
 by_cases h3:k<0
 ·rw[Q1 h1,Q1 h2,Q0 h3,if_neg (by omega)]; rfl
 by_cases h4:n<k
 ·rw[Q1 h1,Q1 h2,Q1 h3,Q0 h4,if_neg (by omega)]; rfl
 obtain ⟨a,rfl⟩:∃ a:Nat,n=(a:Int):=⟨n.toNat,by omega⟩
 obtain ⟨b,rfl⟩:∃ b:Nat,k=(b:Int):=⟨k.toNat,by omega⟩
 rw[Q1 h1,Q1 h2,Q1 h3,Q1 h4,if_pos ⟨by omega,by omega,by omega,by omega⟩,QcK]; unfold Q9h
 refine (QsA a b (by omega) _ ?_ _).trans ?_
 ·decide +kernel
 rw[Q2U,Int.toNat_natCast,Int.toNat_natCast,Q0 (by omega),Q0 (by omega),Q0 (by omega),QfM _ (by omega)]
def tri(n:Nat):List (List Int):=(List.range (n+1)).map fun j=>tab (ch j) (j+1)
theorem QkG(n:Nat):(tri n).length=n+1:=by simp[tri]
theorem QE2{n i:Nat}(h:i≤n):(tri n).getD i []=tab (ch i) (i+1):=by
 unfold tri
 rw[List.getD_eq_getElem?_getD,List.getElem?_map,List.getElem?_range (by omega)]; rfl
theorem QAP(n:Nat):tri n++[tab (ch (n+1)) (n+2)]=tri (n+1):=by
 unfold tri
 rw[List.range_succ (n:=n+1),List.map_append]; rfl
theorem QIR:[[(1:Int)]]=tri 0:=by decide +kernel
theorem Qlp(n:Nat)(hn:n≤62)(K:Nat→List (List Int)→Option R):∀ (N i:Nat),i≤n→n-i<N→Q0j K N (i+1) (n:Int) (i:Int) (tab (ch i) 63) (tri i)=K (n+1) (tri n)
 | 0,_,_,h=>by omega
 | N+1,i,h1,h2=>by
  simp only[Q0j,QkS]
  by_cases h:i<n
  ·have e1:Qe .i64 (i:Int) 2=((i+2:Nat):Int):=by rw[Q6 (by omega) (by omega)]; omega
   have e2:Qe .i64 (i:Int) 1=((i+1:Nat):Int):=by rw[Q6 (by omega) (by omega)]; omega
   have ih:=Qlp n hn K N (i+1) (by omega) (by omega)
   rw[Q0 (by omega),Qlo i (by omega)]
   rw[e1,e2,Q2U,QkG,Int.toNat_natCast,show Int.toNat 0=0 from rfl,Nat.sub_zero,Q0 (by omega),Q0 (by omega),Q0 (by omega)]
   by_cases h3:i+2=63
   ·rw[Q0 h3,Q0 (by omega),Q0 rfl,Q0 (by omega),Q0 h3,Q0 h3,Qm,←h3,QAP]
    rw[←h3]at ih
    exact ih
   ·rw[Q1 h3,Q0 (by show 0+(i+2-0)≤63; omega),Q0 (by omega),Qm,List.drop_zero,show Nat.sub (i+2) 0=i+2 from rfl,QIP _ (by omega),Q2U,Q0 rfl,Q0 (by omega),Q0 rfl,Q0 rfl,Qm,QAP]
    exact ih
  ·have:i=n:=by omega
   subst this
   rw[Q1 (by omega)]
theorem Qvj(n:Nat)(hn:n≤62)(l:List Int)(h:l=tab (ch 0) 63)(K:Nat→List (List Int)→Option R):Qbn 1 (n:Int) 0 l [[1]] K=K (n+1) (tri n):=by
 subst h
 rw[QIR,Qfm]; unfold Q7A
 exact Qlp n hn _ NR 0 (by omega) (by have:=QT; omega)
theorem Qlq(n:Nat)(hn:n≤62)(K:List (List Int)→Option R):Qeh (n:Int) K=K (tri n):=by
 rw[QmV]; unfold Qk5
 refine (Qvj n hn _ ?_ _).trans ?_
 ·decide +kernel
 rw[Q0 (by show n+1=(tri n).length; rw[QkG])]
theorem QaE(y t:Nat)(ht:t≤62)(hy:y<2 ^ 64)(c:Int)(xss:List (List Int))(o l:Int)(K0:Int→Int→List (List Int)→Int→Int→Option R):Q1q (y:Int) c xss o l (t:Int) K0=K0 ((y-(y &&& 2 ^ t):Nat):Int) c xss o l:=by
 have hp:2 ^ t≤2 ^ 62:=Nat.pow_le_pow_right (by decide) ht
 rw[QbX]; unfold Q7S
 rw[Q0 (by omega),show (1:Int)=((1:Nat):Int) from rfl,Q3i _ _ (by omega),Nat.one_mul,Nat.mod_eq_of_lt (by omega),QfK _ _ hy (by omega)]
theorem QKD{y t:Nat}(h1:2 ^ t≤y)(h2:y<2 ^ (t+1)):y &&& 2 ^ t=2 ^ t:=by
 have e:y=2 ^ t*1+(y-2 ^ t):=by omega
 have h:=Q8F t (y-2 ^ t) 1 0 1 (by rw[Nat.pow_succ]at h2; omega) (Nat.two_pow_pos t)
 rw[←e,Nat.mul_one,Nat.add_zero,Nat.and_zero,Nat.and_self]at h
 omega
theorem QfP(n:Nat)(hn:n≤62)(c:Int)(K0:Int→Int→Option R):∀ (N y o:Nat),y<2 ^ n→bitLen y<N→o+Q1Y y n≤4611686018427387904→UK K0 N (y:Int) c (tri n) (o:Int) ((pc y 64:Nat):Int)=K0 c ((o+Q1Y y n:Nat):Int)
 | 0,_,_,_,h,_=>by omega
 | N+1,y,o,h1,h2,h3=>by
  have hp:2 ^ n≤2 ^ 62:=Nat.pow_le_pow_right (by decide) hn
  simp only[UK,Qfn]
  by_cases h0:y=0
  ·subst h0
   have:Q1Y 0 n=0:=by
    have:=(QeY (x:=0) (n:=0) (by decide) n).1
    rwa [Nat.zero_add]at this
   rw[Q1 (by omega),this]; rfl
  ·obtain ⟨b1,b2⟩:=bitLen_spec y
   have hb:=QkC h0
   have b2:=b2 h0
   obtain ⟨t,ht⟩:∃ t,bitLen y=t+1:=⟨bitLen y-1,by omega⟩
   rw[ht]at b1 b2 h2
   rw[Nat.add_sub_cancel]at b2
   have htn:t<n:=by
    apply Nat.lt_of_not_le
    intro hle
    have:=Nat.pow_le_pow_right (n:=2) (by decide) hle
    omega
   have hr:y-2 ^ t<2 ^ t:=by rw[Nat.pow_succ]at b1; omega
   have em:y%2 ^ t=y-2 ^ t:=by rw[Nat.mod_eq_sub_mod b2,Nat.mod_eq_of_lt hr]
   have hbit:y.testBit t=true:=by have:=QCS h0; rwa [ht,Nat.add_sub_cancel]at this
   obtain ⟨d,hd⟩:∃ d,n=t+1+d:=⟨n-(t+1),by omega⟩
   obtain ⟨d',hd'⟩:∃ d',64=t+1+d':=⟨64-(t+1),by omega⟩
   have o1:=(QeY (x:=y) (n:=t+1) b1 d).1
   have o2:=(QeY (x:=y) (n:=t+1) b1 d').2
   have o3:=(QeY (x:=y-2 ^ t) (n:=t) hr (1+d)).1
   have o4:=(QeY (x:=y-2 ^ t) (n:=t) hr (1+d')).2
   have o5:=QAN y t t (Nat.le_refl _)
   rw[em]at o5
   rw[←hd]at o1; rw[←hd']at o2
   rw[←Nat.add_assoc,←hd]at o3; rw[←Nat.add_assoc,←hd']at o4
   have es:Q1Y y (t+1)=Q1Y y t+ch t (pc y (t+1)):=by simp only[Q1Y]; rw[if_pos hbit]
   have ep:pc y (t+1)=pc y t+1:=by rw[Qdj,if_pos hbit]
   have hpl:=Q15 y t
   have eO:Q1Y y n=Q1Y (y-2 ^ t) n+ch t (pc y 64):=by rw[o1,es,o3,o5.2,o2]
   have eP:pc y 64=pc (y-2 ^ t) 64+1:=by rw[o2,ep,o4,o5.1]
   have ea:y-(y &&& 2 ^ t)=y-2 ^ t:=by rw[QKD b2 b1]
   have hbl:bitLen (y-2 ^ t)<N:=by have:=Q8G hr; omega
   have hcl:=QqL (n:=t) (k:=pc y 64) (by omega)
   have ih:=QfP n hn c K0 N (y-2 ^ t) (o+ch t (pc y 64)) (by omega) hbl (by omega)
   have et:QB .i64 ((bitLen y:Nat):Int) 1=(t:Int):=by rw[ht,Qp (by omega) (by omega)]; omega
   have el:QB .i64 ((pc y 64:Nat):Int) 1=((pc (y-2 ^ t) 64:Nat):Int):=by rw[eP,Qp (by omega) (by omega)]; omega
   rw[Q0 (by omega),Q7p y (by omega)]
   rw[et]
   rw[show o+Q1Y y n=o+ch t (pc y 64)+Q1Y (y-2 ^ t) n by omega,←ih]
   by_cases hle:pc y 64≤t
   ·rw[Q0 (by omega),Q0 (by omega),QkG,Q0 (by omega),Qm,Int.toNat_natCast,QE2 (by omega),Q2U,Q0 (by omega),Q0 (by omega),Int.toNat_natCast,QfM _ (by omega),Qqx (by omega) (by omega),QaE y t (by omega) (by omega),el,ea,Int.natCast_add]
   ·rw[Q1 (by omega),QaE y t (by omega) (by omega),el,ea,Qdi t _ (by omega)]; rfl
theorem QqN(x:Nat)(hx:x<2 ^ 64)(n:Nat)(hn:n≤62)(K:Int→Int→Option R):Qd5 (x:Int) (n:Int) K=K ((pc x n:Nat):Int) ((Q1Y x n:Nat):Int):=by
 rw[Qhq]; unfold Qei
 rw[Q1 (by omega),Q1 (by omega),QcI]; unfold Q9g
 have hp:2 ^ n≤2 ^ 62:=Nat.pow_le_pow_right (by decide) hn
 have hl:=Nat.mod_lt x (Nat.two_pow_pos n)
 have em:x &&& QcX (n:Int)=x%2 ^ n:=by rw[Qb7]; congr 2; omega
 obtain ⟨m1,m2⟩:=QAN x n n (Nat.le_refl _)
 obtain ⟨d,hd⟩:∃ d,64=n+d:=⟨64-n,by omega⟩
 have m3:=(QeY hl d).2
 rw[←hd]at m3
 have hlt:=QqM (x%2 ^ n) n
 have hcl:=QqL (n:=n) (k:=pc (x%2 ^ n) n) hn
 rw[YI _ (by omega) (by omega),Q0E _ _ hx (Q7n _),em,Uq _ (by omega),Qlq n hn,QcH]; unfold Q4l
 have hb:=Q8G hl
 refine (QfP n hn _ _ NR (x%2 ^ n) 0 hl (by have:=QT; omega) (by omega)).trans ?_
 rw[m3,m1,m2,Nat.zero_add]
theorem QIS{x m:Nat}(h:x%2 ^ (m+1)=0):x ||| 2 ^ m=x+2 ^ m:=by
 refine (Qpy x (2 ^ m) ?_).symm
 apply Nat.eq_of_testBit_eq
 intro i
 rw[Nat.testBit_and,Nat.zero_testBit,Nat.testBit_two_pow]
 by_cases e:m=i
 ·subst e
  have:(x%2 ^ (m+1)).testBit m=x.testBit m:=by rw[Nat.testBit_mod_two_pow,decide_eq_true (by omega),Bool.true_and]
  rw[←this,h,Nat.zero_testBit,Bool.false_and]
 ·rw[decide_eq_false e,Bool.and_false]
theorem QAQ{x m:Nat}(h:x%2 ^ (m+1)=0):x%2 ^ m=0:=by
 have:x%2 ^ m=x%2 ^ (m+1)%2 ^ m:=by rw[Nat.mod_mod_of_dvd _ (Nat.pow_dvd_pow 2 (by omega))]
 rw[this,h,Nat.zero_mod]
theorem Qbe(n:Nat)(hn:n≤62)(K0:Int→Option R):∀ (N m k off x:Nat),m≤n→m<N→k≤62→off<2 ^ 64→x%2 ^ m=0→x+2 ^ m≤2 ^ n→QO K0 N (k:Int) (off:Int) (tri n) (x:Int) ((m:Int)-1)=K0 ((x+Qdk m k off:Nat):Int)
 | 0,_,_,_,_,_,h,_,_,_,_=>by omega
 | N+1,m,k,off,x,h1,h2,hk,ho,hx,hx2=>by
  have hp:2 ^ n≤2 ^ 62:=Nat.pow_le_pow_right (by decide) hn
  simp only[QO,QhH]
  cases m with
  | zero=>rw[Q1 (by omega)]; rfl
  | succ m=>
   have e0:((m+1:Nat):Int)-1=(m:Int):=by omega
   have e1:QB .i64 (m:Int) 1=(m:Int)-1:=Qp (by omega) (by omega)
   rw[e0,Q0 (by omega)]
   simp only[Qdk]
   by_cases h0:k=0
   ·subst h0; rw[Q0 (by omega),if_pos rfl]; rfl
   ·have hpm:2 ^ (m+1)=2 ^ m*2:=Nat.pow_succ 2 m
    have hcl:=QqL (n:=m) (k:=k) (by omega)
    have hxm:=QAQ hx
    have j13:∀ (K:Int→Int→List (List Int)→Int→Int→Option R),Q3b (k:Int) (off:Int) (tri n) (x:Int) (m:Int) ((ch m k:Nat):Int) K=if ch m k≤off then K ((k-1:Nat):Int) ((off-ch m k:Nat):Int) (tri n) ((x+2 ^ m:Nat):Int) (m:Int) else K (k:Int) (off:Int) (tri n) (x:Int) (m:Int):=fun K=>by
     rw[Q6E]; unfold Q9H
     by_cases h:ch m k≤off
     ·rw[Q0 (by omega),if_pos h,Q0 (by omega),Qp (by omega) (by omega),QeR (by omega) (by omega),show (1:Int)=((1:Nat):Int) from rfl,Q3i _ _ (by omega),Nat.one_mul,Nat.mod_eq_of_lt (by omega),QbB _ _ (by omega) (by omega),QIS hx]
      congr 1<;>omega
     ·rw[Q1 (by omega),if_neg h]
    have ih1:=fun h:ch m k≤off=>Qbe n hn K0 N m (k-1) (off-ch m k) (x+2 ^ m) (by omega) (by omega) (by omega) (by omega) (by rw[Nat.add_mod_right]; exact hxm) (by omega)
    have ih2:=Qbe n hn K0 N m k off x (by omega) (by omega) hk ho hxm (by omega)
    have fin:∀ (F:Int→Int→List (List Int)→Int→Int→Option R),(∀ a b t c,F a b t c (m:Int)=QO K0 N a b t c ((m:Int)-1))→(if ch m k≤off then F ((k-1:Nat):Int) ((off-ch m k:Nat):Int) (tri n) ((x+2 ^ m:Nat):Int) (m:Int) else F (k:Int) (off:Int) (tri n) (x:Int) (m:Int))=K0 ((x+(if k=0 then 0 else if ch m k≤off then 2 ^ m+Qdk m (k-1) (off-ch m k) else Qdk m k off):Nat):Int):=fun F hF=>by
     rw[if_neg h0]
     by_cases h:ch m k≤off
     ·rw[if_pos h,if_pos h,hF,ih1 h,Nat.add_assoc]
     ·rw[if_neg h,if_neg h,hF,ih2]
    rw[Q1 (by omega)]
    by_cases hle:k≤m
    ·rw[Q0 (by omega),Q0 (by omega),QkG,Q0 (by omega),Qm,Int.toNat_natCast,QE2 (by omega),Q2U,Q0 (by omega),Q0 (by omega),Int.toNat_natCast,QfM _ (by omega),j13]
     exact fin (fun a b t c d=>QO K0 N a b t c (QB .i64 d 1)) fun a b t c=>by rw[e1]
    ·rw[Q1 (by omega)]
     have ez:(0:Int)=((ch m k:Nat):Int):=by rw[Qdi m k (by omega)]; rfl
     have j:=j13 fun a b t c d=>QO K0 N a b t c (QB .i64 d 1)
     rw[←ez]at j
     rw[j]
     exact fin (fun a b t c d=>QO K0 N a b t c (QB .i64 d 1)) fun a b t c=>by rw[e1]
theorem Qbf(n k:Int)(off:Nat)(ho:off<2 ^ 64)(K:Int→Bool→Option R):Qc0 n k (off:Int) K=if chI n k≤off then K 0 false else K ((Qdk n.toNat k.toNat off:Nat):Int) true:=by
 rw[Ql1]; unfold Qgs
 rw[QfO]
 by_cases h:chI n k≤off
 ·rw[Q0 (by omega),if_pos h]
 ·rw[Q1 (by omega),if_neg h]
  have hc:0≤n∧n≤62∧0≤k∧k≤n:=by
   apply Decidable.byContradiction
   intro hc
   have:chI n k=0:=if_neg hc
   omega
  obtain ⟨a,rfl⟩:∃ a:Nat,n=(a:Int):=⟨n.toNat,by omega⟩
  obtain ⟨b,rfl⟩:∃ b:Nat,k=(b:Int):=⟨k.toNat,by omega⟩
  rw[Qlq a (by omega),Q7X,Qp (by omega) (by omega)]; unfold Q1v
  refine (Qbe a (by omega) _ NR a b off 0 (Nat.le_refl _) (by have:=QT; omega) (by omega) ho (Nat.zero_mod _) (by omega)).trans ?_
  rw[Nat.zero_add,Int.toNat_natCast,Int.toNat_natCast]
def QAR(n k:Int):Nat:=if chI n k=0 then 0 else bitLen (chI n k-1)
theorem Qbg(n k:Int)(K:Int→Option R):Q8d n k K=K ((QAR n k:Nat):Int):=by
 rw[QkU]; unfold Qgm QAR
 rw[QfO]
 have hl:=QIQ n k
 by_cases h:chI n k=0
 ·rw[h,Q0 (by omega),if_pos rfl]; rfl
 ·rw[Q1 (by omega),if_neg h,QeR (by omega) (by omega),show ((chI n k:Nat):Int)-1=((chI n k-1:Nat):Int) by omega,Q7p _ (by omega)]
end
end Go.Proofs.YtofblchonjfdbaaGreatDoor
namespace Go.Proofs.YtofblchonjfdbaaGreatDoor
open Go Go.Ev
section
variable {R : Type}
theorem QqI(k:Nat):QAR 15 (k:Int)=Ua k:=by
 unfold QAR Ua
 rw[show (15:Int)=((15:Nat):Int) from rfl,Qi5 15 k (by decide)]
 by_cases h:ch 15 k=0
 ·rw[if_pos h,h]; rfl
 ·rw[if_neg h]
theorem QuF(l:List Bool)(hl:l.length≤1048576){i:Nat}(hi:i<NB l)(K:Int→Int→Option R):
  Q2l (l.length:Int) (ci (wds l)) ((15*i:Nat):Int) (min2 15 (QB .i64 (l.length:Int) ((15*i:Nat):Int))) K=K ((bw l i:Nat):Int) 0:=by
 have h:=Qcc.1 hi
 have e:min2 15 (QB .i64 (l.length:Int) ((15*i:Nat):Int))=((min 15 (l.length-15*i):Nat):Int):=by
  rw[Qp (by omega) (by omega)]; unfold min2; split<;>omega
 rw[e,Q3h _ _ (Ws.wds hl) _ _ (by omega) (by omega),QeV l hl _ _ (by omega) (by omega),if_neg (by omega),Int.toNat_natCast,Int.toNat_natCast,QuH]
theorem Qro(l:List Bool)(i:Nat)(K:Int→Int→Option R):Qfo ((bw l i:Nat):Int) K=K ((cls l i:Nat):Int) ((ofs l i:Nat):Int):=by
 rw[QkT]; unfold Qgl
 rw[Qk4]; unfold Qk3
 have:=QqJ l i
 exact QqN _ (by omega) 15 (by decide) _
theorem Qs8(l:List Bool)(x k:Nat)(hk:k≤64)(h:l.length+k≤1048576):Q5X (l.length:Int) (wds l) x (k:Int)=(((l++Q2T x k).length:Int),wds (l++Q2T x k),0):=by
 unfold Q5X
 rw[if_pos ⟨Yl l (by omega),by omega,by omega⟩,UA,Int.toNat_natCast,List.length_append,QA]
 congr 1
theorem JY{l:List Bool}(hl:l.length≤1048576){i:Nat}(hi:i≤NB l):(QU l i).length≤1000000:=by
 have:=QE0 l i
 have:=Q8M hl
 omega
theorem Qs9(l:List Bool)(hl:l.length≤1048576){i:Nat}(hi:i<NB l)(a b c d e f g h j:Int)(p q:Nat)(xs ys:List Int)(K0:Nat→Int→Int→Int→Int→Int→Int→Int→Int→Int→Int→List Int→Nat→Nat→List Int→List Int→List Int→Option R)(K1:Nat→Int→Int→Int→List Int→Int→Int→Int→Int→Int→Int→Int→Int→Int→Int→List Int→Nat→Nat→List Int→List Int→List Int→Option R):
  Q70 i ((Qg l true (15*i):Nat):Int) ((15*i:Nat):Int) (l.length:Int) (ci (wds l)) a b c d e f g h j ((QU l i).length:Int) (ci (wds (QU l i))) p q xs ys (ci (UE l i)) K0 K1 =
   K1 (i+1) ((Qg l true (15*(i+1)):Nat):Int) ((15*i:Nat):Int) (l.length:Int) (ci (wds l)) a b c d e f g h j ((QU l (i+1)).length:Int) (ci (wds (QU l (i+1)))) p q xs ys (ci (UE l (i+1))):=by
 have h1:=Qcc.1 hi
 have hn:=Q8M hl
 have hc:=QuI l i
 have hcl:=Q0H l true (15*i)
 have ho:=QsS l i
 have hw:=Qi4 (cls l i)
 have hp:2 ^ Ua (cls l i)≤2 ^ 13:=Nat.pow_le_pow_right (by decide) hw
 have hs:=JY hl (i:=i) (by omega)
 have hb:=QqJ l i
 have e1:QV .u64 ((cls l i:Nat):Int)=((cls l i:Nat):Int):=ZL (by omega) (by omega)
 have e2:ci (UE l i)++[((cls l i:Nat):Int)]=ci (UE l (i+1)):=by rw[QwX,←Qdv]; rfl
 have e3:Qe .i64 ((Qg l true (15*i):Nat):Int) ((cls l i:Nat):Int)=((Qg l true (15*(i+1)):Nat):Int):=by rw[Q6 (by omega) (by omega),QAK]; omega
 rw[Q9n]; unfold Q38
 rw[Q1 (by omega),QuF l hl hi,Qro,Qb,Z1,Q0 rfl,Q0 (by omega),Qm,e1,e2,Qk4]; unfold Qk3
 dsimp only
 by_cases hz:cls l i=0
 ·have hz2:=QIJ hz
  have e4:QU l (i+1)=QU l i:=by simp[QU,hz,QCZ,Q2T]
  rw[hz,hz2]
  rw[show (!(decide (((0:Nat):Int)=0)&&decide (((0:Nat):Int)=0)))=false from rfl,Ev.Q5,Q9m]; unfold Q7D
  rw[←hz,e3,e4]
 ·rw[show (!(decide (((cls l i:Nat):Int)=0)&&decide (((ofs l i:Nat):Int)=0)))=true by rw[decide_eq_false (by omega)]; rfl,Ev.Q8,Qbg,QqI,
   Qb6 _ _ (Ws.wds (by omega)) _ (by omega),Qs8 _ _ _ (by omega) (by omega),Q9m]; unfold Q7D
  rw[e3]; rfl
theorem QuG(l:List Bool)(hl:l.length≤1048576)(a b c d e f g h j:Int)(K0:Nat→Int→Int→Int→Int→Int→Int→Int→Int→Int→Int→List Int→Nat→Nat→List Int→List Int→List Int→Option R):∀ (F i:Nat),i≤NB l→NB l-i<F→0<NB l →
  Uv K0 F i ((Qg l true (15*i):Nat):Int) ((15*i:Nat):Int) (l.length:Int) (ci (wds l)) a b c d e f g h j ((QU l i).length:Int) (ci (wds (QU l i))) (grp i) (grp i) (Q1X l (grp i)) (Qbd l (grp i)) (ci (UE l i)) =
   K0 (NB l) a b c d e f g h j ((QU l (NB l)).length:Int) (ci (wds (QU l (NB l)))) (grp (NB l)) (grp (NB l)) (Q1X l (grp (NB l))) (Qbd l (grp (NB l))) (ci (UE l (NB l)))
 | 0,_,_,h,_=>by omega
 | F+1,i,h1,h2,h0=>by
  have hn:=Q8M hl
  simp only[Uv,Qem]
  by_cases hi:i<NB l
  ·have h3:=Qcc.1 hi
   have ih:=QuG l hl a b c d e f g h j K0 F (i+1) (by omega) (by omega) h0
   have er:YP ((15*i:Nat):Int) 120=(((15*i)%120:Nat):Int):=Qai (15*i) 120
   have e5:Qe .i64 ((15*i:Nat):Int) 15=((15*(i+1):Nat):Int):=by rw[Q6 (by omega) (by omega)]; omega
   have hg:=QAM i
   have hgl:grp i≤i:=by unfold grp; omega
   rw[Q0 (by omega),Q9o]; unfold Q39
   rw[er]
   by_cases h8:i%8=0
   ·have h9:=QIM h8
    rw[if_pos h8]at hg
    have e6:Q1X l (grp i)++[((Qg l true (15*i):Nat):Int)]=Q1X l (grp (i+1)):=by rw[hg,QuK,show 120*grp i=15*i by omega]
    have e7:Qbd l (grp i)++[((QU l i).length:Int)]=Qbd l (grp (i+1)):=by rw[hg,QwY,h9]
    rw[Q0 (by omega),Js,Q0 rfl,Q0 (by omega),Qm,Q8L,Q0 rfl,Q0 (by omega),Qm,e6,e7,←hg,Qs9 l hl hi,e5]
    exact ih
   ·rw[if_neg h8]at hg
    replace hg:grp (i+1)=grp i:=hg
    rw[Q1 (by omega),←hg,Qs9 l hl hi,e5]
    exact ih
  ·have h3:i=NB l:=by omega
   subst h3
   have h4:¬15*NB l<l.length:=fun h=>hi (Qcc.2 h)
   rw[Q1 (by omega),Q1 (by omega)]
theorem QAJ(l:List Bool)(hl:l.length≤1048576)(a b c d e f g h j:Int)(K0:Nat→Int→Int→Int→Int→Int→Int→Int→Int→Int→Int→List Int→Nat→Nat→List Int→List Int→List Int→Option R)(h0:0<NB l):
  Uv K0 NR 0 0 0 (l.length:Int) (ci (wds l)) a b c d e f g h j 0 [] 0 0 [] [] [] =
   K0 (NB l) a b c d e f g h j ((QU l (NB l)).length:Int) (ci (wds (QU l (NB l)))) (grp (NB l)) (grp (NB l)) (Q1X l (grp (NB l))) (Qbd l (grp (NB l))) (ci (UE l (NB l))):=by
 have hn:=Q8M hl
 have:=QuG l hl a b c d e f g h j K0 NR 0 (by omega) (by have:=QT; omega) h0
 have e1:ci (wds (QU l 0))=[]:=by simp[QU,wds,ci]
 have e2:Q1X l (grp 0)=[]:=by simp[grp,Q1X]
 have e3:Qbd l (grp 0)=[]:=by simp[grp,Qbd]
 have e4:ci (UE l 0)=[]:=by simp[UE,ci]
 rw[e1,e2,e3,e4]at this
 exact this
structure IsR (l:List Bool) (a b c d:Int) (e:List Int) (f:Int) (g h j:List Int):Prop where
 a:a=(l.length:Int)
 b:b=((NB l:Nat):Int)
 c:c=4
 d:d=((NB l*4:Nat):Int)
 e:e=ci (wds (Zg 4 (UE l (NB l))))
 f:f=((QU l (NB l)).length:Int)
 g:g=ci (wds (QU l (NB l)))
 h:h=Q1X l (NG l)
 j:j=Qbd l (NG l)
theorem QNG{l:List Bool}(h:0<NB l):NG l=grp (NB l):=by unfold NG grp; omega
theorem QDZ(l:List Bool)(n:Nat):QkD (UE l n)≤4:=(QDO (by decide)).2 fun u hu=>by have:=QsT l n u hu; omega
theorem Qvi(n:Int)(ws:List Nat)(hw:Ws ws)(h:QM n ws=false)(K:Int→Int→Int→Int→List Int→Int→List Int→List Int→List Int→Int→Option R):Qdo n (ci ws) K=K 0 0 0 0 [] 0 [] [] [] 2:=by
 rw[Qgp]; unfold Qft
 rw[QP n ws hw,h]; rfl
theorem QeX(l:List Bool)(hl:l.length≤1048576)(K:Int→Int→Int→Int→List Int→Int→List Int→List Int→List Int→Int→Option R):
  Qdo (l.length:Int) (ci (wds l)) K=K (l.length:Int) ((NB l:Nat):Int) 4 ((NB l*4:Nat):Int) (ci (wds (Zg 4 (UE l (NB l))))) ((QU l (NB l)).length:Int) (ci (wds (QU l (NB l)))) (Q1X l (NG l)) (Qbd l (NG l)) 0:=by
 have hn:=Q8M hl
 have hmk:Qc9 4 (UE l (NB l))=(((NB l:Nat):Int),4,((NB l*4:Nat):Int),wds (Zg 4 (UE l (NB l))),0):=by
  have:=Qdq (w:=4) (us:=UE l (NB l)) (by decide) (by decide) (by rw[Z1]; omega) (QDZ l _)
  rw[Z1]at this; exact this
 have hu:∀ u∈UE l (NB l),u<2 ^ 64:=fun u h=>by have:=QsT l _ u h; omega
 rw[Qgp]; unfold Qft
 rw[QP _ _ (Ws.wds hl),Yl l hl,Bool.not_true,Ev.Q5,Qhx]; unfold Qeo
 rw[Qht]; unfold Q9p
 by_cases h0:NB l=0
 ·have hz:l=[]:=by unfold NB at h0; exact List.eq_nil_of_length_eq_zero (by omega)
  subst hz
  obtain ⟨m,hm⟩:∃ m,NR=m+1:=⟨NR-1,by have:=QT; omega⟩
  have hr:YP 0 120=0:=Qai 0 120
  have h00:(([]:List Bool).length:Int)=0:=rfl
  rw[hm]
  simp only[Uv,Qem]
  rw[h00,Q1 (by omega),Q0 trivial,Q9o]; unfold Q39
  rw[hr,Q0 (by rfl),Q0 (by rfl),Q0 (by decide),Qm,Q0 (by rfl),Q0 (by decide),Qm,Q9n]; unfold Q38
  rw[Q0 (by rfl)]
  dsimp only
  rw[Q0 (by rfl),Q0 (by rfl),show ([]:List Int)=ci (UE [] (NB [])) from rfl,QeO _ _ hu (by rw[Z1]; omega),hmk]
  dsimp only
  rw[Q0 (by rfl),Q0 (by rfl)]
  rfl
 ·have hp:0<NB l:=by omega
  refine (QAJ l hl _ _ _ _ _ _ _ _ _ _ hp).trans ?_
  rw[Qb,Z1,Q0 rfl,Q0 rfl,QeO _ _ hu (by rw[Z1]; omega),hmk]
  dsimp only
  rw[Js,Q8L,Q0 rfl,Q0 rfl,QNG hp]
end
end Go.Proofs.YtofblchonjfdbaaGreatDoor
namespace Go.Proofs.YtofblchonjfdbaaGreatDoor
open Go Go.Ev
section
variable {R : Type}
theorem QfQ(a b:List Int)(h:a.length=b.length)(ha:a.length<4000000000)(K0:Bool→Option R)(K1:Unit→Option R):∀ (N j:Nat),j≤a.length→a.length-j<N →
  Zi K0 K1 N a b (a.length:Int) (j:Int)=if a.drop j=b.drop j then K1 () else K0 false
 | 0,_,_,h=>by omega
 | N+1,j,hj,hN=>by
  simp only[Zi,Q68]
  by_cases h1:j<a.length
  ·rw[Q0 (by omega),Q0 (by omega),Q0 (by omega),Q0 (by omega),Q0 (by omega),Int.toNat_natCast,Q6 (by omega) (by omega),show (j:Int)+1=((j+1:Nat):Int) by omega]
   by_cases h2:a.getD j 0=b.getD j 0
   ·rw[Qt h2,QfQ a b h ha K0 K1 N (j+1) (by omega) (by omega)]
    simp only[Q26 a b h j h1,h2,true_and]
   ·rw[Zr h2]
    simp only[Q26 a b h j h1,h2,false_and,if_false]
  ·rw[Q1 (by omega),List.drop_of_length_le (by omega),List.drop_of_length_le (by omega),if_pos rfl]
theorem U3(a b:List Int)(ha:a.length<4000000000)(K:Bool→Option R):Y0 a b K=K (decide (a=b)):=by
 rw[Q71]; unfold Q2q
 by_cases h2:a.length=b.length
 ·rw[Qt (by omega),Q4p]
  unfold YV
  refine (QfQ a b h2 ha _ _ NR 0 (by omega) (by have:=QT; omega)).trans ?_
  simp only[List.drop_zero]
  split<;>simp_all
 ·rw[Zr (by omega)]
  congr 1
  have:¬a=b:=by rintro rfl; exact h2 rfl
  simp[this]
theorem Qi6(a b:List Int)(h:a.length=b.length)(ha:a.length<4000000000)(K0:Bool→Option R)(K1:Unit→Option R):∀ (N j:Nat),j≤a.length→a.length-j<N →
  Zb K0 K1 N a b (j:Int)=if a.drop j=b.drop j then K1 () else K0 false
 | 0,_,_,h=>by omega
 | N+1,j,hj,hN=>by
  simp only[Zb,Q5t]
  by_cases h1:j<a.length
  ·rw[Q0 (by omega),Q0 (by omega),Q0 (by omega),Q0 (by omega),Q0 (by omega),Int.toNat_natCast,Q6 (by omega) (by omega),show (j:Int)+1=((j+1:Nat):Int) by omega]
   by_cases h2:a.getD j 0=b.getD j 0
   ·rw[Qt h2,Qi6 a b h ha K0 K1 N (j+1) (by omega) (by omega)]
    simp only[Q26 a b h j h1,h2,true_and]
   ·rw[Zr h2]
    simp only[Q26 a b h j h1,h2,false_and,if_false]
  ·rw[Q1 (by omega),List.drop_of_length_le (by omega),List.drop_of_length_le (by omega),if_pos rfl]
theorem YJ(a b:List Int)(ha:a.length<4000000000)(K:Bool→Option R):ZG a b K=K (decide (a=b)):=by
 rw[Q6o]; unfold Q1O
 by_cases h2:a.length=b.length
 ·rw[Qt (by omega),Q3f]
  unfold YH
  refine (Qi6 a b h2 ha _ _ NR 0 (by omega) (by have:=QT; omega)).trans ?_
  simp only[List.drop_zero]
  split<;>simp_all
 ·rw[Zr (by omega)]
  congr 1
  have:¬a=b:=by rintro rfl; exact h2 rfl
  simp[this]
end
end Go.Proofs.YtofblchonjfdbaaGreatDoor
namespace Go.Proofs.YtofblchonjfdbaaGreatDoor
open Go Go.Ev
section
variable {R : Type}
theorem Qrn{c:Nat}(h:c≤15):QV .i64 (c:Int)=(c:Int):=QhW (by omega) (by omega)
theorem QIH{N n:Nat}(h:n≤N)(hN:N≤1048576):min2 15 (QB .i64 (N:Int) (n:Int))=((min 15 (N-n):Nat):Int):=by
 rw[Qp (by omega) (by omega)]; unfold min2; split<;>omega
theorem QAI(N:Nat)(hN:N≤1048576)(ob:List Bool)(ho:ob.length≤1048576)(cs:List Nat)(hc:∀ u∈cs,u<2 ^ 64)(hcl:cs.length<1000000000)(a b c:Int)(e hs' js:List Int)(z:Int)(K0:Bool→Int→Option R)(K1:Int→Int→List Int→Option R):∀ (F j at_:Nat) (o:List Bool),j≤cs.length→cs.length-j<F→at_≤ob.length→o.length≤N →
  Q5U K0 K1 F (at_:Int) (ci cs) (cs.length:Int) (j:Int) (N:Int) a b c e (ob.length:Int) (ci (wds ob)) hs' js z (o.length:Int) (ci (wds o)) =
   match QqK true N ob (cs.drop j) at_ o with|none=>K0 false 0|some r=>K1 z (r.length:Int) (ci (wds r))
 | 0,_,_,_,_,h,_,_=>by omega
 | F+1,j,at_,o,h1,h2,h3,h4=>by
  simp only[Q5U,Qq9]
  by_cases h:j<cs.length
  ·have hd:cs.drop j=cs.getD j 0::cs.drop (j+1):=by
    rw[List.getD_eq_getElem?_getD,List.getElem?_eq_getElem h]; exact List.drop_eq_getElem_cons h
   rw[hd,Qb,Q0 (by omega),Q0 (by omega),Q0 (by omega),Int.toNat_natCast,Zp]
   simp only[QqK]
   generalize cs.getD j 0=x
   by_cases h5:15<x
   ·rw[Q0 (by omega),if_pos h5]
   have hw:=Qi4 x
   have hp:2 ^ Ua x≤2 ^ 13:=Nat.pow_le_pow_right (by decide) hw
   have e15:chI 15 (x:Int)=ch 15 x:=Qi5 15 x (by decide)
   rw[Q1 (by omega),if_neg h5,Qrn (by omega),Qbg,QqI,Q3h _ _ (Ws.wds ho) _ _ (by omega) (by omega),QeV ob ho _ _ (by omega) (by omega)]
   by_cases h6:ob.length<at_+Ua x
   ·rw[if_pos (by omega),if_pos h6,show ((0:Int),(3:Int)).1=((0:Nat):Int) from rfl,Qbf _ _ _ (by decide)]
    split<;>(rw[Zr (show ¬((0:Int),(3:Int)).2=0 by decide),Q7F]; rfl)
   rw[if_neg (by omega),if_neg h6,Int.toNat_natCast,Int.toNat_natCast]
   dsimp only
   have hs:=Q8H (wds ob) at_ (Ua x)
   rw[Qbf _ _ _ (by omega),e15]
   generalize Zq (wds ob) at_ (Ua x)=y at *
   by_cases h7:ch 15 x≤y
   ·rw[if_pos h7,if_pos h7,Qt rfl,Bool.not_false,Ev.Q8,Q7F]; rfl
   rw[if_neg h7,if_neg h7,Qt rfl,Bool.not_true,Ev.Q5,show (15:Int).toNat=15 from rfl,Int.toNat_natCast]
   have hb:=QsU 15 x y
   generalize Qdk 15 x y=w at *
   rw[Q7p _ (by omega),QIH h4 hN,Q7F]; unfold Qgt
   by_cases h8:min 15 (N-o.length)<bitLen w
   ·rw[Q0 (by omega),if_pos ⟨trivial,h8⟩]
   ·rw[Q1 (by omega),if_neg (fun h=>h8 h.2),Ql2]; unfold Qgu
    dsimp only
    rw[Qb6 _ _ (Ws.wds (by omega)) _ (by omega),Qs8 _ _ _ (by omega) (by omega),Q6 (by omega) (by omega),Q6 (by omega) (by omega),show (j:Int)+1=((j+1:Nat):Int) by omega,show (at_:Int)+((Ua x:Nat):Int)=((at_+Ua x:Nat):Int) by omega]
    exact QAI N hN ob ho cs hc hcl a b c e hs' js z K0 K1 F (j+1) (at_+Ua x) _ (by omega) (by omega) (by omega) (by rw[List.length_append,QA]; omega)
  ·rw[Q1 (by omega),List.drop_of_length_le (by omega)]
   rfl
def QuE(tight:Bool)(N a w n:Int)(ws:List Nat)(f:Int)(vs:List Nat):Option (List Bool):=
 if 0≤N∧N≤1048576∧okI a w n ws=true∧QM f vs=true∧(tight=true→a=(N+14)/15) then QqK tight N.toNat (Qrj f vs) (Yn a w n ws) 0 [] else none
theorem QnL{tight:Bool}{N a w n:Int}{ws:List Nat}{f:Int}{vs:List Nat}{r:List Bool}(h:QuE tight N a w n ws f vs=some r):r.length≤1048576:=by
 unfold QuE at h
 split at h
 ·have:=Qsa h (by simp); omega
 ·cases h
theorem QqH(N a w n:Int)(ws:List Nat)(hw:Ws ws)(f:Int)(vs:List Nat)(hv:Ws vs)(hs js:List Int)(K:Int→List Int→Bool→Option R):
  QsM N a w n (ci ws) f (ci vs) hs js K=match QuE true N a w n ws f vs with|none=>K 0 [] false|some r=>K (r.length:Int) (ci (wds r)) true:=by
 have bad:∀ (v1 v2 v3 v4:Int) (v5:List Int) (v6:Int) (v7 v8 v9:List Int) (va:Int) (K0:Bool→Int→Option R) (K1:Int→Int→Int→Int→List Int→Int→List Int→List Int→List Int→Int→Option R),Q2r true v1 v2 v3 v4 v5 v6 v7 v8 v9 va K0 K1=K0 false 0:=fun _ _ _ _ _ _ _ _ _ _ _ _=>by
  rw[Qez]; rfl
 have good:∀ (v1 v2 v3 v4:Int) (v5:List Int) (v6:Int) (v7 v8 v9:List Int) (va:Int) (K0:Bool→Int→Option R) (K1:Int→Int→Int→Int→List Int→Int→List Int→List Int→List Int→Int→Option R),Q2r false v1 v2 v3 v4 v5 v6 v7 v8 v9 va K0 K1=K1 v1 v2 v3 v4 v5 v6 v7 v8 v9 va:=fun _ _ _ _ _ _ _ _ _ _ _ _=>by
  rw[Qez]; rfl
 rw[Qs0]; unfold Qoc QuE
 by_cases h1:N<0
 ·rw[Q0 h1,bad,if_neg (by omega)]
 by_cases h2:1048576<N
 ·rw[Q1 h1,Q0 h2,bad,if_neg (by omega)]
 rw[Q1 h1,Q1 h2,Q3g _ _ _ _ hw]
 cases h3:okI a w n ws with
 | false=>rw[Bool.not_false,Ev.Q8,bad,if_neg (fun h=>by cases h.2.2.1)]
 | true=>
  rw[Bool.not_true,Ev.Q5,QP _ _ hv]
  cases h4:QM f vs with
  | false=>rw[Bool.not_false,Ev.Q8,bad,if_neg (fun h=>by cases h.2.2.2.1)]
  | true=>
   have e:Qu .i64 (QB .i64 (Qe .i64 N 15) 1) 15=(N+14)/15:=by
    rw[Q6 (by omega) (by omega),Qp (by omega) (by omega),Jh (by omega) (by omega) (by omega)]; congr 1; omega
   rw[Bool.not_true,Ev.Q5,e]
   by_cases h5:a=(N+14)/15
   ·obtain ⟨ob,hf,rfl,hob⟩:=Q3t h4 hv.1
    subst hf
    obtain ⟨N,rfl⟩:∃ b:Nat,N=(b:Int):=⟨N.toNat,by omega⟩
    have hcs:∀ u∈Yn a w n ws,u<2 ^ 64:=fun u hu=>by
     unfold Yn at hu
     rw[if_pos h3]at hu
     obtain ⟨_,b,_,_,rfl,_,_,_,_,hb,_⟩:=QeU h3 hw.1
     exact Qy4 hb _ u hu
    have hcl:(Yn a w n ws).length<1000000000:=by
     unfold Yn
     rw[if_pos h3,UB]; omega
    rw[decide_eq_true h5,Bool.not_true,good,Qna,if_pos ⟨by omega,by omega,rfl,rfl,fun _=>h5⟩]; unfold Qkj
    rw[Qny _ _ _ _ hw,Qb,Qn9,UA,Int.toNat_natCast]; unfold Qd8
    refine (QAI N (by omega) ob hob _ hcs hcl _ _ _ _ _ _ _ _ _ NR 0 0 [] (by omega) (by have:=QT; omega) (by omega) (by simp)).trans ?_
    rw[List.drop_zero]
   ·rw[decide_eq_false h5,Bool.not_false,bad,if_neg (fun h=>h5 (h.2.2.2.2 rfl))]
theorem QoS(a b c d:Int)(e:List Int)(f:Int)(g h j:List Int)(a' b' c' d':Int)(e':List Int)(f':Int)(g' h' j':List Int)(h1:e.length<4000000000)(h2:g.length<4000000000)(h3:h.length<4000000000)(h4:j.length<4000000000)(K:Bool→Option R):
  Qqa a b c d e f g h j a' b' c' d' e' f' g' h' j' K=K (decide (a=a'∧b=b'∧c=c'∧d=d'∧e=e'∧f=f'∧g=g'∧h=h'∧j=j')):=by
 have j4:∀ (x y:Bool),Qc3 x y a b c d e f g h j a' b' c' d' e' f' g' h' j' K=K (x&&(y&&decide (a=a'∧h=h'∧j=j'))):=fun x y=>by
  rw[Ql3]; unfold Qgv
  cases x with
  | false=>rfl
  | true=>cases y with
   | false=>rfl
   | true=>
    rw[Ev.Q8,Ev.Q8,Bool.true_and,Bool.true_and]
    by_cases q1:a=a'
    ·rw[Q0 q1,U3 _ _ h3]
     by_cases q2:h=h'
     ·rw[Q0 q2,U3 _ _ h4]
      congr 1; simp[q1,q2]
     ·rw[Q1 q2,decide_eq_false (fun q=>q2 q.2.1)]
    ·rw[Q1 q1,decide_eq_false (fun q=>q1 q.1)]
 have j3:∀ (x:Bool),Q58 x a b c d e f g h j a' b' c' d' e' f' g' h' j' K=K (x&&decide (f=f'∧g=g'∧a=a'∧h=h'∧j=j')):=fun x=>by
  rw[Ql4]; unfold Qgw
  by_cases q1:f=f'
  ·rw[Q0 q1,Q09 _ _ h2]
   refine (j4 _ _).trans ?_
   congr 2
   simp[q1]
  ·rw[Q1 q1]
   refine (j4 _ _).trans ?_
   rw[Bool.false_and,decide_eq_false (fun q=>q1 q.1)]
 rw[Qqb]; unfold Qpp
 by_cases q1:b=b'
 ·rw[Q0 q1]
  by_cases q2:c=c'
  ·rw[Q0 q2]
   by_cases q3:d=d'
   ·rw[Q0 q3,Q09 _ _ h1]
    refine (j3 _).trans ?_
    congr 1
    rw[Bool.eq_iff_iff]
    simp only[Bool.and_eq_true,decide_eq_true_eq]
    constructor
    ·rintro ⟨q4,q5,q6,q7,q8,q9⟩; exact ⟨q7,q1,q2,q3,q4,q5,q6,q8,q9⟩
    ·rintro ⟨q4,_,_,_,q5,q6,q7,q8,q9⟩; exact ⟨q5,q6,q7,q4,q8,q9⟩
   ·rw[Q1 q3]
    refine (j3 _).trans ?_
    rw[Bool.false_and,decide_eq_false (fun q=>q3 q.2.2.2.1)]
  ·rw[Q1 q2]
   refine (j3 _).trans ?_
   rw[Bool.false_and,decide_eq_false (fun q=>q2 q.2.2.1)]
 ·rw[Q1 q1]
  refine (j3 _).trans ?_
  rw[Bool.false_and,decide_eq_false (fun q=>q1 q.2.1)]
theorem IsR.row{l:List Bool}(hl:l.length≤1048576)(tight:Bool):QuE tight (l.length:Int) ((NB l:Nat):Int) 4 ((NB l*4:Nat):Int) (wds (Zg 4 (UE l (NB l)))) ((QU l (NB l)).length:Int) (wds (QU l (NB l)))=some l:=by
 have hn:=Q8M hl
 have ho:=JY hl (i:=NB l) (Nat.le_refl _)
 have hok:okI ((NB l:Nat):Int) 4 ((NB l*4:Nat):Int) (wds (Zg 4 (UE l (NB l))))=true:=Qyj (a:=NB l) (b:=4) (by rw[ZA,Z1]) (by decide) (by decide) (by omega)
 unfold QuE
 rw[if_pos ⟨by omega,by omega,hok,Yl _ (by omega),fun _=>by unfold NB; omega⟩,UA,Int.toNat_natCast]
 unfold Yn
 rw[if_pos hok,Int.toNat_natCast,show (4:Int).toNat=4 from rfl]
 have:=QwT (w:=4) (us:=UE l (NB l)) (fun u h=>QsT l _ u h)
 rw[Z1]at this
 rw[this]
 exact QIN tight l
theorem IsR.ws{l:List Bool}(hl:l.length≤1048576):Ws (wds (Zg 4 (UE l (NB l))))∧Ws (wds (QU l (NB l))):=by
 have hn:=Q8M hl
 have ho:=JY hl (i:=NB l) (Nat.le_refl _)
 exact ⟨Ws.wds (by rw[ZA,Z1]; omega),Ws.wds (by omega)⟩
theorem IsR.short{l:List Bool}(hl:l.length≤1048576):(ci (wds (Zg 4 (UE l (NB l))))).length<4000000000∧(ci (wds (QU l (NB l)))).length<4000000000∧(Q1X l (NG l)).length<4000000000∧(Qbd l (NG l)).length<4000000000:=by
 have hn:=Q8M hl
 have ho:=JY hl (i:=NB l) (Nat.le_refl _)
 refine ⟨by rw[Qb,Qn,ZA,Z1]; omega,by rw[Qb,Qn]; omega,?_,?_⟩
 ·rw[Js]; unfold NG grp; omega
 ·rw[Q8L]; unfold NG grp; omega
theorem QoT{l:List Bool}(hl:l.length≤1048576){a b c d:Int}{e:List Int}{f:Int}{g h j:List Int}(r:IsR l a b c d e f g h j)(K:Int→List Int→Bool→Option R):QaX a b c d e f g h j K=K (l.length:Int) (ci (wds l)) true:=by
 obtain ⟨rfl,rfl,rfl,rfl,rfl,rfl,rfl,rfl,rfl⟩:=r
 obtain ⟨w1,w2⟩:=IsR.ws hl
 obtain ⟨s1,s2,s3,s4⟩:=IsR.short hl
 rw[Qgx]; unfold Qfv
 rw[QqH _ _ _ _ _ w1 _ _ w2,IsR.row hl]
 dsimp only
 rw[Bool.not_true,Ev.Q5,QeX l hl,QoS _ _ _ _ _ _ _ _ _ _ _ _ _ _ _ _ _ _ s1 s2 s3 s4,decide_eq_true ⟨rfl,rfl,rfl,rfl,rfl,rfl,rfl,rfl,rfl⟩]
 rfl
theorem Qyr{a b c d:Int}{ws:List Nat}{f:Int}{vs:List Nat}{h j:List Int}(hw:Ws ws)(hv:Ws vs)(s1:ws.length<4000000000)(s2:vs.length<4000000000)(s3:h.length<4000000000)(s4:j.length<4000000000)(no:∀ l:List Bool,l.length≤1048576→¬IsR l a b c d (ci ws) f (ci vs) h j)(K:Int→List Int→Bool→Option R):QaX a b c d (ci ws) f (ci vs) h j K=K 0 [] false:=by
 rw[Qgx]; unfold Qfv
 rw[QqH _ _ _ _ _ hw _ _ hv]
 cases hr:QuE true a b c d ws f vs with
 | none=>rfl
 | some r=>
  have hl:=QnL hr
  dsimp only
  rw[Bool.not_true,Ev.Q5,QeX r hl,QoS _ _ _ _ _ _ _ _ _ _ _ _ _ _ _ _ _ _ (by rw[Qb]; exact s1) (by rw[Qb]; exact s2) s3 s4,decide_eq_false]
  ·rfl
  ·rintro ⟨q1,q2,q3,q4,q5,q6,q7,q8,q9⟩
   exact no r hl ⟨q1,q2,q3,q4,q5,q6,q7,q8,q9⟩
end
end Go.Proofs.YtofblchonjfdbaaGreatDoor
namespace Go.Proofs.YtofblchonjfdbaaGreatDoor
open Go Go.Ev
section
variable {R : Type}
theorem QqF{l:List Bool}(hl:l.length≤1048576){a b c d:Int}{e:List Int}{f:Int}{g h j:List Int}(r:IsR l a b c d e f g h j){i:Nat}(hi:i<NB l)(K:Int→Int→Option R):
  Qqh a b c d e f g h j (i:Int) ((QU l i).length:Int) K=K ((bw l i:Nat):Int) ((Ua (cls l i):Nat):Int):=by
 obtain ⟨rfl,rfl,rfl,rfl,rfl,rfl,rfl,rfl,rfl⟩:=r
 obtain ⟨w1,w2⟩:=IsR.ws hl
 have hn:=Q8M hl
 have ho:=JY hl (i:=NB l) (Nat.le_refl _)
 have hm:=Qrp l (show i+1≤NB l from hi)
 have hlen:(QU l (i+1)).length=(QU l i).length+Ua (cls l i):=by simp[QU,QA]
 have hc:=QuI l i
 have hw:=Qi4 (cls l i)
 have hp:2 ^ Ua (cls l i)≤2 ^ 13:=Nat.pow_le_pow_right (by decide) hw
 have hof:=Qys l i
 have how:=QsS l i
 have hok:okI ((NB l:Nat):Int) 4 ((NB l*4:Nat):Int) (wds (Zg 4 (UE l (NB l))))=true:=Qyj (a:=NB l) (b:=4) (by rw[ZA,Z1]) (by decide) (by decide) (by omega)
 have hg:Qsy ((NB l:Nat):Int) 4 ((NB l*4:Nat):Int) (wds (Zg 4 (UE l (NB l)))) (i:Int)=(((cls l i:Nat):Int),0):=by
  have e:=Quu (w:=4) (us:=UE l (NB l)) (i:=i) (by rw[Z1]; exact hi) (by rw[QAL l hi]; omega)
  rw[QAL l hi]at e
  unfold Qsy
  rw[if_pos hok,if_neg (by omega),Int.toNat_natCast,show (4:Int).toNat=4 from rfl,e]
 have e15:chI 15 ((cls l i:Nat):Int)=ch 15 (cls l i):=Qi5 15 _ (by decide)
 rw[Qs1]; unfold Qrd
 rw[QoP _ _ _ _ w1,hg]
 dsimp only
 rw[Qrn hc,Qbg,QqI,Q3h _ _ w2 _ _ (by omega) (by omega),QeV _ (by omega) _ _ (by omega) (by omega),if_neg (by omega),Int.toNat_natCast,Int.toNat_natCast,QuJ l hi]
 dsimp only
 rw[Qbf _ _ _ (by omega),e15,if_neg (by omega),show (15:Int).toNat=15 from rfl,Int.toNat_natCast,QII]
theorem QAG(l:List Bool)(hl:l.length≤1048576){i:Nat}(hi:i<NB l):Qe .i64 ((QU l i).length:Int) ((Ua (cls l i):Nat):Int)=((QU l (i+1)).length:Int):=by
 have ho:=JY hl (i:=i+1) hi
 have hlen:(QU l (i+1)).length=(QU l i).length+Ua (cls l i):=by simp[QU,QA]
 rw[Q6 (by omega) (by omega)]; omega
theorem QDY(l:List Bool)(hl:l.length≤1048576){i:Nat}(hi:i<NB l):Qe .i64 ((Qg l true (15*i):Nat):Int) ((pc (bw l i) 64:Nat):Int)=((Qg l true (15*(i+1)):Nat):Int):=by
 have h1:=QE1 l true i
 have h2:=Q0H l true (15*i)
 have h3:=Q15 (bw l i) 64
 have hn:=Qcc.1 hi
 have e:bwB l true i=bw l i:=rfl
 rw[e]at h1
 rw[Q6 (by omega) (by omega)]; omega
theorem QnK{l:List Bool}(hl:l.length≤1048576){a b c d:Int}{e:List Int}{f:Int}{g h j:List Int}(r:IsR l a b c d e f g h j)(x:Nat)(hx:x≤l.length)(hx0:0<x)(K0 K1:Int→Int→Option R):∀ (F i:Nat) (out:Int),i≤(x-1)/15→(x-1)/15-i<F →
  Q3r K0 K1 F ((Qg l true (15*i):Nat):Int) ((QU l i).length:Int) (i:Int) (x:Int) out a b c d e f g h j=K0 (x:Int) ((Qg l true x:Nat):Int)
 | 0,_,_,_,hF=>by omega
 | F+1,i,out,h1,hF=>by
  have hi:i<NB l:=Qcc.2 (by omega)
  have hb:=QqJ l i
  have hc:=Q0H l true (15*i)
  have hn:=Q8M hl
  have hrk:QcY (bw l i) ((x:Int)-((15*i:Nat):Int))≤64:=Nat.le_trans (Q15 _ _) (Nat.min_le_right _ _)
  have eb:b=((NB l:Nat):Int):=r.b
  have em:UC .i64 (i:Int) 15=((15*i:Nat):Int):=by rw[Ze (by omega) (by omega)]; omega
  have em2:UC .i64 (Qe .i64 (i:Int) 1) 15=((15*(i+1):Nat):Int):=by rw[Q6 (by omega) (by omega),Ze (by omega) (by omega)]; omega
  simp only[Q3r,QoG]
  rw[Q0 (by omega),QqF hl r hi,QhL]; unfold QeD
  rw[em,em2,Qp (by omega) (by omega),QeQ _ (by omega) _ (by omega) (by omega),Q6 (a:=((Qg l true (15*i):Nat):Int)) (b:=((QcY (bw l i) ((x:Int)-((15*i:Nat):Int)):Nat):Int)) (by omega) (by omega)]
  by_cases h2:15*(i+1)<x
  ·rw[decide_eq_true (by omega)]
   dsimp only
   rw[Bool.not_true,Ev.Q5,Uq _ (by omega),QDY l hl hi,QAG l hl hi,Q6 (by omega) (by omega),show (i:Int)+1=((i+1:Nat):Int) by omega]
   exact QnK hl r x hx hx0 K0 K1 F (i+1) _ (by omega) (by omega)
  ·have e1:Qg l true x=Qg l true (15*i)+QcY (bw l i) ((x:Int)-((15*i:Nat):Int)):=by
    have:=QsR l i (x-15*i) (by omega)
    rw[show 15*i+(x-15*i)=x by omega]at this
    unfold QcY
    rw[this,show ((x:Int)-((15*i:Nat):Int)).toNat=x-15*i by omega,Nat.min_eq_left (by omega)]
   rw[decide_eq_false (by omega)]
   dsimp only
   rw[Bool.not_false,Ev.Q8,e1]
   congr 1
theorem QAH{l:List Bool}(hl:l.length≤1048576){a b c d:Int}{e:List Int}{f:Int}{g h j:List Int}(r:IsR l a b c d e f g h j){q:Nat}(hq:q<NB l):
  Qu .i64 (q:Int) 8=((q/8:Nat):Int)∧(q/8:Nat)<h.length∧(q/8:Nat)<j.length∧h.getD (q/8) 0=((Qg l true (15*(8*(q/8))):Nat):Int)∧j.getD (q/8) 0=((QU l (8*(q/8))).length:Int)∧UC .i64 ((q/8:Nat):Int) 8=((8*(q/8):Nat):Int):=by
 obtain ⟨_,_,_,_,_,_,_,rfl,rfl⟩:=r
 have hn:=Q8M hl
 have hg:q/8<NG l:=by unfold NG grp; omega
 refine ⟨by rw[Jh (by omega) (by omega) (by omega)]; omega,by rw[Js]; exact hg,by rw[Q8L]; exact hg,?_,QIL l hg,by rw[Ze (by omega) (by omega)]; omega⟩
 rw[QGq l hg,show 120*(q/8)=15*(8*(q/8)) by omega]
theorem QbC{l:List Bool}(hl:l.length≤1048576){a b c d:Int}{e:List Int}{f:Int}{g h j:List Int}(r:IsR l a b c d e f g h j)(x:Nat)(hx:x≤l.length)(K:Int→Option R):QeE a b c d e f g h j (x:Int) K=K ((Qg l true x:Nat):Int):=by
 rw[Qqi]; unfold Qpu
 by_cases h0:x=0
 ·subst h0; rw[Q0 (by rfl)]; rfl
 have hq:(x-1)/15<NB l:=Qcc.2 (by omega)
 obtain ⟨q1,q2,q3,q4,q5,q6⟩:=QAH hl r hq
 have e1:Qu .i64 (QB .i64 (x:Int) 1) 15=(((x-1)/15:Nat):Int):=by rw[Qp (by omega) (by omega),Jh (by omega) (by omega) (by omega)]; omega
 rw[Q1 (by omega),e1,Qnf]; unfold Qkm
 rw[q1,Q0 (by omega),Q0 (by omega),Q0 (by omega),Q0 (by omega),Int.toNat_natCast,q4,q5,q6,Ql9]; unfold Qbx
 exact QnK hl r x hx (by omega) _ _ NR _ _ (by omega) (by have:=QT; omega)
theorem QeW{l:List Bool}(hl:l.length≤1048576){a b c d:Int}{e:List Int}{f:Int}{g h j:List Int}(r:IsR l a b c d e f g h j)(bit:Bool)(x:Nat)(hx:x≤l.length)(K:Int→Option R):Qdp a b c d e f g h j bit (x:Int) K=K ((Qg l bit x:Nat):Int):=by
 rw[QoI]; unfold Qnm
 cases bit with
 | true=>rw[Ev.Q8,QbC hl r x hx]
 | false=>
  have:=Q1V l x
  rw[Ev.Q5,QbC hl r x hx,Qp (by omega) (by omega)]
  congr 1; omega
theorem Q7q{l:List Bool}(hl:l.length≤1048576){a b c d:Int}{e:List Int}{f:Int}{g h j:List Int}(r:IsR l a b c d e f g h j)(K:Bool→Option R):Q3q a b c d e f g h j K=K true:=by
 rw[Qgy]; unfold Qfw
 rw[QoT hl r]
theorem Qyo{l:List Bool}(hl:l.length≤1048576){a b c d:Int}{e:List Int}{f:Int}{g h j:List Int}(r:IsR l a b c d e f g h j)(K:Int→List Int→Option R):Qqn a b c d e f g h j K=K (l.length:Int) (ci (wds l)):=by
 rw[Qqo]; unfold Qpx
 rw[QoT hl r]
def QKx(l:List Bool):Nat:=NB l*4+(QU l (NB l)).length+64*NG l
theorem QqG{l:List Bool}(hl:l.length≤1048576){a b c d:Int}{e:List Int}{f:Int}{g h j:List Int}(r:IsR l a b c d e f g h j)(K:Int→Option R):Qql a b c d e f g h j K=K ((QKx l:Nat):Int):=by
 rw[Qqm]; unfold Qpw
 rw[Q7q hl r,Bool.not_true,Ev.Q5]
 obtain ⟨_,_,_,rfl,_,rfl,_,rfl,_⟩:=r
 have hn:=Q8M hl
 have ho:=JY hl (i:=NB l) (Nat.le_refl _)
 have hg:NG l≤1000000:=by unfold NG grp; omega
 have e1:Qe .i64 ((NB l*4:Nat):Int) ((QU l (NB l)).length:Int)=((NB l*4+(QU l (NB l)).length:Nat):Int):=by rw[Q6 (by omega) (by omega)]; omega
 have e2:UC .i64 64 ((NG l:Nat):Int)=((64*NG l:Nat):Int):=by rw[Ze (by omega) (by omega)]; omega
 rw[Js,e1,e2,Q6 (by omega) (by omega)]
 congr 1
theorem QuB{l:List Bool}(hl:l.length≤1048576){a b c d:Int}{e:List Int}{f:Int}{g h j:List Int}(r:IsR l a b c d e f g h j)(i:Int)(K:Bool→Int→Option R):Qko a b c d e f g h j i K=K (Qsz l i).1 (Qsz l i).2:=by
 rw[Qng]; unfold Qkn Qsz
 rw[Q7q hl r,Bool.not_true,Ev.Q5]
 have ea:a=(l.length:Int):=r.a
 by_cases h1:i<0
 ·rw[Q0 h1,if_pos (.inl h1)]
 by_cases h2:(l.length:Int)≤i
 ·rw[Q1 h1,ea,Q0 h2,if_pos (.inr h2)]
 obtain ⟨i,rfl⟩:∃ b:Nat,i=(b:Int):=⟨i.toNat,by omega⟩
 rw[Q1 h1,Q1 (by omega),if_neg (by omega),Qfy]; unfold Qcn
 rw[Q6 (by omega) (by omega),show (i:Int)+1=((i+1:Nat):Int) by omega,QbC hl r _ (by omega),QbC hl r _ (by omega),Int.toNat_natCast]
 have hs:Qg l true (i+1)=Qg l true i+(l.getD i false==true).toNat:=rfl
 rw[hs]
 congr 1
 cases l.getD i false
 ·exact decide_eq_false (by simp)
 ·exact decide_eq_true (by simp; omega)
theorem Qyp{l:List Bool}(hl:l.length≤1048576){a b c d:Int}{e:List Int}{f:Int}{g h j:List Int}(r:IsR l a b c d e f g h j)(bit:Bool)(i:Int)(K:Int→Int→Option R):Qqj a b c d e f g h j bit i K=K (QuM l bit i).1 (QuM l bit i).2:=by
 rw[Qqk]; unfold Qpv QuM
 rw[Q7q hl r,Bool.not_true,Ev.Q5]
 have ea:a=(l.length:Int):=r.a
 by_cases h1:i<0
 ·rw[Q0 h1,if_pos (.inl h1)]
 by_cases h2:(l.length:Int)<i
 ·rw[Q1 h1,ea,Q0 h2,if_pos (.inr h2)]
 obtain ⟨i,rfl⟩:∃ b:Nat,i=(b:Int):=⟨i.toNat,by omega⟩
 rw[Q1 h1,Q1 (by omega),if_neg (by omega),Qld]; unfold QgH
 rw[QeW hl r bit i (by omega),Int.toNat_natCast]
theorem QuC{l:List Bool}(hl:l.length≤1048576){a b c d:Int}{e:List Int}{f:Int}{g h j:List Int}(r:IsR l a b c d e f g h j)(bit:Bool)(k:Nat)(hk:k<4000000000)(K0:Int→Int→Int→Int→Int→List Int→Int→List Int→List Int→List Int→Bool→Int→Option R):∀ (F q:Nat),q<NG l→NG l-q<F→Qg l bit (120*q)≤k →
  ∃ q',q'<NG l∧Qg l bit (120*q')≤k∧Q0m K0 F (q:Int) a b c d e f g h j bit (k:Int)=K0 (q':Int) a b c d e f g h j bit (k:Int)
 | 0,_,_,hF,_=>by omega
 | F+1,q,h1,hF,h2=>by
  have hn:=Q8M hl
  have hng:NG l≤10000:=by unfold NG grp; omega
  have eh:h.length=NG l:=by rw[r.h,Js]
  simp only[Q0m,Qle]
  rw[Q6 (by omega) (by omega)]
  by_cases h3:q+1<NG l
  ·have h4:120*(q+1)≤l.length:=by
    have h5:8*(q+1)<NB l:=by unfold NG grp at h3; omega
    have:=Qcc.1 h5; omega
   have e1:UC .i64 (UC .i64 ((q:Int)+1) 8) 15=((120*(q+1):Nat):Int):=by
    rw[Ze (a:=(q:Int)+1) (by omega) (by omega),Ze (by omega) (by omega)]; omega
   rw[Q0 (by omega),e1,QeW hl r bit _ h4]
   by_cases h5:Qg l bit (120*(q+1))≤k
   ·rw[Q0 (by omega),show (q:Int)+1=((q+1:Nat):Int) by omega]
    exact QuC hl r bit k hk K0 F (q+1) h3 (by omega) h5
   ·rw[Q1 (by omega)]
    exact ⟨q,h1,h2,rfl⟩
  ·rw[Q1 (by omega)]
   exact ⟨q,h1,h2,rfl⟩
theorem Qyq{l:List Bool}(hl:l.length≤1048576)(bit:Bool){i:Nat}(hi:i<NB l)(k:Nat)(hk:k<4000000000)(out:Int)(K:Bool→Bool→Int→Int→Option R):
  Q9S (i:Int) ((bw l i:Nat):Int) ((Qg l true (15*i):Nat):Int) bit (k:Int) out K=K (decide (Qg l bit (15*(i+1))≤k)) bit (k:Int) (((15*i+Qdh (bwB l bit i) ((k:Int)-((Qg l bit (15*i):Nat):Int)):Nat):Int)):=by
 have hb:=QIO l bit i
 have hc:=Q0H l bit (15*i)
 have hn:=Qcc.1 hi
 have hp:=QE1 l bit i
 have hp2:=Q15 (bwB l bit i) 64
 have hs:=QsN (bwB l bit i) ((k:Int)-((Qg l bit (15*i):Nat):Int))
 have em:UC .i64 (i:Int) 15=((15*i:Nat):Int):=by rw[Ze (by omega) (by omega)]; omega
 have j4:Q3d (i:Int) ((bwB l bit i:Nat):Int) ((Qg l bit (15*i):Nat):Int) bit (k:Int) out K=K (decide (Qg l bit (15*(i+1))≤k)) bit (k:Int) (((15*i+Qdh (bwB l bit i) ((k:Int)-((Qg l bit (15*i):Nat):Int)):Nat):Int)):=by
  rw[QcT]; unfold Q9R
  rw[Qp (by omega) (by omega),Q1W _ (by omega),Uq _ (by omega),Q6 (by omega) (by omega),em,Q6 (by omega) (by omega)]
  have d1:decide (((Qg l bit (15*i):Nat):Int)+((pc (bwB l bit i) 64:Nat):Int)≤(k:Int))=decide (Qg l bit (15*(i+1))≤k):=decide_eq_decide.2 (by omega)
  rw[d1,Int.natCast_add (15*i)]
 rw[QeL]; unfold Qb2
 cases bit with
 | true=>rw[Bool.not_true,Ev.Q5]; exact j4
 | false=>
  have hw:=QqJ l i
  have h1:=Q1V l (15*i)
  have e1:J2 .u64 (QBY .u64 ((bw l i:Nat):Int)) ((QcX 15:Nat):Int)=((bwB l false i:Nat):Int):=by
   have e2:QcX 15=2 ^ 15-1:=by decide
   have e3:bwB l false i=32767-bw l i:=rfl
   rw[QAv _ (by omega),Q0E _ _ (by omega) (Q7n _),e2,Nat.and_two_pow_sub_one_eq_mod,e3]; omega
  rw[Bool.not_false,Ev.Q8,YI _ (by decide) (by decide),e1,em,Qp (by omega) (by omega),show ((15*i:Nat):Int)-((Qg l true (15*i):Nat):Int)=((Qg l false (15*i):Nat):Int) by omega]
  exact j4
theorem Qi3{l:List Bool}(hl:l.length≤1048576){a b c d:Int}{e:List Int}{f:Int}{g h j:List Int}(r:IsR l a b c d e f g h j){bit:Bool}{k p:Nat}(hp:IsAt l bit k p)(K0 K1:Bool→Int→Int→Option R):∀ (F i:Nat) (out:Int),i≤p/15→p/15-i<F →
  Q0n K0 K1 F ((Qg l true (15*i):Nat):Int) ((QU l i).length:Int) (i:Int) bit (k:Int) out a b c d e f g h j=K0 bit (k:Int) (p:Int)
 | 0,_,_,_,hF=>by omega
 | F+1,i,out,h1,hF=>by
  have hlt:=hp.lt
  have hi:i<NB l:=Qcc.2 (by omega)
  have hk:k<4000000000:=by have:=hp.cnt; have:=Q0H l bit p; omega
  have hb:=QqJ l i
  have hn:=Q8M hl
  have eb:b=((NB l:Nat):Int):=r.b
  simp only[Q0n,Qlf]
  rw[Q0 (by omega),QqF hl r hi,Qyq hl bit hi k hk]
  by_cases h2:i<p/15
  ·have h3:Qg l bit (15*(i+1))≤k:=by
    have:=Qb9 l bit (show 15*(i+1)≤p by omega)
    rw[hp.cnt]at this; exact this
   rw[decide_eq_true h3,Bool.not_true,Ev.Q5,Uq _ (by omega),QDY l hl hi,QAG l hl hi,Q6 (by omega) (by omega),show (i:Int)+1=((i+1:Nat):Int) by omega]
   exact Qi3 hl r hp K0 K1 F (i+1) _ (by omega) (by omega)
  ·have h3:i=p/15:=by omega
   subst h3
   obtain ⟨q1,q2,q3⟩:=QKz hp
   rw[decide_eq_false (by omega),Bool.not_false,Ev.Q8,show (k:Int)-((Qg l bit (15*(p/15)):Nat):Int)=((k-Qg l bit (15*(p/15)):Nat):Int) by omega,q1]
   congr 1; omega
theorem QuD{l:List Bool}(hl:l.length≤1048576){a b c d:Int}{e:List Int}{f:Int}{g h j:List Int}(r:IsR l a b c d e f g h j)(bit:Bool)(k:Int)(K:Int→Int→Option R):Qkw a b c d e f g h j bit k K=K (Qrq l bit k).1 (Qrq l bit k).2:=by
 rw[Qnp]; unfold Qkv Qrq
 rw[Q7q hl r,Bool.not_true,Ev.Q5]
 have ea:a=(l.length:Int):=r.a
 by_cases h1:k<0
 ·rw[Q0 h1,if_pos h1]
 have hc:=Q0H l bit l.length
 obtain ⟨k,rfl⟩:∃ b:Nat,k=(b:Int):=⟨k.toNat,by omega⟩
 rw[Q1 h1,if_neg h1]
 have hah:=QeW hl r bit l.length (Nat.le_refl _) (fun vc=>sel (decide (vc≤(k:Int))) (K 0 3) (Qbz a b c d e f g h j bit (k:Int) fun vd ve=>K vd ve))
 rw[←ea]at hah
 refine hah.trans ?_
 by_cases h2:Qg l bit l.length≤k
 ·rw[Q0 (by omega),Int.toNat_natCast,QnG h2]
 obtain ⟨p,hp1,hp2⟩:=Qrk (l:=l) (bit:=bit) (k:=k) (by omega)
 have hplt:=hp2.lt
 rw[Q1 (by omega),Int.toNat_natCast,hp1,QfF]; unfold Qcs
 rw[QfD]; unfold Q7L
 have hng:0<NG l:=by unfold NG; omega
 have hn:=Q8M hl
 have hng2:NG l≤10000:=by unfold NG grp; omega
 obtain ⟨q,g1,g2,g3⟩:=QuC hl r bit k (by omega) (fun vb vc vd ve vf vg vh vi vj vk vl vm=>Qde vc vd ve vf vg vh vi vj vk (UC .i64 vb 8) vl vm 0 fun _ _ vp=>K vp 0) NR 0 hng (by have:=QT; omega) (Nat.zero_le _)
 refine g3.trans ?_
 have hqp:120*q≤p:=by
  rcases Nat.lt_or_ge p (120*q) with h3|h3
  ·have:=QeT l bit h3 hp2.is
   have:=hp2.cnt
   omega
  ·exact h3
 have hq8:8*q<NB l:=Qcc.2 (by omega)
 obtain ⟨q1,q2,q3,q4,q5,q6⟩:=QAH hl r hq8
 rw[show 8*q/8=q by omega]at q1 q2 q3 q4 q5 q6
 have em:UC .i64 (q:Int) 8=((8*q:Nat):Int):=q6
 rw[em,QhP]; unfold QeM
 rw[q1,Q0 (by omega),Q0 (by omega),Q0 (by omega),Q0 (by omega),Int.toNat_natCast,q4,q5,q6,QfE]; unfold Q7M
 exact Qi3 hl r hp2 _ _ NR _ _ (by omega) (by have:=QT; omega)
end
end Go.Proofs.YtofblchonjfdbaaGreatDoor
