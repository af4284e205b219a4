import Derived.Test.YtofblchonjfdbaaGreatDoorW14
import Derived.Test.YtofblchonjfdbaaGreatDoorEvC
import Derived.Test.YtofblchonjfdbaaGreatDoorWA
namespace Go.Proofs.YtofblchonjfdbaaGreatDoor
open Go Go.Ev
section
variable {R : Type}
theorem Qcv(n m:Nat)(hn:n<2 ^ 62)(hm:m≤n)(K:Int→Option R):QaR (n:Int) (m:Int) K=K ((Q5Y n m:Nat):Int):=by
 rw[Qn2]; unfold Qkd Q5Y
 by_cases h:m=0
 ·subst h; rw[Q0 (by omega),if_pos rfl]; rfl
 ·have h1:n/m≤n:=Nat.div_le_self _ _
  have h2:0<n/m:=Nat.div_pos hm (by omega)
  have h3:=QkC (x:=n/m) (by omega)
  have h4:bitLen (n/m)≤64:=Q8G (by omega)
  rw[Q1 (by omega),Q1 (by omega),if_neg h,Jh (by omega) (by omega) (by omega),←Int.natCast_ediv,ZL (by omega) (by omega),Q7p _ (by omega),Qp (by omega) (by omega)]
  congr 1; omega
theorem Qqt{a w:Nat}(ha:a<2 ^ 21)(hw:w≤20):a*2 ^ w<2 ^ 41:=by
 have h:2 ^ w≤2 ^ 20:=Nat.pow_le_pow_right (by decide) hw
 calc a*2 ^ w≤a*2 ^ 20:=Nat.mul_le_mul_left _ h
  _<2 ^ 21*2 ^ 20:=Nat.mul_lt_mul_of_pos_right ha (by decide)
  _=2 ^ 41:=by decide
theorem Qqu(x w:Nat)(hw:w≤64):x &&& QcX (w:Int)=x%2 ^ w:=by
 rw[Qb7,Int.toNat_natCast,show min w 64=w by omega]
theorem QQS{w i q:Nat}{low:List Nat}(hq:q<2 ^ 21)(hw:w≤20):pF w low i q<2 ^ 41:=by
 have h1:=Qqt (a:=q-i) (w:=w) (by omega) hw
 unfold pF
 split
 ·refine Nat.or_lt_two_pow h1 (Nat.lt_of_lt_of_le (Nat.mod_lt _ (Nat.two_pow_pos _)) (Nat.pow_le_pow_right (by decide) (by omega)))
 ·exact h1
theorem QCJ(q i w:Nat)(low:List Nat)(N M:Nat)(a b c:Int)(xs:List Int)(h:Int)(hs:List Int)(out:List Bool)(hge:i≤q)(hq:q<2 ^ 21)(hw:w≤20)(hlow:∀ u∈low,u<2 ^ 64)(hl:out.length=N)
  (K:Bool→Int→Int→List Int→Int→Int→Int→Int→Int→List Int→Int→List Int→Bool→Nat→List Bool→Option R) :
  Qd9 (q:Int) (i:Int) (w:Int) (ci low) (N:Int) (M:Int) a b c xs h hs true N out K =
  if i<M∧pF w low i q<N then K true ((i+1:Nat):Int) (w:Int) (ci low) (N:Int) (M:Int) a b c xs h hs true N (out.set (pF w low i q) true)
  else K false ((i+1:Nat):Int) (w:Int) (ci low) (N:Int) (M:Int) a b c xs h hs false N out:=by
 have hp:=QQS (low:=low) (i:=i) hq hw
 have h1:=Qqt (a:=q-i) (w:=w) (by omega) hw
 have j5:Q73 ((pF w low i q:Nat):Int) (i:Int) (w:Int) (ci low) (N:Int) (M:Int) a b c xs h hs true N out K=if i<M∧pF w low i q<N then K true ((i+1:Nat):Int) (w:Int) (ci low) (N:Int) (M:Int) a b c xs h hs true N (out.set (pF w low i q) true)
  else K false ((i+1:Nat):Int) (w:Int) (ci low) (N:Int) (M:Int) a b c xs h hs false N out:=by
  rw[Qfx]; unfold Qcm
  by_cases h2:i<M
  ·rw[Q0 (by omega),Q9J]; unfold Q7I
   by_cases h3:pF w low i q<N
   ·rw[if_pos ⟨h2,h3⟩,decide_eq_true (by omega:((pF w low i q:Nat):Int)<(N:Int)),Ev.Q8,Q0 (by omega),Ev.Q8,Int.toNat_natCast,Q0 (by omega),Qm,Q4q]; unfold Q3c
    rw[Q6 (by omega) (by omega),show (i:Int)+1=((i+1:Nat):Int) by omega]
   ·rw[if_neg (by omega),decide_eq_false (by omega:¬((pF w low i q:Nat):Int)<(N:Int)),Ev.Q5,Q4q]; unfold Q3c
    rw[Q6 (by omega) (by omega),show (i:Int)+1=((i+1:Nat):Int) by omega]
  ·rw[Q1 (by omega),Q9J]; unfold Q7I
   rw[if_neg (by omega),Ev.Q5,Q4q]; unfold Q3c
   rw[Q6 (by omega) (by omega),show (i:Int)+1=((i+1:Nat):Int) by omega]
 rw[QhI]; unfold Q9K
 rw[Q0 (by omega),Qp (by omega) (by omega),show (q:Int)-(i:Int)=((q-i:Nat):Int) by omega,Quv _ _ (by omega) (by omega),Qb]
 by_cases h0:0<w
 ·rw[Q0 (by omega),Q9I]; unfold Q7H
  by_cases h4:i<low.length
  ·have e:pF w low i q=((q-i)*2 ^ w) ||| (low.getD i 0%2 ^ w):=by unfold pF; rw[if_pos ⟨h0,h4⟩]
   have h5:low.getD i 0%2 ^ w<2 ^ 41:=Nat.lt_of_lt_of_le (Nat.mod_lt _ (Nat.two_pow_pos _)) (Nat.pow_le_pow_right (by decide) (by omega))
   rw[Q0 (by omega),Q0 (by omega),Qb,Q0 (by omega),YI _ (by omega) (by omega),Int.toNat_natCast,Zp,Q0E _ _ (Z5 hlow i) (Q7n _),Qqu _ _ (by omega),QhW (by omega) (by omega),QDP _ _ (by omega) (by omega),←e]
   exact j5
  ·have e:pF w low i q=(q-i)*2 ^ w:=by unfold pF; rw[if_neg (by omega)]
   rw[Q1 (by omega),←e]
   exact j5
 ·rw[Q1 (by omega),Q9I]; unfold Q7H
  have e:pF w low i q=(q-i)*2 ^ w:=by unfold pF; rw[if_neg (by omega)]
  rw[Ev.Q5,←e]
  exact j5
def Ge(i:Nat)(qs:List Nat):Prop:=qs.Pairwise (· < ·)∧∀ q∈qs,i≤q∧q<2 ^ 21
theorem Ge.tail{i q:Nat}{qs:List Nat}(h:Ge i (q::qs)):Ge (i+1) qs:=by
 obtain ⟨h1,h2⟩:=h
 obtain ⟨h3,h4⟩:=List.pairwise_cons.1 h1
 refine ⟨h4,fun q' hq=>?_⟩
 have:=h3 q' hq
 have:=h2 q (by simp)
 have:=h2 q' (List.mem_cons_of_mem _ hq)
 omega
theorem QAu(j:Nat)(hj:j<1000000)(w:Nat)(low:List Nat)(N M:Nat)(a b c:Int)(xs:List Int)(h:Int)(hs:List Int)(n:Int)(zs:List Int)(ws:List Int)(len j2:Int)(hw:w≤20)(hlow:∀ u∈low,u<2 ^ 64)
  (K0:Int→Int→List Int→Int→Int→Int→Int→Int→List Int→Int→List Int→Bool→Nat→List Bool→Int→List Int→Option R)
  (K1:List Int→Int→Int→Int→Int→List Int→Int→Int→Int→Int→Int→List Int→Int→List Int→Bool→Nat→List Bool→Int→List Int→Option R)
  (KK:Bool×List Bool→Option R) (rest:List Nat)
  (hK0:∀ (i:Nat) out,K0 (i:Int) (w:Int) (ci low) (N:Int) (M:Int) a b c xs h hs false N out n zs=KK (false,out))
  (hK1:∀ (i:Nat) out,out.length=N→Ge i rest→K1 ws len j2 (i:Int) (w:Int) (ci low) (N:Int) (M:Int) a b c xs h hs true N out n zs=KK (Qot w low M N rest i out)) :
  ∀ (F x i:Nat) (out:List Bool),x<2 ^ 64→pc x 64<F→out.length=N→Ge i ((pw x).map (fun k=>64*j+k)++rest) →
  Yi K0 K1 F (j:Int) (x:Int) ws len j2 (i:Int) (w:Int) (ci low) (N:Int) (M:Int) a b c xs h hs true N out n zs=KK (Qot w low M N ((pw x).map (fun k=>64*j+k)++rest) i out)
 | 0,_,_,_,_,hF,_,_=>by omega
 | F+1,x,i,out,hx,hF,hl,hg=>by
  simp only[Yi,Qaw]
  by_cases h0:x=0
  ·subst h0
   rw[QDS]at hg ⊢
   rw[Qt (show ((0:Nat):Int)=0 from rfl)]
   exact hK1 i out hl hg
  ·have hs0:(x:Int)≠0:=by omega
   have hsl:=QsN x 0
   have hc:=Qqz h0 hx
   rw[QsQ h0 hx]at hg ⊢
   simp only[List.map_cons,List.cons_append]at hg ⊢
   obtain ⟨g1,g2⟩:=hg.2 _ (List.mem_cons_self ..)
   rw[Zr hs0,Q1W x hx,Ze (by omega) (by omega),Q6 (by omega) (by omega),show (j:Int)*64+((Qdh x 0:Nat):Int)=((64*j+Qdh x 0:Nat):Int) by omega,QCJ _ _ _ _ _ _ _ _ _ _ _ _ _ g1 g2 hw hlow hl]
   unfold Qot
   split
   ·rename_i hp
    rw[Bool.not_true,Ev.Q5,QeR (by omega) (by omega),show (x:Int)-1=((x-1:Nat):Int) by omega,Q0E _ _ hx (by omega)]
    exact QAu j hj w low N M a b c xs h hs n zs ws len j2 hw hlow K0 K1 KK rest hK0 hK1 F _ (i+1) _ (Quz hx) (by omega) (by rw[List.length_set]; exact hl) hg.tail
   ·rw[Bool.not_false,Ev.Q8]
    exact hK0 _ _
theorem QwJ(hs:List Nat)(hhs:∀ u∈hs,u<2 ^ 64)(hhl:hs.length<1000000)(w:Nat)(low:List Nat)(N M:Nat)(a b c:Int)(xs:List Int)(h:Int)(hs2:List Int)(n:Int)(zs:List Int)(hw:w≤20)(hlow:∀ u∈low,u<2 ^ 64)
  (K0 K1:Int→Int→List Int→Int→Int→Int→Int→Int→List Int→Int→List Int→Bool→Nat→List Bool→Int→List Int→Option R)
  (KK:Bool×List Bool→Option R)
  (hK0:∀ (i:Nat) out,K0 (i:Int) (w:Int) (ci low) (N:Int) (M:Int) a b c xs h hs2 false N out n zs=KK (false,out))
  (hK1:∀ (i:Nat) out,out.length=N→K1 (i:Int) (w:Int) (ci low) (N:Int) (M:Int) a b c xs h hs2 true N out n zs=KK (true,out)) :
  ∀ (F j i:Nat) (out:List Bool),j≤hs.length→hs.length-j<F→out.length=N→Ge i (plw j (hs.drop j)) →
  Yj K0 K1 F (ci hs) (hs.length:Int) (j:Int) (i:Int) (w:Int) (ci low) (N:Int) (M:Int) a b c xs h hs2 true N out n zs=KK (Qot w low M N (plw j (hs.drop j)) i out)
 | 0,_,_,_,_,hF,_,_=>by omega
 | F+1,j,i,out,hj,hF,hl,hg=>by
  simp only[Yj,Qax]
  by_cases h1:j<hs.length
  ·rw[QuA hs j h1]at hg ⊢
   rw[Qb,Q0 (by omega),Q0 (by omega),Q0 (by omega),Int.toNat_natCast,Zp,Q8f]
   unfold Q01
   refine QAu j (by omega) w low N M a b c xs h hs2 n zs (ci hs) _ _ hw hlow _ _ KK _ hK0 (fun i out hl hg=>?_) NR _ i out (Z5 hhs j) (by have:=Q15 (hs.getD j 0) 64; have:=QT; omega) hl hg
   rw[Q6 (by omega) (by omega),show (j:Int)+1=((j+1:Nat):Int) by omega]
   exact QwJ hs hhs hhl w low N M a b c xs h hs2 n zs hw hlow K0 K1 KK hK0 hK1 F (j+1) i out (by omega) (by omega) hl hg
  ·rw[Q1 (by omega),Qym hs j j (by omega)]
   exact hK1 i out hl
end
end Go.Proofs.YtofblchonjfdbaaGreatDoor
namespace Go.Proofs.YtofblchonjfdbaaGreatDoor
open Go Go.Ev
section
variable {R : Type}
def OkH(w L i:Nat)(qs:List Nat):Prop:=i+qs.length<2 ^ 21∧(∀ q∈qs,q<2 ^ 21)∧∀ q∈hq w i qs,q<L
theorem OkH.head{w L i q:Nat}{qs:List Nat}(h:OkH w L i (q::qs)):OkH w L (i+1) qs∧q/2 ^ w+i<L∧q<2 ^ 21∧i<2 ^ 21:=by
 obtain ⟨h1,h2,h3⟩:=h
 simp only[List.length_cons]at h1
 refine ⟨⟨by omega,fun q' h=>h2 q' (List.mem_cons_of_mem _ h),fun q' h=>h3 q' (by simp only[hq]; exact List.mem_cons_of_mem _ h)⟩,h3 _ (by simp only[hq]; exact List.mem_cons_self ..),h2 _ (by simp),by omega⟩
theorem QGf{w:Nat}(h:w≠0)(q:Nat)(qs:List Nat):Q0Z w (q::qs)=(q%2 ^ w)::qs.map (· % 2 ^ w):=by
 unfold Q0Z; rw[if_neg h]; rfl
theorem QGg(qs:List Nat):Q0Z 0 qs=[]:=rfl
theorem QIm(p L i w:Nat)(bs:List Bool)(low:List Nat)(hp:p<2 ^ 21)(hw:w≤20)(hi:i<2 ^ 21)(hL:bs.length=L)(hb:p/2 ^ w+i<L)(hl:low.length<2 ^ 21)
  (K0:Bool→Nat→List Bool→Int→Int→Nat→List Int→Option R) :
  Q5S (p:Int) L bs (w:Int) (i:Int) low.length (ci low) K0 K0=K0 true L (bs.set (p/2 ^ w+i) true) (w:Int) ((i+1:Nat):Int) (low++Q0Z w [p]).length (ci (low++Q0Z w [p])):=by
 have hd:p/2 ^ w≤p:=Nat.div_le_self _ _
 have hz:=Int.natCast_nonneg (p/2 ^ w)
 rw[QbY]; unfold Q2o
 rw[Quw _ _ (by omega),Q6 (by omega) (by omega),←Int.natCast_add,Int.toNat_natCast,Q0 (by omega),Q0 (by omega),Q0 (by omega),Q0 (by omega),Qm]
 by_cases h:w=0
 ·subst h
  rw[Q1 (by omega),Qat]; unfold Q6C
  rw[Q6 (by omega) (by omega),show (i:Int)+1=((i+1:Nat):Int) by omega,QGg,List.append_nil]
 ·rw[Q0 (by omega),YI _ (by omega) (by omega),ZL (by omega) (by omega),Q0E _ _ (by omega) (Q7n _),Qqu _ _ (by omega),Q0 (Qb low),Q0 (by omega),Qm,Qas]; unfold Q6B
  rw[Q6 (by omega) (by omega),show (i:Int)+1=((i+1:Nat):Int) by omega,QGf h,List.length_append,←Qdv]
  rfl
theorem QIn(w q:Nat)(qs:List Nat):Q0Z w [q]++Q0Z w qs=Q0Z w (q::qs):=by
 unfold Q0Z; split<;>rfl
theorem QGh(w:Nat)(a b:List Nat):Q0Z w a++Q0Z w b=Q0Z w (a++b):=by
 unfold Q0Z; split<;>simp
theorem Qy3(w:Nat):∀ (a b:List Nat) (i:Nat),hq w i (a++b)=hq w i a++hq w (i+a.length) b
 | [],b,i=>by simp[hq]
 | q::a,b,i=>by
  simp only[List.cons_append,hq,Qy3 w a b (i+1),List.length_cons]
  rw[show i+1+a.length=i+(a.length+1) by omega]
theorem QIo(a b:List Nat)(bs:List Bool):Qca (a++b) bs=Qca b (Qca a bs):=by simp[Qca]
theorem OkH.left{w L i:Nat}{a b:List Nat}(h:OkH w L i (a++b)):OkH w L i a:=by
 obtain ⟨h1,h2,h3⟩:=h
 rw[List.length_append]at h1
 exact ⟨by omega,fun q hq=>h2 q (List.mem_append_left _ hq),fun q h=>h3 q (by rw[Qy3]; exact List.mem_append_left _ h)⟩
theorem OkH.right{w L i:Nat}{a b:List Nat}(h:OkH w L i (a++b)):OkH w L (i+a.length) b:=by
 obtain ⟨h1,h2,h3⟩:=h
 rw[List.length_append]at h1
 exact ⟨by omega,fun q hq=>h2 q (List.mem_append_right _ hq),fun q h=>h3 q (by rw[Qy3]; exact List.mem_append_right _ h)⟩
theorem QDE(j:Nat)(hj:j<1000000)(w L:Nat)(hw:w≤20)(n:Int)(zs ws:List Int)(len j2:Int)
  (K0:Nat→List Bool→Int→Int→Nat→Int→List Int→List Int→Option R) (K1:List Int→Int→Int→Nat→List Bool→Int→Int→Nat→Int→List Int→List Int→Option R) :
  ∀ (F x i:Nat) (bs:List Bool) (low:List Nat),x<2 ^ 64→pc x 64<F→bs.length=L→OkH w L i ((pw x).map fun k=>64*j+k)→low.length≤i →
  YL K0 K1 F (j:Int) (x:Int) ws len j2 L bs (w:Int) (i:Int) low.length n zs (ci low) =
   K1 ws len j2 L (Qca (hq w i ((pw x).map fun k=>64*j+k)) bs) (w:Int) ((i+(pw x).length:Nat):Int) (low++Q0Z w ((pw x).map fun k=>64*j+k)).length n zs (ci (low++Q0Z w ((pw x).map fun k=>64*j+k)))
 | 0,_,_,_,_,_,hF,_,_,_=>by omega
 | F+1,x,i,bs,low,hx,hF,hL,hg,hll=>by
  simp only[YL,QcM]
  by_cases h0:x=0
  ·subst h0
   have e:Q0Z w []=[]:=by unfold Q0Z; split<;>rfl
   rw[QDS,Qt (show ((0:Nat):Int)=0 from rfl)]
   simp only[List.map_nil,hq,Qca,List.foldl_nil,e,List.append_nil,List.length_nil,Nat.add_zero]
  ·have hs0:(x:Int)≠0:=by omega
   have hsl:=QsN x 0
   have hc:=Qqz h0 hx
   rw[QsQ h0 hx]at hg ⊢
   simp only[List.map_cons]at hg ⊢
   obtain ⟨g1,g2,g3,g4⟩:=hg.head
   have hl2:(low++Q0Z w [64*j+Qdh x 0]).length≤i+1:=by
    rw[List.length_append,Q8K]; split<;>simp<;>omega
   rw[Zr hs0,Q1W x hx,Ze (by omega) (by omega),Q6 (by omega) (by omega),show (j:Int)*64+((Qdh x 0:Nat):Int)=((64*j+Qdh x 0:Nat):Int) by omega,QIm _ _ _ _ _ _ g3 hw g4 hL g2 (by omega),
    Bool.not_true,Ev.Q5,QeR (by omega) (by omega),show (x:Int)-1=((x-1:Nat):Int) by omega,Q0E _ _ hx (by omega),
    QDE j hj w L hw n zs ws len j2 K0 K1 F _ (i+1) _ _ (Quz hx) (by omega) (by rw[List.length_set]; exact hL) g1 hl2,List.append_assoc,QIn]
   simp only[hq,Qca,List.foldl_cons,List.length_cons]
   rw[show i+1+(pw (x &&& (x-1))).length=i+((pw (x &&& (x-1))).length+1) by omega]
theorem QAt(hs:List Nat)(hhs:∀ u∈hs,u<2 ^ 64)(hhl:hs.length<1000000)(w L:Nat)(hw:w≤20)(n:Int)(zs:List Int)
  (K0:Nat→List Bool→Int→Int→Nat→Int→List Int→List Int→Option R) :
  ∀ (F j i:Nat) (bs:List Bool) (low:List Nat),j≤hs.length→hs.length-j<F→bs.length=L→OkH w L i (plw j (hs.drop j))→low.length≤i →
  YM K0 K0 F (ci hs) (hs.length:Int) (j:Int) L bs (w:Int) (i:Int) low.length n zs (ci low) =
   K0 L (Qca (hq w i (plw j (hs.drop j))) bs) (w:Int) ((i+(plw j (hs.drop j)).length:Nat):Int) (low++Q0Z w (plw j (hs.drop j))).length n zs (ci (low++Q0Z w (plw j (hs.drop j))))
 | 0,_,_,_,_,_,hF,_,_,_=>by omega
 | F+1,j,i,bs,low,hj,hF,hL,hg,hll=>by
  simp only[YM,QcN]
  by_cases h1:j<hs.length
  ·rw[QuA hs j h1]at hg ⊢
   have hl2:(low++Q0Z w ((pw (hs.getD j 0)).map fun k=>64*j+k)).length≤i+(pw (hs.getD j 0)).length:=by
    rw[List.length_append,Q8K]; split<;>simp<;>omega
   have hg2:=hg.right
   rw[List.length_map]at hg2
   rw[Qb,Q0 (by omega),Q0 (by omega),Q0 (by omega),Int.toNat_natCast,Zp,Qau]
   unfold Q1c
   rw[QDE j (by omega) w L hw n zs (ci hs) _ _ K0 _ NR _ i bs low (Z5 hhs j) (by have:=Q15 (hs.getD j 0) 64; have:=QT; omega) hL hg.left hll,
    Q6 (by omega) (by omega),show (j:Int)+1=((j+1:Nat):Int) by omega,
    QAt hs hhs hhl w L hw n zs K0 F (j+1) _ _ _ (by omega) (by omega) (by rw[Qcb]; exact hL) hg2 hl2,List.append_assoc,QGh,Qy3,QIo]
   simp only[List.length_append,List.length_map,Nat.add_assoc]
  ·have e:Q0Z w []=[]:=by unfold Q0Z; split<;>rfl
   rw[Q1 (by omega),Qym hs j j (by omega),e]
   simp only[hq,Qca,List.foldl_nil,List.append_nil,List.length_nil,Nat.add_zero]
end
end Go.Proofs.YtofblchonjfdbaaGreatDoor
namespace Go.Proofs.YtofblchonjfdbaaGreatDoor
open Go Go.Ev
theorem QGp(l:List Bool)(h:l.length≤1048576)(k:Nat)(hk:k≤l.length):Qs6 (l.length:Int) (wds l) (k:Int)=((QND (l.take k):Nat):Int):=by
 unfold Qs6; rw[if_pos (Yl l h),←Qup]
 congr 2; omega
theorem QeV(l:List Bool)(h:l.length≤1048576)(a k:Int)(h1:0≤k)(h2:k≤64):Qah (l.length:Int) (wds l) a k=if a<0∨(l.length:Int)<a∨(l.length:Int)-a<k then (0,3) else (((Zq (wds l) a.toNat k.toNat:Nat):Int),0):=by
 unfold Qah; rw[if_pos ⟨Yl l h,by omega⟩]
abbrev QQT:List Sh:=[.int .i64,.ints .u64]
theorem QKw{v:AV}(h:Pa.has (.st QQT) v):∃ (n:Int) (ws:List Nat),v = .agg (.any [.int .i64 n,.fsl (.ints .u64 (ci ws))])∧(-9223372036854775808≤n∧n≤9223372036854775807)∧∀ w∈ws,w<2 ^ 64:=by
 obtain ⟨_,rfl,_,_,rfl,⟨n,rfl,hn⟩,_,_,rfl,⟨xs,rfl,_,hx⟩,rfl⟩:=h
 obtain ⟨ws,rfl,hw⟩:=QwO (xs:=xs) fun x h=>by
  exact Qoh (hx x h)
 exact ⟨n,ws,rfl,Qy9 hn,hw⟩
end Go.Proofs.YtofblchonjfdbaaGreatDoor
namespace Go.Proofs.YtofblchonjfdbaaGreatDoor
open Go Go.Ev
section
variable {R : Type}
theorem Qcx(bs:List Bool)(hl:bs.length≤1048576)(n n2:Int)(L:Nat)(hL:L=(bs.length+63)/64)(K:Int→Int→Nat→List Int→Option R):∀ (N j:Nat) (W:List Nat),j≤bs.length→bs.length-j<N →
  W.length=L→(∀ w∈W,w<2 ^ 64)→(∀ i,QN W i=(bs.take j).getD i false) →
  Jz K N bs (bs.length:Int) (j:Int) n n2 L (ci W)=K n n2 L (ci (wds bs))
 | 0,_,_,_,h,_,_,_=>by omega
 | N+1,j,W,hj,hN,h1,h2,h3=>by
  simp only[Jz,QhC]
  by_cases h:j<bs.length
  ·have hp:2 ^ (j%64)<2 ^ 64:=Nat.pow_lt_pow_right (by decide) (Nat.mod_lt _ (by decide))
   have hjW:j/64<W.length:=by omega
   rw[Q0 (by omega),Q0 (by omega),Q0 (by omega),Int.toNat_natCast,Q6 (by omega) (by omega),show (j:Int)+1=((j+1:Nat):Int) by omega]
   cases hb:bs.getD j false with
   | true=>
    rw[Ev.Q8,Quj j (by omega),QwL j,Q0 (by omega),Q0 (by omega),Int.toNat_natCast,Qb,Q0 hjW,Q0 (by omega),Q0 (by omega),Q0 (by omega),Q0 hjW,Qm,Zp,
     show (1:Int)=((1:Nat):Int) from rfl,Q3i _ _ (by decide),Nat.one_mul,Nat.mod_eq_of_lt hp,QbB _ _ (Z5 h2 _) hp,Qri]
    exact Qcx bs hl n n2 L hL K N (j+1) _ (by omega) (by omega) (by simpa using h1) (Quo h2 (Nat.or_lt_two_pow (Z5 h2 _) hp)) (Qy5 bs W h2 j h hjW hb h3)
   | false=>
    rw[Ev.Q5]
    refine Qcx bs hl n n2 L hL K N (j+1) W (by omega) (by omega) h1 h2 fun i=>?_
    rw[h3,Qdr,Qdr]
    by_cases a:i=j
    ·subst a; simp only[hb]; simp
    ·by_cases b:i<j
     ·have c:i<j+1:=by omega
      simp[b,c]
     ·have c:¬i<j+1:=by omega
      simp[b,c]
  ·have:j=bs.length:=by omega
   subst this
   rw[Q1 (by omega)]
   congr 1
   apply congrArg
   apply Qyb (by rw[h1,hL]) h2
   intro i
   rw[h3,List.take_length]
theorem QnJ(bs:List Bool)(hl:bs.length≤1048576)(K:Int→List Int→Int→Option R):
  QhD bs K=K bs.length (ci (wds bs)) 0:=by
 rw[QoE]; unfold Qn5
 rw[Qsx,if_neg (by omega)]
 show Q9A _ _ _ _ _ _ _ _=_
 rw[Int.toNat_natCast,Qeu]
 unfold Q5T
 refine (Qcx bs hl 0 _ _ rfl _ NR 0 _ (by omega) (by have:=QT; omega) (by simp) (fun w hw=>by rw[(List.mem_replicate.1 hw).2]; decide) (fun i=>by rw[QnD]; simp)).trans ?_
 rw[Q0 (by rw[Qb,Qn])]
end
end Go.Proofs.YtofblchonjfdbaaGreatDoor
namespace Go.Proofs.YtofblchonjfdbaaGreatDoor
open Go Go.Ev
section
variable {R : Type}
def FM(l:List Bool):Nat:=(pl l).length
def FW(l:List Bool):Nat:=Q5Y l.length (FM l)
def FV(l:List Bool):Nat:=max 1 (FW l)
def FL(l:List Bool):List Nat:=Q0Z (FW l) (pl l)
def FH(l:List Bool):List Bool:=QDX (FW l) l.length (pl l)
theorem Qaf(l:List Bool):FM l≤l.length:=by unfold FM; rw[Qi2]; exact Q0H _ _ _
theorem Qs5{l:List Bool}(h:l.length≤3000):FW l≤11:=by
 have h1:=Qaf l
 unfold FW Q5Y
 split
 ·omega
 ·have:bitLen (l.length/FM l)≤12:=Q8G (Nat.lt_of_le_of_lt (Nat.div_le_self _ _) (by omega))
  omega
theorem Q5W(l:List Bool):(FL l).length≤FM l:=by
 unfold FL FM; rw[Q8K]; split<;>omega
theorem QAr(l:List Bool):∀ u∈FL l,u<2 ^ FW l:=QKv _ _
theorem Qrg(l:List Bool):(FH l).length=FM l+l.length/2 ^ FW l+1:=Qyn _ _ _
theorem Quf{l:List Bool}(h:l.length≤3000):(FH l).length≤6001:=by
 rw[Qrg]
 have:=Qaf l
 have:=Nat.div_le_self l.length (2 ^ FW l)
 omega
theorem QIk(l:List Bool)(h:l.length≤1048576):Qs6 (l.length:Int) (wds l) (l.length:Int)=((FM l:Nat):Int):=by
 unfold Qs6 FM
 rw[if_pos (Yl l h),Qi2,QeS,show (max 0 (min (l.length:Int) (l.length:Int))).toNat=l.length by omega]
theorem QMf{l:List Bool}(h:l.length≤3000):OkH (FW l) (FM l+l.length/2 ^ FW l+1) 0 (pl l):=by
 have h1:(pl l).length≤3000:=Nat.le_trans (Qaf l) h
 refine ⟨by omega,fun q hq=>by have:=QoR hq; omega,fun q hq=>QMk (fun p hp=>Nat.le_of_lt (QoR hp)) q hq⟩
theorem Q6M{l:List Bool}(h:l.length≤1048576):Ws (wds l):=Ws.wds h
theorem QIl(w:Nat):max2 1 (w:Int)=((max 1 w:Nat):Int):=Quh 1 w
theorem QKl{w:Nat}{low:List Nat}(h:∀ u∈low,u<2 ^ w):QkD low≤max 1 w:=
 (QDO (by omega)).2 fun u hu=>Nat.lt_of_lt_of_le (h u hu) (Nat.pow_le_pow_right (by decide) (by omega))
theorem Qb5{w Bd:Nat}{low:List Nat}(hw:w≤11)(hB:Bd≤3000)(h:low.length≤Bd):low.length*max 1 w≤33000:=by
 calc low.length*max 1 w≤3000*11:=Nat.mul_le_mul (by omega) (by omega)
  _≤33000:=by decide
theorem QAs{w Bd:Nat}{low:List Nat}(hw:w≤11)(hB:Bd≤3000)(hl:low.length≤Bd)(h:∀ u∈low,u<2 ^ w):
  1≤((max 1 w:Nat):Int)∧((max 1 w:Nat):Int)≤64∧(low.length:Int)*((max 1 w:Nat):Int)≤1048576∧(QkD low:Int)≤((max 1 w:Nat):Int):=by
 have h1:=Qb5 hw hB hl
 have h2:=QKl h
 rw[←Int.natCast_mul]
 omega
theorem QDD{w:Nat}{low:List Nat}(hw:w≤11)(h:∀ u∈low,u<2 ^ w):∀ u∈low,u<2 ^ 64:=fun u hu=>
 Nat.lt_of_lt_of_le (h u hu) (Nat.pow_le_pow_right (by decide) (by omega))
theorem Qqs{l:List Bool}(h:l.length≤3000):ZC .i64 (l.length:Int) ((FW l:Nat):Int)=((l.length/2 ^ FW l:Nat):Int)∧Qe .i64 (Qe .i64 ((FM l:Nat):Int) ((l.length/2 ^ FW l:Nat):Int)) 1=((FM l+l.length/2 ^ FW l+1:Nat):Int)∧FM l+l.length/2 ^ FW l+1≤6001:=by
 have h1:=Qaf l
 have h2:=Nat.div_le_self l.length (2 ^ FW l)
 have h3:=Int.natCast_nonneg (l.length/2 ^ FW l)
 refine ⟨Quw _ _ (by omega),?_,by omega⟩
 generalize l.length/2 ^ FW l=d at *
 have h4:Qe .i64 ((FM l:Nat):Int) (d:Int)=((FM l+d:Nat):Int):=by rw[Q6 (by omega) (by omega)]; omega
 rw[h4,Q6 (by omega) (by omega)]
 omega
theorem Qll(l:List Bool)(hl:l.length≤3000)(K:Int→Int→Int→Int→Int→List Int→Int→List Int→Int→Option R):
  QaV (l.length:Int) (ci (wds l)) K=K (l.length:Int) ((FM l:Nat):Int) ((FL l).length:Int) ((FV l:Nat):Int) (((FL l).length*FV l:Nat):Int) (ci (wds (Zg (FV l) (FL l)))) ((FH l).length:Int) (ci (wds (FH l))) 0:=by
 obtain ⟨b1,b2,b3⟩:=Qqs hl
 have hw:=Qs5 hl
 have hm:=Qaf l
 have hFH:=Qrg l
 have hfl:=Q5W l
 have hlm:=QAs hw (Nat.le_trans hm hl) hfl (QAr l)
 have hmk:Qc9 ((max 1 (FW l):Nat):Int) (FL l)=(((FL l).length:Int),((max 1 (FW l):Nat):Int),(((FL l).length*max 1 (FW l):Nat):Int),wds (Zg (max 1 (FW l)) (FL l)),0):=
  Qdq (by omega) (by omega) (by rw[←Int.natCast_mul]at hlm; omega) (by omega)
 rw[Qew]; unfold Q9C
 rw[QP _ _ (Q6M (by omega)),Yl l (by omega),Bool.not_true,Ev.Q5,QnA _ _ (Q6M (by omega)),QIk l (by omega),Qcv _ _ (by omega) hm]
 show sel (decide (0≤((FW l:Nat):Int))) _ _=_
 rw[show Q5Y l.length (FM l)=FW l from rfl,b1,b2]
 have hok:=QMf hl
 generalize hLe:FM l+l.length/2 ^ FW l+1=L at *
 have hfin:Qca (hq (FW l) 0 (plw 0 (wds l))) (List.replicate L false)=FH l:=by rw[QkF,←hLe]; rfl
 have hfin2:Q0Z (FW l) (plw 0 (wds l))=FL l:=by rw[QkF]; rfl
 have hws:=QAt (R:=R) (wds l) (fun u hu=>Q48 hu) (by rw[Qn]; omega) (FW l) L (by omega) (l.length:Int) (ci (wds l))
 rw[Q0 (by omega),Q0 (by omega),Q0 (by omega),Q0 (by omega),Q0 (by omega),Qm,Q7U]; unfold Q5Q
 dsimp only
 rw[QbZ]; unfold Q7V
 rw[Qav]; unfold Q1d
 rw[Qb,Int.toNat_natCast]
 refine (show _=_ from hws _ NR 0 0 (List.replicate L false) [] (by omega) (by rw[Qn]; have:=QT; omega) (by simp) (by rw[List.drop_zero,QkF]; exact hok) (by simp)).trans ?_
 rw[List.drop_zero,hfin,hfin2,List.nil_append,Qb,Q0 rfl,Q0 rfl,QIl,QeO _ _ (QDD hw (QAr l)) (by omega),hmk]
 try dsimp only
 rw[Q0 (by omega),Q0 (by omega),Q0 (by omega),QnJ _ (by omega)]
 try dsimp only
 rw[Qt rfl,Qev]; unfold QaU
 rw[Qt rfl]
 rfl
theorem Qug(n:Int)(ws:List Nat)(hw:Ws ws)(h:QM n ws=false)(K:Int→Int→Int→Int→Int→List Int→Int→List Int→Int→Option R):
  QaV n (ci ws) K=K 0 0 0 0 0 [] 0 [] 2:=by
 rw[Qew]; unfold Q9C
 rw[QP _ _ hw,h,Bool.not_false,Ev.Q8]
end
end Go.Proofs.YtofblchonjfdbaaGreatDoor
namespace Go.Proofs.YtofblchonjfdbaaGreatDoor
open Go Go.Ev
section
variable {R : Type}
theorem QaD(a b:List Int)(h:a.length=b.length)(ha:a.length<4000000000)(K0:Bool→Option R)(K1:Unit→Option R):∀ (N j:Nat),j≤a.length→a.length-j<N →
  QI K0 K1 N a b (a.length:Int) (j:Int)=if a.drop j=b.drop j then K1 () else K0 false
 | 0,_,_,h=>by omega
 | N+1,j,hj,hN=>by
  simp only[QI,Q14]
  by_cases h1:j<a.length
  ·rw[Q0 (by omega),Q0 (by omega),Q0 (by omega),Q0 (by omega),Q0 (by omega),Int.toNat_natCast,Q6 (by omega) (by omega),show (j:Int)+1=((j+1:Nat):Int) by omega]
   by_cases h2:a.getD j 0=b.getD j 0
   ·rw[Qt h2,QaD a b h ha K0 K1 N (j+1) (by omega) (by omega)]
    simp only[Q26 a b h j h1,h2,true_and]
   ·rw[Zr h2]
    simp only[Q26 a b h j h1,h2,false_and,if_false]
  ·rw[Q1 (by omega),List.drop_of_length_le (by omega),List.drop_of_length_le (by omega),if_pos rfl]
theorem Q09(a b:List Int)(ha:a.length<4000000000)(K:Bool→Option R):QL a b K=K (decide (a=b)):=by
 rw[Q1w]; unfold J5
 by_cases h:a.length=b.length
 ·rw[Qt (by omega),Q0b]; unfold ZW
  refine (QaD a b h ha _ _ NR 0 (by omega) (by have:=QT; omega)).trans ?_
  rw[List.drop_zero,List.drop_zero]
  by_cases h2:a=b
  ·rw[if_pos h2,decide_eq_true h2]
  ·rw[if_neg h2,decide_eq_false h2]
 ·rw[Zr (by omega),decide_eq_false (fun e=>h (by rw[e]))]
end
end Go.Proofs.YtofblchonjfdbaaGreatDoor
namespace Go.Proofs.YtofblchonjfdbaaGreatDoor
open Go Go.Ev
section
variable {R : Type}
theorem Qnv{a b:List Nat}: ci a=ci b↔a=b:=by
 constructor
 ·intro h
  exact (List.map_inj_right (f:=Int.ofNat) (fun x y h=>Int.ofNat.inj h)).1 h
 ·intro h; rw[h]
def Qs3(M a b:Int)(xs:List Nat)(h:Int)(hs:List Nat)(out:List Bool):Prop:=
 M=((FM out:Nat):Int)∧a=((FL out).length:Int)∧b=((FV out:Nat):Int)∧xs=wds (Zg (FV out) (FL out))∧h=((FH out).length:Int)∧hs=wds (FH out)
instance (M a b : Int) (xs : List Nat) (h : Int) (hs : List Nat) (out : List Bool) : Decidable (Qs3 M a b xs h hs out) := by unfold Qs3; infer_instance
theorem QAn(n n2:Int)(xs:List Int)(K0:Bool→Int→Option R)(K1:Bool→Int→List Int→Option R):Uh 0 true n n2 xs K0 K1=K1 true n2 xs:=by
 rw[QaZ]; unfold Q9N
 rw[Qt rfl,QaY]; unfold Q9M
 rw[Bool.not_true,Ev.Q5]
theorem Qb4(n n2:Int)(xs:List Int)(K0:Bool→Int→Option R)(K1:Bool→Int→List Int→Option R):Uh 0 false n n2 xs K0 K1=K0 false 0:=by
 rw[QaZ]; unfold Q9N
 rw[Qt rfl,QaY]; unfold Q9M
 rw[Bool.not_false,Ev.Q8]
theorem Qs4(N M:Nat)(hN:N≤3000)(hM:M≤N)(a b c:Int)(xs:List Nat)(hxs:Ws xs)(hxl:xs.length<4000000000)(H:List Bool)(hH:H.length≤1048576)(n:Int)(K0:Bool→Int→Option R)(K1:Bool→Int→List Int→Option R):
  Q0v (N:Int) (M:Int) a b c (ci xs) (H.length:Int) (ci (wds H)) n K0 K1 =
  if (Qot (Q5Y N M) (Yn a b c xs) M N (pl H) 0 (List.replicate N false)).1=true∧Qs3 (M:Int) a b xs (H.length:Int) (wds H) (Qot (Q5Y N M) (Yn a b c xs) M N (pl H) 0 (List.replicate N false)).2
  then K1 true (N:Int) (ci (wds (Qot (Q5Y N M) (Yn a b c xs) M N (pl H) 0 (List.replicate N false)).2)) else K0 false 0:=by
 have hlow:∀ u∈Yn a b c xs,u<2 ^ 64:=fun u hu=>by
  unfold Yn at hu
  split at hu
  ·rename_i hok
   obtain ⟨a',b',l,rfl,rfl,rfl,rfl,f1,f2,f3,f4,f5⟩:=QeU hok hxs.1
   rw[Int.toNat_natCast,Int.toNat_natCast]at hu
   exact Qy4 f3 _ u hu
  ·simp at hu
 have hw:Q5Y N M≤20:=QDW (by omega)
 have hlen:=QnI (Q5Y N M) (Yn a b c xs) M N (pl H) 0 (List.replicate N false)
 rw[List.length_replicate]at hlen
 rw[Ql6]; unfold Qgz
 rw[Qcv _ _ (by omega) hM,Qny _ _ _ _ hxs,Q0 (by omega),Q0 (by omega),Q0 (by omega),Q0 (by omega),Qm,Int.toNat_natCast,Ql5]; unfold Qbw
 rw[Q7U]; unfold Q5Q
 try dsimp only
 rw[Q9L]; unfold Q59
 rw[Q8g]; unfold Q02
 rw[Qb]
 generalize hr:Qot (Q5Y N M) (Yn a b c xs) M N (pl H) 0 (List.replicate N false)=r at *
 refine (QwJ (wds H) (fun u hu=>Q48 hu) (by rw[Qn]; omega) (Q5Y N M) (Yn a b c xs) N M a b c (ci xs) (H.length:Int) (ci (wds H)) (H.length:Int) (ci (wds H)) hw hlow _ _
  (fun r=>if r.2.length=N then (if r.1=true∧Qs3 (M:Int) a b xs (H.length:Int) (wds H) r.2 then K1 true (N:Int) (ci (wds r.2)) else K0 false 0) else K0 false 0)
  (fun i out=>?_) (fun i out hol=>?_) NR 0 0 (List.replicate N false) (by omega) (by rw[Qn]; have:=QT; omega) (by simp) ?_).trans ?_
 ·try dsimp only
  rw[Bool.not_false,Ev.Q8]
  simp
 ·try dsimp only
  rw[Bool.not_true,Ev.Q5,if_pos hol,Q0 hol.symm,Q0 hol.symm,QnJ out (by omega),←hol]
  try dsimp only
  rw[Qll out (by omega)]
  have hx:(ci xs).length<4000000000:=by rw[Qb]; exact hxl
  have hy:(ci (wds H)).length<4000000000:=by rw[Qb,Qn]; omega
  by_cases h1:(M:Int)=((FM out:Nat):Int)
  ·by_cases h2:a=((FL out).length:Int)
   ·by_cases h3:b=((FV out:Nat):Int)
    ·rw[Q0 h1,Q0 h2,Q0 h3,Q09 _ _ hx]
     by_cases h4:ci xs=ci (wds (Zg (FV out) (FL out)))
     ·rw[decide_eq_true h4,Ev.Q8]
      by_cases h5:(H.length:Int)=((FH out).length:Int)
      ·rw[Q0 h5,Q09 _ _ hy]
       by_cases h6:ci (wds H)=ci (wds (FH out))
       ·rw[decide_eq_true h6,QAn,if_pos ⟨rfl,h1,h2,h3,Qnv.1 h4,h5,Qnv.1 h6⟩]
       ·rw[decide_eq_false h6,Qb4,if_neg (fun h=>h6 (Qnv.2 h.2.2.2.2.2.2))]
      ·rw[Q1 h5,Qb4,if_neg (fun h=>h5 h.2.2.2.2.2.1)]
     ·rw[decide_eq_false h4,Ev.Q5,Qb4,if_neg (fun h=>h4 (Qnv.2 h.2.2.2.2.1))]
    ·rw[Q0 h1,Q0 h2,Q1 h3,Qb4,if_neg (fun h=>h3 h.2.2.2.1)]
   ·rw[Q0 h1,Q1 h2,Qb4,if_neg (fun h=>h2 h.2.2.1)]
  ·rw[Q1 h1,Qb4,if_neg (fun h=>h1 h.2.1)]
 ·rw[List.drop_zero,QkF]
  exact ⟨Qoj H,fun q hq=>⟨Nat.zero_le _,by have:=QoR hq; omega⟩⟩
 ·rw[List.drop_zero,QkF,hr,if_pos hlen]
theorem QAo{l:List Bool}(hl:l.length≤3000):okI ((FL l).length:Int) ((FV l:Nat):Int) (((FL l).length*FV l:Nat):Int) (wds (Zg (FV l) (FL l)))=true:=by
 have hw:=Qs5 hl
 have h1:=Qb5 (low:=FL l) hw (Nat.le_trans (Qaf l) hl) (Q5W l)
 refine Qyj (ZA _ _) ?_ ?_ ?_
 ·unfold FV; omega
 ·unfold FV; omega
 ·unfold FV; omega
theorem Qy0{l:List Bool}(hl:l.length≤3000):Yn ((FL l).length:Int) ((FV l:Nat):Int) (((FL l).length*FV l:Nat):Int) (wds (Zg (FV l) (FL l)))=FL l:=by
 unfold Yn
 rw[if_pos (QAo hl),Int.toNat_natCast,Int.toNat_natCast]
 exact QwT fun u hu=>Nat.lt_of_lt_of_le (QAr l u hu) (Nat.pow_le_pow_right (by decide) (by unfold FV; omega))
theorem QAp(l:List Bool):pl (FH l)=hq (FW l) 0 (pl l):=QKu (Qoj l) fun p hp=>Nat.le_of_lt (QoR hp)
theorem QIj{l:List Bool}(hl:l.length≤3000):Qot (FW l) (FL l) (FM l) l.length (pl (FH l)) 0 (List.replicate l.length false)=(true,l):=by
 have h:=QAF (w:=FW l) (n:=l.length) (ps:=pl l) (fun p hp=>QoR hp) (pl l).length 0 (List.replicate l.length false) (by omega)
 rw[List.drop_zero,List.drop_zero,QDU]at h
 rw[QAp]; exact h
theorem Que(l:List Bool):Qs3 ((FM l:Nat):Int) ((FL l).length:Int) ((FV l:Nat):Int) (wds (Zg (FV l) (FL l))) ((FH l).length:Int) (wds (FH l)) l:=⟨rfl,rfl,rfl,rfl,rfl,rfl⟩
theorem Qy1{l:List Bool}(hl:l.length≤3000):(wds (Zg (FV l) (FL l))).length<4000000000:=by
 have h1:=Qb5 (low:=FL l) (Qs5 hl) (Nat.le_trans (Qaf l) hl) (Q5W l)
 rw[Qn,ZA]
 unfold FV; omega
theorem Qy2{l:List Bool}(hl:l.length≤3000):Ws (wds (Zg (FV l) (FL l))):=by
 have h1:=Qb5 (low:=FL l) (Qs5 hl) (Nat.le_trans (Qaf l) hl) (Q5W l)
 refine Ws.wds ?_
 rw[ZA]
 unfold FV; omega
theorem QQR{l:List Bool}(hl:l.length≤3000):Ws (wds (FH l)):=Ws.wds (by have:=Quf hl; omega)
theorem Qqr(l:List Bool)(hl:l.length≤3000)(K:Int→List Int→Bool→Option R):
  QhJ (l.length:Int) ((FM l:Nat):Int) ((FL l).length:Int) ((FV l:Nat):Int) (((FL l).length*FV l:Nat):Int) (ci (wds (Zg (FV l) (FL l)))) ((FH l).length:Int) (ci (wds (FH l))) K=K (l.length:Int) (ci (wds l)) true:=by
 have hm:=Qaf l
 have hh:=Quf hl
 rw[Qkk]; unfold QeA
 rw[Q1 (by omega),Q1 (by omega),Q1 (by omega),Q1 (by omega),Q3g _ _ _ _ (Qy2 hl),QAo hl,Bool.not_true,Ev.Q5,QP _ _ (QQR hl),Yl (FH l) (by omega),Bool.not_true,Q7G]; unfold Q72
 rw[Ev.Q5]
 try dsimp only
 rw[Qs4 l.length (FM l) hl hm _ _ _ _ (Qy2 hl) (Qy1 hl) (FH l) (by omega),Qy0 hl]
 have e:Qot (Q5Y l.length (FM l)) (FL l) (FM l) l.length (pl (FH l)) 0 (List.replicate l.length false)=(true,l):=QIj hl
 simp only[e]
 rw[if_pos ⟨trivial,Que l⟩]
def IsF(N M a b c:Int)(xs:List Nat)(h:Int)(hs:List Nat)(l:List Bool):Prop:=
 N=(l.length:Int)∧c=(((FL l).length*FV l:Nat):Int)∧Qs3 M a b xs h hs l
theorem QAq(N M a b c:Int)(xs:List Nat)(h:Int)(hs:List Nat)(hN:N≤3000)(hxs:Ws xs)(hxl:xs.length<4000000000)(hhs:Ws hs)(hno:∀ l:List Bool,l.length≤3000→¬IsF N M a b c xs h hs l)(K:Int→List Int→Bool→Option R):
  QhJ N M a b c (ci xs) h (ci hs) K=K 0 [] false:=by
 have j3:∀ K1:Int→Int→Int→Int→Int→List Int→Int→List Int→Int→Option R,Q0u true N M a b c (ci xs) h (ci hs) 0 (fun b1184 n1185=>K n1185 [] b1184) K1=K 0 [] false:=fun K1=>by
  rw[Q7G]; unfold Q72
  rw[Ev.Q8]
 rw[Qkk]; unfold QeA
 by_cases h1:N<0
 ·rw[Q0 h1,j3]
 rw[Q1 h1,Q1 (by omega)]
 by_cases h2:M<0
 ·rw[Q0 h2,j3]
 rw[Q1 h2]
 by_cases h3:N<M
 ·rw[Q0 h3,j3]
 rw[Q1 h3,Q3g _ _ _ _ hxs]
 cases hok:okI a b c xs with
 | false=>rw[Bool.not_false,Ev.Q8,j3]
 | true=>
  rw[Bool.not_true,Ev.Q5,QP _ _ hhs]
  cases hrow:QM h hs with
  | false=>rw[Bool.not_false,j3]
  | true=>
   obtain ⟨H,rfl,rfl,hH⟩:=Q3t hrow hhs.1
   obtain ⟨N,rfl⟩:∃ b:Nat,N=(b:Int):=⟨N.toNat,by omega⟩
   obtain ⟨M,rfl⟩:∃ b:Nat,M=(b:Int):=⟨M.toNat,by omega⟩
   rw[Bool.not_true,Q7G]; unfold Q72
   rw[Ev.Q5]
   try dsimp only
   rw[Qs4 N M (by omega) (by omega) a b c xs hxs hxl H hH]
   split
   ·rename_i hy
    exfalso
    have hlen:=QnI (Q5Y N M) (Yn a b c xs) M N (pl H) 0 (List.replicate N false)
    rw[List.length_replicate]at hlen
    generalize Qot (Q5Y N M) (Yn a b c xs) M N (pl H) 0 (List.replicate N false)=r at *
    refine hno r.2 (by omega) ⟨by omega,?_,hy.2⟩
    obtain ⟨a',b',l',rfl,rfl,rfl,_⟩:=QeU hok hxs.1
    have e1:=Int.ofNat.inj hy.2.2.1
    have e2:=Int.ofNat.inj hy.2.2.2.1
    rw[e1,e2]
   ·rfl
end
end Go.Proofs.YtofblchonjfdbaaGreatDoor
namespace Go.Proofs.YtofblchonjfdbaaGreatDoor
open Go Go.Ev
section
variable {R : Type}
theorem Quc(i w N M a b c:Int)(xs:List Int)(h:Int)(zs:List Int)(ws:List Nat)(hws:∀ u∈ws,u<2 ^ 64)(hwl:ws.length<1000000)(K0:Int→Int→Int→Int→Int→Int→Int→Int→List Int→Int→List Int→Option R):
  ∀ (F j k:Nat),j≤ws.length→ws.length-j<F→k<(plw j (ws.drop j)).length→k<4000000000 →
  Q0l K0 F i w (k:Int) ((64*j:Nat):Int) (ci ws) (ws.length:Int) (j:Int) N M a b c xs h zs=K0 i w (((plw j (ws.drop j)).getD k 0:Nat):Int) N M a b c xs h zs
 | 0,_,_,_,hF,_,_=>by omega
 | F+1,j,k,hj,hF,hk,hkb=>by
  simp only[Q0l,Qla]
  by_cases h1:j<ws.length
  ·rw[QuA ws j h1]at hk ⊢
   have hx:=Z5 hws j
   rw[Qb,Q0 (by omega),Q0 (by omega),Q0 (by omega),Int.toNat_natCast,Zp,Uq _ hx]
   generalize ws.getD j 0=x at *
   have hp:=Q15 x 64
   have hl:((pw x).map (fun i=>64*j+i)).length=pc x 64:=by rw[List.length_map,QwV]
   rw[List.length_append,hl]at hk
   by_cases h2:pc x 64≤k
   ·rw[Q0 (by omega),Qp (by omega) (by omega),Q6 (by omega) (by omega),Q6 (by omega) (by omega),show (k:Int)-((pc x 64:Nat):Int)=((k-pc x 64:Nat):Int) by omega,
     show ((64*j:Nat):Int)+64=((64*(j+1):Nat):Int) by omega,show (j:Int)+1=((j+1:Nat):Int) by omega,
     Quc i w N M a b c xs h zs ws hws hwl K0 F (j+1) (k-pc x 64) (by omega) (by omega) (by omega) (by omega)]
    congr 2
    rw[List.getD_eq_getElem?_getD,List.getD_eq_getElem?_getD,List.getElem?_append_right (by omega),hl]
   ·have hs:=QsN x (k:Int)
    rw[Q1 (by omega),Q1W _ hx,Q6 (by omega) (by omega)]
    have e:((pw x).map (fun i=>64*j+i)++plw (j+1) (ws.drop (j+1))).getD k 0=64*j+Qdh x (k:Int):=by
     rw[List.getD_eq_getElem?_getD,List.getElem?_append_left (by omega),List.getElem?_map,←QIG k x hx (by omega),List.getD_eq_getElem?_getD,List.getElem?_eq_getElem (by rw[QwV]; omega)]
     rfl
    rw[e]; rfl
  ·rw[Qym ws j j (by omega)]at hk
   simp at hk
theorem Qlk(l:List Bool)(hl:l.length≤3000)(i:Nat)(hi:i<FM l)(K:Int→Option R):
  QeF (l.length:Int) ((FM l:Nat):Int) ((FL l).length:Int) ((FV l:Nat):Int) (((FL l).length*FV l:Nat):Int) (ci (wds (Zg (FV l) (FL l)))) ((FH l).length:Int) (ci (wds (FH l))) (i:Int) K=K (((pl l).getD i 0:Nat):Int):=by
 have hm:=Qaf l
 have hh:=Quf hl
 have hw:=Qs5 hl
 have hp:(pl l).getD i 0<l.length:=by
  have:=(QDR (l:=l) (k:=i) hi).lt; exact this
 rw[Qnh]; unfold Qkp
 rw[Qcv _ _ (by omega) hm,show Q5Y l.length (FM l)=FW l from rfl,Qfz]; unfold Q7J
 rw[Qb]
 refine (Quc (i:Int) ((FW l:Nat):Int) _ _ _ _ _ _ _ _ (wds (FH l)) (fun u hu=>Q48 hu) (by rw[Qn]; omega) _ NR 0 i (by omega) (by rw[Qn]; have:=QT; omega) ?_ (by omega)).trans ?_
 ·rw[List.drop_zero,QkF,QAp,Qbc]; exact hi
 ·rw[List.drop_zero,QkF,QAp,QCW _ _ _ _ hi]
  generalize hpe:(pl l).getD i 0=p at *
  have hd:p/2 ^ FW l≤p:=Nat.div_le_self _ _
  have hz:=Int.natCast_nonneg (p/2 ^ FW l)
  have hsh:=Qqt (a:=p/2 ^ FW l) (w:=FW l) (by omega) (by omega)
  have e1:QB .i64 ((p/2 ^ FW l+(0+i):Nat):Int) (i:Int)=((p/2 ^ FW l:Nat):Int):=by
   generalize p/2 ^ FW l=d at *
   rw[Qp (by omega) (by omega)]; omega
  rw[e1,Q0 (by omega),Quv _ _ (by omega) (by omega)]
  by_cases h0:FW l=0
  ·rw[Q1 (by omega)]
   congr 1
   rw[h0]; simp
  ·have hll:(FL l).length=FM l:=by unfold FL FM; rw[Q8K,if_neg h0]
   have hv:FV l=FW l:=by unfold FV; omega
   have hg:Qsy ((FL l).length:Int) ((FV l:Nat):Int) (((FL l).length*FV l:Nat):Int) (wds (Zg (FV l) (FL l))) (i:Int)=(((p%2 ^ FW l:Nat):Int),0):=by
    have e:=Qy0 hl
    unfold Yn at e
    rw[if_pos (QAo hl)]at e
    have e2:=QAC (wds (Zg (FV l) (FL l))) ((FV l:Nat):Int).toNat (n:=((FL l).length:Int).toNat) (i:=i) (by omega)
    rw[e]at e2
    unfold Qsy
    rw[if_pos (QAo hl),if_neg (by omega),Int.toNat_natCast,←e2]
    unfold FL
    rw[QAE h0 hi,hpe]
   have hlt:p%2 ^ FW l<2 ^ FW l:=Nat.mod_lt _ (Nat.two_pow_pos _)
   have hle:p%2 ^ FW l≤p:=Nat.mod_le _ _
   rw[Q0 (by omega),QoP _ _ _ _ (Qy2 hl),hg]
   try dsimp only
   have hz2:=Int.natCast_nonneg (p%2 ^ FW l)
   rw[QhW (by omega) (by omega),QDP _ _ (by omega) (by omega),QCX hlt,Nat.div_add_mod']
theorem Qs2{l:List Bool}{bit:Bool}{k p i:Nat}(h:IsAt l bit k p):p<i↔k<Qg l bit i:=by
 constructor
 ·intro h1
  have:=QeT l bit h1 h.is
  rw[h.cnt]at this; exact this
 ·intro h1
  rcases Nat.lt_or_ge p i with h2|h2
  ·exact h2
  ·have:=Qb9 l bit h2
   rw[h.cnt]at this; omega
theorem Qrf(l:List Bool)(hl:l.length≤3000)(x:Nat)(K0:Int→Option R):∀ (F lo hi:Nat),lo≤Qg l true x→Qg l true x≤hi→hi≤FM l→hi-lo<F →
  Q1x K0 F (x:Int) (lo:Int) (hi:Int) (l.length:Int) ((FM l:Nat):Int) ((FL l).length:Int) ((FV l:Nat):Int) (((FL l).length*FV l:Nat):Int) (ci (wds (Zg (FV l) (FL l)))) ((FH l).length:Int) (ci (wds (FH l)))=K0 ((Qg l true x:Nat):Int)
 | 0,_,_,_,_,_,hF=>by omega
 | F+1,lo,hi,h1,h2,h3,hF=>by
  have hm:=Qaf l
  simp only[Q1x,Qni]
  by_cases h:lo<hi
  ·have e:Qu .i64 (Qe .i64 (lo:Int) (hi:Int)) 2=(((lo+hi)/2:Nat):Int):=by
    rw[Q6 (by omega) (by omega),Jh (by omega) (by omega) (by omega)]; omega
   have hat:=QDR (l:=l) (k:=(lo+hi)/2) (by show _<FM l; omega)
   have hiff:=Qs2 hat (i:=x)
   rw[Q0 (by omega),e,Qlk l hl _ (by omega),Q6 (by omega) (by omega),show (((lo+hi)/2:Nat):Int)+1=(((lo+hi)/2+1:Nat):Int) by omega]
   by_cases h4:(pl l).getD ((lo+hi)/2) 0<x
   ·rw[Q0 (by omega)]
    exact Qrf l hl x K0 F _ _ (by have:=hiff.1 h4; omega) h2 h3 (by omega)
   ·rw[Q1 (by omega)]
    exact Qrf l hl x K0 F _ _ h1 (by have:=fun h=>h4 (hiff.2 h); omega) (by omega) (by omega)
  ·rw[Q1 (by omega)]
   congr 1; omega
theorem Qae(l:List Bool)(hl:l.length≤3000)(x:Nat)(hx:x≤l.length)(K:Int→Option R):
  Qb0 (l.length:Int) ((FM l:Nat):Int) ((FL l).length:Int) ((FV l:Nat):Int) (((FL l).length*FV l:Nat):Int) (ci (wds (Zg (FV l) (FL l)))) ((FH l).length:Int) (ci (wds (FH l))) (x:Int) K=K ((Qg l true x:Nat):Int):=by
 have hm:=Qaf l
 have h1:Qg l true x≤FM l:=by unfold FM; rw[Qi2]; exact Qb9 l true hx
 rw[QoH]; unfold Qnj
 rw[QhM]; unfold Q9O
 exact Qrf l hl x _ NR 0 (FM l) (by omega) h1 (Nat.le_refl _) (by have:=QT; omega)
def QNA(l:List Bool)(i:Int):Bool×Int:=if i<0∨(l.length:Int)≤i then (false,3) else (l.getD i.toNat false,0)
def QNB(l:List Bool)(bit:Bool)(i:Int):Int×Int:=if i<0∨(l.length:Int)<i then (0,3) else (((Qg l bit i.toNat:Nat):Int),0)
def QIi(l:List Bool)(bit:Bool)(k:Int):Int×Int:=if k<0 then (0,3) else match QnF l bit k.toNat with|some i=>((i:Int),0)|none=>(0,3)
theorem Q5K(l:List Bool)(hl:l.length≤3000)(K:Bool→Option R):
  Q0Q (l.length:Int) ((FM l:Nat):Int) ((FL l).length:Int) ((FV l:Nat):Int) (((FL l).length*FV l:Nat):Int) (ci (wds (Zg (FV l) (FL l)))) ((FH l).length:Int) (ci (wds (FH l))) K=K true:=by
 rw[QeB]; unfold Qdb
 rw[Qqr l hl]
theorem Qvb(l:List Bool)(hl:l.length≤3000)(K:Int→List Int→Option R):
  Qof (l.length:Int) ((FM l:Nat):Int) ((FL l).length:Int) ((FV l:Nat):Int) (((FL l).length*FV l:Nat):Int) (ci (wds (Zg (FV l) (FL l)))) ((FH l).length:Int) (ci (wds (FH l))) K=K (l.length:Int) (ci (wds l)):=by
 rw[QoL]; unfold Qnt
 rw[Qqr l hl]
theorem QoO(l:List Bool)(hl:l.length≤3000)(K:Int→Option R):
  Qoe (l.length:Int) ((FM l:Nat):Int) ((FL l).length:Int) ((FV l:Nat):Int) (((FL l).length*FV l:Nat):Int) (ci (wds (Zg (FV l) (FL l)))) ((FH l).length:Int) (ci (wds (FH l))) K=K (((FL l).length*FV l+(FH l).length+64:Nat):Int):=by
 have h1:=Qb5 (low:=FL l) (Qs5 hl) (Nat.le_trans (Qaf l) hl) (Q5W l)
 have h2:=Quf hl
 rw[QoK]; unfold Qnr
 rw[Q5K l hl,Bool.not_true,Ev.Q5]
 have h3:(FL l).length*FV l≤33000:=h1
 have hz:=Int.natCast_nonneg ((FL l).length*FV l)
 generalize (FL l).length*FV l=d at *
 have e:Qe .i64 (d:Int) ((FH l).length:Int)=((d+(FH l).length:Nat):Int):=by rw[Q6 (by omega) (by omega)]; omega
 rw[e,Q6 (by omega) (by omega)]
 congr 1
theorem Qsu(l:List Bool)(hl:l.length≤3000)(i:Int)(K:Bool→Int→Option R):
  QfA (l.length:Int) ((FM l:Nat):Int) ((FL l).length:Int) ((FV l:Nat):Int) (((FL l).length*FV l:Nat):Int) (ci (wds (Zg (FV l) (FL l)))) ((FH l).length:Int) (ci (wds (FH l))) i K=K (QNA l i).1 (QNA l i).2:=by
 rw[Qlb]; unfold QgE QNA
 rw[Q5K l hl,Bool.not_true,Ev.Q5]
 by_cases h1:i<0
 ·rw[Q0 h1,if_pos (.inl h1)]
 by_cases h2:(l.length:Int)≤i
 ·rw[Q1 h1,Q0 h2,if_pos (.inr h2)]
 obtain ⟨i,rfl⟩:∃ b:Nat,i=(b:Int):=⟨i.toNat,by omega⟩
 rw[Q1 h1,Q1 h2,if_neg (by omega),QeH]; unfold Qb1
 rw[Q6 (by omega) (by omega),show (i:Int)+1=((i+1:Nat):Int) by omega,Qae l hl _ (by omega),Qae l hl _ (by omega),Int.toNat_natCast]
 congr 1
 rw[Bool.eq_iff_iff,decide_eq_true_iff]
 simp only[Qg]
 cases l.getD i false<;>simp<;>omega
theorem Qvc(l:List Bool)(hl:l.length≤3000)(bit:Bool)(i:Int)(K:Int→Int→Option R):
  Qod (l.length:Int) ((FM l:Nat):Int) ((FL l).length:Int) ((FV l:Nat):Int) (((FL l).length*FV l:Nat):Int) (ci (wds (Zg (FV l) (FL l)))) ((FH l).length:Int) (ci (wds (FH l))) bit i K=K (QNB l bit i).1 (QNB l bit i).2:=by
 rw[QoJ]; unfold Qno QNB
 rw[Q5K l hl,Bool.not_true,Ev.Q5]
 by_cases h1:i<0
 ·rw[Q0 h1,if_pos (.inl h1)]
 by_cases h2:(l.length:Int)<i
 ·rw[Q1 h1,Q0 h2,if_pos (.inr h2)]
 obtain ⟨i,rfl⟩:∃ b:Nat,i=(b:Int):=⟨i.toNat,by omega⟩
 rw[Q1 h1,Q1 h2,if_neg (by omega),QhN]; unfold QeJ
 rw[Qae l hl _ (by omega),Int.toNat_natCast]
 have h3:=Q1V l i
 cases bit with
 | true=>rw[Bool.not_true,Ev.Q5]
 | false=>
  rw[Bool.not_false,Ev.Q8,Qp (by omega) (by omega)]
  congr 1; omega
theorem Qud(l:List Bool)(hl:l.length≤3000)(k q:Nat)(hq:IsAt l false k q)(K0:Int→Option R):∀ (F lo hi:Nat),lo≤q→q≤hi→hi<l.length→hi-lo<F →
  UO K0 F (k:Int) (lo:Int) (hi:Int) (l.length:Int) ((FM l:Nat):Int) ((FL l).length:Int) ((FV l:Nat):Int) (((FL l).length*FV l:Nat):Int) (ci (wds (Zg (FV l) (FL l)))) ((FH l).length:Int) (ci (wds (FH l)))=K0 (q:Int)
 | 0,_,_,_,_,_,hF=>by omega
 | F+1,lo,hi,h1,h2,h3,hF=>by
  simp only[UO,QfG]
  by_cases h:lo<hi
  ·have e:Qu .i64 (Qe .i64 (lo:Int) (hi:Int)) 2=(((lo+hi)/2:Nat):Int):=by
    rw[Q6 (by omega) (by omega),Jh (by omega) (by omega) (by omega)]; omega
   have hiff:=Qs2 hq (i:=(lo+hi)/2+1)
   have hc:=Q1V l ((lo+hi)/2+1)
   rw[Q0 (by omega),e,Q6 (by omega) (by omega),show (((lo+hi)/2:Nat):Int)+1=(((lo+hi)/2+1:Nat):Int) by omega,Qae l hl _ (by omega),Qp (by omega) (by omega)]
   by_cases h4:Qg l false ((lo+hi)/2+1)≤k
   ·rw[Q0 (by omega)]
    exact Qud l hl k q hq K0 F _ _ (by have:=fun h=>(Nat.not_lt.2 h4) (hiff.1 h); omega) h2 h3 (by omega)
   ·rw[Q1 (by omega)]
    exact Qud l hl k q hq K0 F _ _ h1 (by have:=hiff.2 (Nat.lt_of_not_le h4); omega) (by omega) (by omega)
  ·rw[Q1 (by omega)]
   congr 1; omega
theorem Qsv(l:List Bool)(hl:l.length≤3000)(bit:Bool)(k:Int)(K:Int→Int→Option R):
  QfH (l.length:Int) ((FM l:Nat):Int) ((FL l).length:Int) ((FV l:Nat):Int) (((FL l).length*FV l:Nat):Int) (ci (wds (Zg (FV l) (FL l)))) ((FH l).length:Int) (ci (wds (FH l))) bit k K=K (QIi l bit k).1 (QIi l bit k).2:=by
 have hm:=Qaf l
 have hmt:FM l=Qg l true l.length:=Qi2 l
 have hadd:=Q1V l l.length
 have j5:∀ n:Nat,n=Qg l bit l.length→Q5b bit k (n:Int) (l.length:Int) ((FM l:Nat):Int) ((FL l).length:Int) ((FV l:Nat):Int) (((FL l).length*FV l:Nat):Int) (ci (wds (Zg (FV l) (FL l)))) ((FH l).length:Int) (ci (wds (FH l))) K=K (QIi l bit k).1 (QIi l bit k).2:=fun n hn=>by
  rw[QeN]; unfold Qb3 QIi
  rw[Q5K l hl,Bool.not_true,Ev.Q5]
  by_cases h1:k<0
  ·rw[Q0 h1,if_pos h1,Q81]; unfold Q5V
   rw[Ev.Q8]
  ·obtain ⟨k,rfl⟩:∃ b:Nat,k=(b:Int):=⟨k.toNat,by omega⟩
   rw[Q1 h1,if_neg h1,Q81,Int.toNat_natCast]; unfold Q5V
   by_cases h2:n≤k
   ·rw[Q0 (by omega),QnG (by omega)]
   ·obtain ⟨q,hq1,hq2⟩:=Qrk (l:=l) (bit:=bit) (k:=k) (by omega)
    rw[Q1 (by omega),hq1]
    try dsimp only
    cases bit with
    | true=>
     rw[Ev.Q8,Qlk l hl k (by omega),QIF hq2]
    | false=>
     have:=hq2.lt
     rw[Ev.Q5,QcV]; unfold Q9U
     rw[QcU]; unfold Q4s
     rw[Qp (by omega) (by omega),show (l.length:Int)-1=((l.length-1:Nat):Int) by omega]
     exact Qud l hl k q hq2 _ NR 0 (l.length-1) (by omega) (by omega) (by omega) (by have:=QT; omega)
 rw[Qlg]; unfold QgK
 cases bit with
 | true=>
  rw[Bool.not_true,Ev.Q5]
  exact j5 _ hmt
 | false=>
  rw[Bool.not_false,Ev.Q8,Qp (by omega) (by omega),show (l.length:Int)-((FM l:Nat):Int)=((l.length-FM l:Nat):Int) by omega]
  exact j5 _ (by omega)
section
variable {N M a b c : Int} {xs : List Nat} {h : Int} {hs : List Nat} (hN : N ≤ 3000) (hxs : Ws xs) (hxl : xs.length < 4000000000) (hhs : Ws hs) (hno : ∀ l : List Bool, l.length ≤ 3000 → ¬ IsF N M a b c xs h hs l)
include hN hxs hxl hhs hno
theorem Qvd(K:Bool→Option R):Q0Q N M a b c (ci xs) h (ci hs) K=K false:=by
 rw[QeB]; unfold Qdb
 rw[QAq N M a b c xs h hs hN hxs hxl hhs hno]
end
end
end Go.Proofs.YtofblchonjfdbaaGreatDoor
namespace Go.Ev
open Go
def ch:Nat→Nat→Nat
 | _,0=>1
 | 0,_+1=>0
 | n+1,k+1=>ch n k+ch n (k+1)
theorem Qok(n:Nat):ch n 0=1:=by cases n<;>rfl
theorem Qdi:∀ n k,n<k→ch n k=0
 | 0,0,h=>by omega
 | 0,k+1,_=>rfl
 | n+1,0,h=>by omega
 | n+1,k+1,h=>by rw[ch,Qdi n k (by omega),Qdi n (k+1) (by omega)]
theorem Qrr:∀ n k,ch n k≤2 ^ n
 | n,0=>by rw[Qok]; exact Nat.one_le_two_pow
 | 0,k+1=>by simp[ch]
 | n+1,k+1=>by rw[ch,Nat.pow_succ]; have:=Qrr n k; have:=Qrr n (k+1); omega
theorem QqL{n k:Nat}(h:n≤62):ch n k≤4611686018427387904:=Nat.le_trans (Qrr n k) (Nat.le_trans (Nat.pow_le_pow_right (by decide) h) (by decide))
theorem QKA(n k:Nat):ch n k≤ch (n+1) k:=by
 cases k with
 | zero=>rw[Qok,Qok]; exact Nat.le_refl _
 | succ k=>rw[ch]; omega
def Q1Y(x:Nat):Nat→Nat
 | 0=>0
 | n+1=>Q1Y x n+(if x.testBit n=true then ch n (pc x (n+1)) else 0)
theorem Qdj(x n:Nat):pc x (n+1)=pc x n+(if x.testBit n=true then 1 else 0):=by
 simp only[pc]
 cases x.testBit n<;>rfl
theorem QqM(x:Nat):∀ n,Q1Y x n<ch n (pc x n)
 | 0=>by simp[Q1Y,pc,ch]
 | n+1=>by
  have h:=QqM x n
  have hs:=Qdj x n
  simp only[Q1Y]
  by_cases hb:x.testBit n=true
  ·rw[if_pos hb]at hs ⊢
   rw[hs,ch]; omega
  ·rw[if_neg hb]at hs ⊢
   rw[hs,Nat.add_zero,Nat.add_zero]
   exact Nat.lt_of_lt_of_le h (QKA _ _)
theorem QuN{x y:Nat}: ∀ n,(∀ i,i<n→x.testBit i=y.testBit i)→pc x n=pc y n∧Q1Y x n=Q1Y y n
 | 0,_=>⟨rfl,rfl⟩
 | n+1,h=>by
  obtain ⟨h1,h2⟩:=QuN n fun i hi=>h i (by omega)
  have hn:=h n (by omega)
  have hp:pc x (n+1)=pc y (n+1):=by rw[Qdj,Qdj,h1,hn]
  exact ⟨hp,by simp only[Q1Y,h2,hp,hn]⟩
theorem QAN(x m n:Nat)(h:n≤m):pc (x%2 ^ m) n=pc x n∧Q1Y (x%2 ^ m) n=Q1Y x n:=
 QuN n fun i hi=>by rw[Nat.testBit_mod_two_pow,decide_eq_true (by omega),Bool.true_and]
theorem QeY{x n:Nat}(h:x<2 ^ n):∀ d,Q1Y x (n+d)=Q1Y x n∧pc x (n+d)=pc x n
 | 0=>⟨rfl,rfl⟩
 | d+1=>by
  obtain ⟨h1,h2⟩:=QeY h d
  have hb:x.testBit (n+d)=false:=Nat.testBit_lt_two_pow (Nat.lt_of_lt_of_le h (Nat.pow_le_pow_right (by decide) (by omega)))
  rw[←Nat.add_assoc]
  simp only[Q1Y,Qdj,hb,h1,h2]
  exact ⟨rfl,rfl⟩
def Qdk:Nat→Nat→Nat→Nat
 | 0,_,_=>0
 | n+1,k,off=>if k=0 then 0 else if ch n k≤off then 2 ^ n+Qdk n (k-1) (off-ch n k) else Qdk n k off
theorem QsU:∀ n k off,Qdk n k off<2 ^ n
 | 0,_,_=>by simp[Qdk]
 | n+1,k,off=>by
  simp only[Qdk]
  have h1:=QsU n (k-1) (off-ch n k)
  have h2:=QsU n k off
  have:=Nat.two_pow_pos n
  rw[Nat.pow_succ]
  split
  ·omega
  ·split<;>omega
theorem QGr:∀ n off,Qdk n 0 off=0
 | 0,_=>rfl
 | n+1,off=>by simp[Qdk]
theorem QAO(x:Nat):∀ n,Qdk n (pc x n) (Q1Y x n)=x%2 ^ n
 | 0=>by simp[Qdk,Nat.mod_one]
 | n+1=>by
  have e1:=Nat.mod_pow_succ (b:=2) (k:=n) (x:=x)
  have b1:=QfL x n
  have ih:=QAO x n
  have hs:=Qdj x n
  have o1:=QqM x n
  have m1:x/2 ^ n%2<2:=Nat.mod_lt _ (by decide)
  by_cases hx:x.testBit n=true
  ·have g1:=b1.2 hx
   have eo:Q1Y x (n+1)=Q1Y x n+ch n (pc x (n+1)):=by simp only[Q1Y]; rw[if_pos hx]
   rw[if_pos hx]at hs
   rw[g1]at e1
   rw[eo,hs]
   simp only[Qdk]
   rw[if_neg (by omega),if_pos (by omega),Nat.add_sub_cancel,Nat.add_sub_cancel,ih,e1]; omega
  ·have g1:x/2 ^ n%2=0:=by have:¬x/2 ^ n%2=1:=fun k=>hx (b1.1 k); omega
   have eo:Q1Y x (n+1)=Q1Y x n:=by simp only[Q1Y]; rw[if_neg hx]; rfl
   rw[if_neg hx]at hs
   replace hs:pc x (n+1)=pc x n:=by omega
   rw[g1]at e1
   rw[eo,hs,e1]
   simp only[Qdk]
   by_cases h0:pc x n=0
   ·rw[if_pos h0]
    rw[h0,QGr]at ih
    omega
   ·rw[if_neg h0,if_neg (by omega),ih]; omega
def tab(f:Nat→Nat)(n:Nat):List Int:=(List.range n).map fun k=>((f k:Nat):Int)
theorem Q2U(f:Nat→Nat)(n:Nat):(tab f n).length=n:=by simp[tab]
theorem QnM(f:Nat→Nat)(n i:Nat):(tab f n)[i]?=if i<n then some ((f i:Nat):Int) else none:=by
 unfold tab
 rw[List.getElem?_map]
 by_cases h:i<n
 ·rw[List.getElem?_range h,if_pos h]; rfl
 ·rw[if_neg h,List.getElem?_eq_none (by rw[List.length_range]; omega)]; rfl
theorem QfM(f:Nat→Nat){n i:Nat}(h:i<n):(tab f n).getD i 0=((f i:Nat):Int):=by
 rw[List.getD_eq_getElem?_getD,QnM,if_pos h]; rfl
theorem Qrs{f g:Nat→Nat}{n:Nat}(h:∀ i,i<n→f i=g i):tab f n=tab g n:=by
 apply List.ext_getElem?
 intro i
 rw[QnM,QnM]
 by_cases hi:i<n
 ·rw[if_pos hi,if_pos hi,h i hi]
 ·rw[if_neg hi,if_neg hi]
theorem QKB(f:Nat→Nat){n i:Nat}(v:Nat):(tab f n).set i ((v:Nat):Int)=tab (fun j=>if j=i then v else f j) n:=by
 apply List.ext_getElem?
 intro j
 rw[List.getElem?_set,QnM,QnM,Q2U]
 by_cases e:i=j
 ·subst e
  rw[if_pos rfl]; simp
 ·rw[if_neg e]
  have:¬j=i:=fun h=>e h.symm
  simp only[if_neg this]
theorem QIP(f:Nat→Nat){n m:Nat}(h:m≤n):(tab f n).take m=tab f m:=by
 apply List.ext_getElem?
 intro j
 rw[List.getElem?_take,QnM,QnM]
 by_cases hj:j<m
 ·rw[if_pos hj,if_pos hj,if_pos (by omega)]
 ·rw[if_neg hj,if_neg hj]
def Qaj(i k:Nat)(j:Nat):Nat:=if k<j then ch (i+1) j else ch i j
theorem QuO(i n:Nat):tab (Qaj i (i+1)) n=tab (ch i) n:=Qrs fun j _=>by
 unfold Qaj
 split
 ·rw[Qdi (i+1) j (by omega),Qdi i j (by omega)]
 ·rfl
theorem QwZ(i n:Nat):tab (Qaj i 0) n=tab (ch (i+1)) n:=Qrs fun j _=>by
 unfold Qaj
 split
 ·rfl
 ·have:j=0:=by omega
  subst this; rw[Qok,Qok]
theorem Qx0(i k n:Nat)(h:k+1<n):(tab (Qaj i (k+1)) n).set (k+1) ((Qaj i (k+1) (k+1)+Qaj i (k+1) k:Nat):Int)=tab (Qaj i k) n:=by
 rw[QKB]
 refine Qrs fun j _=>?_
 have e1:Qaj i (k+1) (k+1)+Qaj i (k+1) k=ch (i+1) (k+1):=by
  unfold Qaj
  rw[if_neg (by omega),if_neg (by omega),ch]; omega
 rw[e1]
 by_cases e:j=k+1
 ·subst e; rw[if_pos rfl]; unfold Qaj; rw[if_pos (by omega)]
 ·rw[if_neg e]
  unfold Qaj
  by_cases h2:k+1<j
  ·rw[if_pos h2,if_pos (by omega)]
  ·rw[if_neg h2,if_neg (by omega)]
end Go.Ev
