import Derived.Test.YtofblchonjfdbaaGreatDoorVectorLawsU
namespace Go.Proofs.YtofblchonjfdbaaGreatDoor
open Go Go.Ev
section
variable {R : Type}
theorem QNM{k:Int}(h:k=1∨k=2∨k=3)(p r f:Bool):zeV k p r f=spV k p r f:=by
 rcases h with rfl|rfl|rfl<;>cases p<;>cases r<;>cases f<;>rfl
theorem QJ2(k n:Int)(ws:List Nat)(us vs:List Int)(a b c d:Int)(xs:List Nat)(f:Int)(ys:List Nat)(us' vs':List Int)(a' b' c' d' e':Int)(xs':List Nat)(f':Int)(ys':List Nat)(h1:Ws ws)(h2:Ws xs)(h3:Ws ys)(h4:Ws xs')(h5:Ws ys')
  (l1:us.length<4000000000) (l2:vs.length<4000000000) (l3:us'.length<4000000000) (l4:vs'.length<4000000000) (l5:xs.length<4000000000) (l6:ys.length<4000000000) (l7:xs'.length<4000000000) (n1:n≤3000) (n2:a≤3000) (n3:a'≤3000) :
  (∃ l:List Bool,l.length≤3000∧IsV l k n (ci ws) us vs a b c d (ci xs) f (ci ys) us' vs' a' b' c' d' e' (ci xs') f' (ci ys')) ∨
  ((∀ K:Bool→Option R,ZK k n (ci ws) us vs a b c d (ci xs) f (ci ys) us' vs' a' b' c' d' e' (ci xs') f' (ci ys') K=K false)∧∀ K:Int→List Int→Bool→Option R,QC k n (ci ws) us vs a b c d (ci xs) f (ci ys) us' vs' a' b' c' d' e' (ci xs') f' (ci ys') K=K 0 [] false):=by
 have hS:=Q0D (R:=R) k n (ci ws) us vs l1 l2 a b c d (ci xs) f (ci ys) us' vs' l3 l4 a' b' c' d' e' (ci xs') f' (ci ys')
 have hZ:=Yv (R:=R) k n (ci ws) us vs l1 l2 a b c d (ci xs) f (ci ys) us' vs' l3 l4 a' b' c' d' e' (ci xs') f' (ci ys')
 by_cases hk:k=1∨k=2∨k=3
 ·rw[QNM hk]at hZ
  cases hs:spV k (emP n (ci ws) us vs) (emR a b c d (ci xs) f (ci ys) us' vs') (emF a' b' c' d' e' (ci xs') f' (ci ys')) with
  | false=>
   rw[hs]at hS hZ
   refine .inr ⟨fun K=>?_,fun K=>?_⟩
   ·rw[JC]; unfold JN
    rw[hS,Bool.not_false,Ev.Q8]
   ·rw[ZM]; unfold ZD
    rw[hZ,Bool.not_false,Ev.Q8]
  | true=>
   rw[hs]at hS hZ
   have hC:∀ K:Bool→Option R,ZK k n (ci ws) us vs a b c d (ci xs) f (ci ys) us' vs' a' b' c' d' e' (ci xs') f' (ci ys') K=sel (decide (k=1)) (Ju n (ci ws) us vs fun v=>K v) (sel (decide (k=2)) (Q3q a b c d (ci xs) f (ci ys) us' vs' fun v=>K v) (sel (decide (k=3)) (Q0Q a' b' c' d' e' (ci xs') f' (ci ys') fun v=>K v) (K false))):=fun K=>by
    rw[JC]; unfold JN
    rw[hS,Bool.not_true,Ev.Q5]
   have hW:∀ K:Int→List Int→Bool→Option R,QC k n (ci ws) us vs a b c d (ci xs) f (ci ys) us' vs' a' b' c' d' e' (ci xs') f' (ci ys') K=sel (decide (k=1)) (Jf n (ci ws) us vs fun u v w=>K u v w) (sel (decide (k=2)) (Z4 a b c d (ci xs) f (ci ys) us' vs' fun u v w=>K u v w) (sel (decide (k=3)) (Z3 a' b' c' d' e' (ci xs') f' (ci ys') fun u v w=>K u v w) (K 0 [] false))):=fun K=>by
    rw[ZM]; unfold ZD
    rw[hZ,Bool.not_true,Ev.Q5]
   rcases hk with rfl|rfl|rfl
   ·cases ho:okP n ws us vs with
    | false=>
     refine .inr ⟨fun K=>?_,fun K=>?_⟩
     ·rw[hC,Q0 rfl,Ue _ _ h1 _ _ l1 l2,ho]
     ·rw[hW,Q0 rfl,Q7s _ _ h1 _ _ l1 l2,ho,if_neg (by decide)]
    | true=>
     obtain ⟨hr,hf⟩:=(Bool.and_eq_true _ _).mp (show (emR a b c d (ci xs) f (ci ys) us' vs'&&emF a' b' c' d' e' (ci xs') f' (ci ys'))=true from hs)
     obtain ⟨rfl,rfl,rfl,rfl,e1,rfl,e2,rfl,rfl⟩:=QAl hr
     obtain ⟨rfl,rfl,rfl,rfl,rfl,e3,rfl,e4⟩:=QAm hf
     obtain ⟨l,rfl,rfl,hl,rfl,rfl⟩:=QuP ho h1.1
     rw[e1,e2,e3,e4]
     exact .inl ⟨l,by omega,.plain⟩
   ·by_cases ho:∃ l:List Bool,l.length≤1048576∧IsR l a b c d (ci xs) f (ci ys) us' vs'
    ·obtain ⟨l,hl,r1,r2,r3,r4,r5,r6,r7,r8,r9⟩:=ho
     obtain ⟨hr,hf⟩:=(Bool.and_eq_true _ _).mp (show (emP n (ci ws) us vs&&emF a' b' c' d' e' (ci xs') f' (ci ys'))=true from hs)
     obtain ⟨rfl,e1,rfl,rfl⟩:=QAk hr
     obtain ⟨rfl,rfl,rfl,rfl,rfl,e3,rfl,e4⟩:=QAm hf
     rw[e1,e3,e4,r1,r2,r3,r4,r5,r6,r7,r8,r9]
     exact .inl ⟨l,by omega,.rrr⟩
    ·have no:NotR a b c d xs f ys us' vs':=⟨h2,h3,l5,l6,l3,l4,fun l hl r=>ho ⟨l,hl,r⟩⟩
     refine .inr ⟨fun K=>?_,fun K=>?_⟩
     ·rw[hC,Q1 (by decide),Q0 rfl,Qyv no]
     ·rw[hW,Q1 (by decide),Q0 rfl,Qvk no]
   ·by_cases ho:∃ l:List Bool,l.length≤3000∧IsF a' b' c' d' e' xs' f' ys' l
    ·obtain ⟨l,hl,f1,f2,f3,f4,f5,f6,f7,f8⟩:=ho
     subst f1 f2 f3 f4 f5 f6 f7 f8
     obtain ⟨hr,hf⟩:=(Bool.and_eq_true _ _).mp (show (emP n (ci ws) us vs&&emR a b c d (ci xs) f (ci ys) us' vs')=true from hs)
     obtain ⟨rfl,e1,rfl,rfl⟩:=QAk hr
     obtain ⟨rfl,rfl,rfl,rfl,e2,rfl,e3,rfl,rfl⟩:=QAl hf
     rw[e1,e2,e3]
     exact .inl ⟨l,hl,.fano⟩
    ·have no:∀ l:List Bool,l.length≤3000→¬IsF a' b' c' d' e' xs' f' ys' l:=fun l hl hy=>ho ⟨l,hl,hy⟩
     refine .inr ⟨fun K=>?_,fun K=>?_⟩
     ·rw[hC,Q1 (by decide),Q1 (by decide),Q0 rfl,Qvd n3 h4 l7 h5 no]
     ·rw[hW,Q1 (by decide),Q1 (by decide),Q0 rfl,QkN _ _ _ _ _ _ _ _ n3 h4 l7 h5 no]
 ·refine .inr ⟨fun K=>?_,fun K=>?_⟩
  ·rw[JC]; unfold JN
   rw[hS,Q1 (fun h=>hk (.inl h)),Q1 (fun h=>hk (.inr (.inl h))),Q1 (fun h=>hk (.inr (.inr h)))]
   cases spV k (emP n (ci ws) us vs) (emR a b c d (ci xs) f (ci ys) us' vs') (emF a' b' c' d' e' (ci xs') f' (ci ys'))<;>rfl
  ·rw[ZM]; unfold ZD
   rw[hZ,Q1 (fun h=>hk (.inl h)),Q1 (fun h=>hk (.inr (.inl h))),Q1 (fun h=>hk (.inr (.inr h)))]
   cases zeV k (emP n (ci ws) us vs) (emR a b c d (ci xs) f (ci ys) us' vs') (emF a' b' c' d' e' (ci xs') f' (ci ys'))<;>rfl
theorem QsD{l:List Bool}(hl:l.length≤3000){k n:Int}{ws us vs:List Int}{a b c d:Int}{xs:List Int}{f:Int}{ys us' vs':List Int}{a' b' c' d' e':Int}{xs':List Int}{f':Int}{ys':List Int}
  (r:IsV l k n ws us vs a b c d xs f ys us' vs' a' b' c' d' e' xs' f' ys') (bit:Bool) (i:Int) (K:Int→Int→Option R):Ut k n ws us vs a b c d xs f ys us' vs' a' b' c' d' e' xs' f' ys' bit i K=K (Qrq l bit i).1 (Qrq l bit i).2:=by
 have hl2:l.length≤1048576:=by omega
 rw[Q0O]; unfold Jl Qrq
 rw[Q5J hl r,Bool.not_true,Ev.Q5,Q4k]; unfold YU
 by_cases h1:i<0
 ·rw[if_pos h1]
  exact Qlh l hl2 bit i h1 _ _ l.length NR 0 (by omega) (by have:=QT; omega)
 obtain ⟨q,rfl⟩:∃ q:Nat,i=(q:Int):=⟨i.toNat,by omega⟩
 rw[if_neg h1,Int.toNat_natCast]
 refine (QhS l hl2 bit q _ _ l.length NR 0 (by omega) (by have:=QT; omega)).trans ?_
 unfold QnF
 cases QqD l bit q 0 l.length<;>rfl
section
variable {k n : Int} {ws us vs : List Int} {a b c d : Int} {xs : List Int} {f : Int} {ys us' vs' : List Int} {a' b' c' d' e' : Int} {xs' : List Int} {f' : Int} {ys' : List Int}
theorem QNN(hc:∀ K:Bool→Option R,ZK k n ws us vs a b c d xs f ys us' vs' a' b' c' d' e' xs' f' ys' K=K false)(hw:∀ K:Int→List Int→Bool→Option R,QC k n ws us vs a b c d xs f ys us' vs' a' b' c' d' e' xs' f' ys' K=K 0 [] false):
  (∀ i,∀ K:Bool→Int→Option R,Q3s k n ws us vs a b c d xs f ys us' vs' a' b' c' d' e' xs' f' ys' i K=K false 2)∧(∀ i,∀ K:Bool→Int→Option R,Us k n ws us vs a b c d xs f ys us' vs' a' b' c' d' e' xs' f' ys' i K=K false 2) ∧
  (∀ q i,∀ K:Int→Int→Option R,Q8h k n ws us vs a b c d xs f ys us' vs' a' b' c' d' e' xs' f' ys' q i K=K 0 2)∧(∀ q i,∀ K:Int→Int→Option R,JG k n ws us vs a b c d xs f ys us' vs' a' b' c' d' e' xs' f' ys' q i K=K 0 2) ∧
  (∀ q i,∀ K:Int→Int→Option R,Jv k n ws us vs a b c d xs f ys us' vs' a' b' c' d' e' xs' f' ys' q i K=K 0 2)∧(∀ q i,∀ K:Int→Int→Option R,Ut k n ws us vs a b c d xs f ys us' vs' a' b' c' d' e' xs' f' ys' q i K=K 0 2) ∧
  (∀ K:Int→List Int→Option R,Q5c k n ws us vs a b c d xs f ys us' vs' a' b' c' d' e' xs' f' ys' K=K 0 [])∧(∀ K:Int→List Int→Option R,JH k n ws us vs a b c d xs f ys us' vs' a' b' c' d' e' xs' f' ys' K=K 0 []):=by
 refine ⟨fun i K=>?_,fun i K=>?_,fun b i K=>?_,fun b i K=>?_,fun b i K=>?_,fun b i K=>?_,fun K=>?_,fun K=>?_⟩
 ·rw[Q9P]; unfold Q7K; rw[hc,Bool.not_false,Ev.Q8]
 ·rw[Q0N]; unfold Jk; rw[hw,Bool.not_false,Ev.Q8]
 ·rw[Qcp]; unfold Qby; rw[hc,Bool.not_false,Ev.Q8]
 ·rw[Q2j]; unfold Q0q; rw[hw,Bool.not_false,Ev.Q8]
 ·rw[Q9V]; unfold Q7O; rw[hc,Bool.not_false,Ev.Q8]
 ·rw[Q0O]; unfold Jl; rw[hw,Bool.not_false,Ev.Q8]
 ·rw[Qcu]; unfold QbA; rw[hc,Bool.not_false,Ev.Q8]
 ·rw[Q2k]; unfold Q0r; rw[hw]
theorem QAX(hc:∀ K:Bool→Option R,ZK k n ws us vs a b c d xs f ys us' vs' a' b' c' d' e' xs' f' ys' K=K false)(hw:∀ K:Int→List Int→Bool→Option R,QC k n ws us vs a b c d xs f ys us' vs' a' b' c' d' e' xs' f' ys' K=K 0 [] false):
  (∀ K:Int→Option R,Q0w k n ws us vs a b c d xs f ys us' vs' a' b' c' d' e' xs' f' ys' K=K 0)∧(∀ K:Bool→Option R,Ye k n ws us vs a b c d xs f ys us' vs' a' b' c' d' e' xs' f' ys' K=K false)∧∀ K:Int→Option R,Yo k n ws us vs a b c d xs f ys us' vs' a' b' c' d' e' xs' f' ys' K=K 0:=by
 have hd:∀ K:Bool→Option R,Ye k n ws us vs a b c d xs f ys us' vs' a' b' c' d' e' xs' f' ys' K=K false:=fun K=>by
  rw[UI]; unfold U7; rw[hw]
 refine ⟨fun K=>?_,hd,fun K=>?_⟩
 ·rw[J6]; unfold Jw; rw[hc,Bool.not_false,Ev.Q8]
 ·rw[Y4]; unfold ZZ; rw[hd,Bool.not_false,Ev.Q8]
theorem QJ3(K:Bool→Option R)(c x:Bool):sel c (K false) (K x)=K (!c&&x):=by cases c<;>rfl
theorem QJ4(K:Bool→Option R)(c x:Bool):sel c (K x) (K false)=K (c&&x):=by cases c<;>rfl
end
def smV(n:Int)(ws us vs:List Int)(a b:Int)(xs ys us' vs':List Int)(a' b' c':Int)(xs' ys':List Int):Bool:=
 !decide (3000<n)&&(!decide (3000<((ws.length:Nat):Int))&&(!decide (3000<((us.length:Nat):Int))&&(!decide (3000<((vs.length:Nat):Int))&&(!decide (3000<a)&&(!decide (3000<b)&&(!decide (3000<((xs.length:Nat):Int))&&(!decide (3000<((ys.length:Nat):Int))&&(!decide (3000<((us'.length:Nat):Int))&&(!decide (3000<((vs'.length:Nat):Int))&&(decide (a'≤3000)&&(decide (b'≤3000)&&(decide (c'≤3000)&&(decide (((xs'.length:Nat):Int)≤3000)&&(decide (((ys'.length:Nat):Int)≤3000)&&true))))))))))))))
theorem Qyy(k n:Int)(ws us vs:List Int)(a b c d:Int)(xs:List Int)(f:Int)(ys us' vs':List Int)(a' b' c' d' e':Int)(xs':List Int)(f':Int)(ys':List Int):
  ∃ t:Bool,(∀ K:Bool→Option R,Q1a k n ws us vs a b c d xs f ys us' vs' a' b' c' d' e' xs' f' ys' K=K t)∧(t=true→n≤3000∧ws.length≤3000∧us.length≤3000∧vs.length≤3000∧a≤3000∧xs.length≤3000∧ys.length≤3000∧us'.length≤3000∧vs'.length≤3000∧a'≤3000∧xs'.length≤3000∧ys'.length≤3000):=by
 refine ⟨smV n ws us vs a b xs ys us' vs' a' b' c' xs' ys',fun K=>?_,?_⟩
 ·rw[Q8b]; unfold Q3D
  rw[Q8a]; unfold Q3C
  rw[Q53]; unfold Q0M
  rw[Q52]; unfold Q0L
  rw[Q51]; unfold Q0K
  simp only[QJ3 K,QJ4 K]
  rfl
 ·intro h
  simp[smV]at h
  omega
theorem Qru(k n:Int)(ws:List Nat)(us vs:List Int)(a b c d:Int)(xs:List Nat)(f:Int)(ys:List Nat)(us' vs':List Int)(a' b' c' d' e':Int)(xs':List Nat)(f':Int)(ys':List Nat)(h1:∀ w∈ws,w<2 ^ 64)(h2:∀ w∈xs,w<2 ^ 64)(h3:∀ w∈ys,w<2 ^ 64)(h4:∀ w∈xs',w<2 ^ 64)(h5:∀ w∈ys',w<2 ^ 64)(bit:Bool)(i:Int)(hi : -9223372036854775808≤i)(hi2:i≤9223372036854775807)(K:Bool→Option R):
  Q0c k n (ci ws) us vs a b c d (ci xs) f (ci ys) us' vs' a' b' c' d' e' (ci xs') f' (ci ys') bit i K=K true:=by
 rw[Q22]; unfold Jm
 obtain ⟨t,hs,hb⟩:=Qyy (R:=R) k n (ci ws) us vs a b c d (ci xs) f (ci ys) us' vs' a' b' c' d' e' (ci xs') f' (ci ys')
 rw[hs]
 cases t with
 | false=>rw[Bool.not_false,Ev.Q8,Q2W]
 | true=>
  obtain ⟨b1,b2,b3,b4,b5,b6,b7,b8,b9,b10,b11,b12⟩:=hb rfl
  rw[Qb]at b2 b6 b7 b11 b12
  rw[Bool.not_true,Ev.Q5]
  rcases QJ2 (R:=R) k n ws us vs a b c d xs f ys us' vs' a' b' c' d' e' xs' f' ys' ⟨h1,by omega⟩ ⟨h2,by omega⟩ ⟨h3,by omega⟩ ⟨h4,by omega⟩ ⟨h5,by omega⟩ (by omega) (by omega) (by omega) (by omega) (by omega) (by omega) (by omega) b1 b5 b10 with ⟨l,hl,r⟩|⟨hc,hw⟩
  ·obtain ⟨z,z1,z2⟩:=QoM (R:=R) hl r
   rw[QfJ hl r i hi hi2,YF]; unfold Z7
   rw[Qss hl r,Qli hl r,Qv9 hl r,Q4F hl r,QsD hl r,Qx6,Qt rfl,Qt rfl,Qt rfl,Qt rfl,Qt rfl,YC]; unfold QZ
   rw[Yw hl r,Qnu hl r,beq_self_eq_true,Ev.Q8,z1,z2,Q0 rfl,Qlj hl r,Qv8 hl r,Zd _ _ _ _ (by rw[Qb,Qn]; omega),decide_eq_true ⟨rfl,rfl⟩,Ev.Q8,Q2W]
  ·obtain ⟨g1,g2,g3,g4,g5,g6,g7,g8⟩:=QNN hc hw
   obtain ⟨z1,hd,z2⟩:=QAX hc hw
   rw[g1,YF]; unfold Z7
   rw[g2,g3,g4,g5,g6,Qx6,Qt rfl,Qt rfl,Qt rfl,Qt rfl,Qt rfl,YC]; unfold QZ
   rw[hc,hd,beq_self_eq_true,Ev.Q8,z1,z2,Q0 rfl,g7,g8,Zd _ _ _ _ (by simp),decide_eq_true ⟨rfl,rfl⟩,Ev.Q8,Q2W]
abbrev QRx:List Sh:=[.int .i64,.int .i64,.ints .u64,.ints .i64,.ints .i64,.int .i64,.int .i64,.int .i64,.int .i64,.ints .u64,.int .i64,.ints .u64,.ints .i64,.ints .i64,.int .i64,.int .i64,.int .i64,.int .i64,.int .i64,.ints .u64,.int .i64,.ints .u64]
abbrev Qlu:List Pa:=[.st QRx,.one .bool,.one (.int .i64)]
theorem QsE:∀ vs,Qtg Qlu vs→sp5 vs AV some=some (.bool true):=by
 rintro vs ⟨_,_,rfl,hr,_,_,rfl,⟨bit,rfl⟩,_,_,rfl,⟨i,rfl,hi⟩,rfl⟩
 obtain ⟨_,rfl,_,_,rfl,⟨k,rfl,_⟩,_,_,rfl,⟨n,rfl,_⟩,_,_,rfl,⟨ws,rfl,_,h1⟩,_,_,rfl,⟨us,rfl,_,_⟩,_,_,rfl,⟨vs,rfl,_,_⟩,_,_,rfl,⟨a,rfl,_⟩,_,_,rfl,⟨b,rfl,_⟩,_,_,rfl,⟨c,rfl,_⟩,_,_,rfl,⟨d,rfl,_⟩,_,_,rfl,⟨xs,rfl,_,h2⟩,_,_,rfl,⟨f,rfl,_⟩,_,_,rfl,⟨ys,rfl,_,h3⟩,_,_,rfl,⟨us',rfl,_,_⟩,_,_,rfl,⟨vs',rfl,_,_⟩,_,_,rfl,⟨a',rfl,_⟩,_,_,rfl,⟨b',rfl,_⟩,_,_,rfl,⟨c',rfl,_⟩,_,_,rfl,⟨d',rfl,_⟩,_,_,rfl,⟨e',rfl,_⟩,_,_,rfl,⟨xs',rfl,_,h4⟩,_,_,rfl,⟨f',rfl,_⟩,_,_,rfl,⟨ys',rfl,_,h5⟩,rfl⟩:=hr
 obtain ⟨ws,rfl,g1⟩:=QwO fun x h=>Qoh (h1 x h)
 obtain ⟨xs,rfl,g2⟩:=QwO fun x h=>Qoh (h2 x h)
 obtain ⟨ys,rfl,g3⟩:=QwO fun x h=>Qoh (h3 x h)
 obtain ⟨xs',rfl,g4⟩:=QwO fun x h=>Qoh (h4 x h)
 obtain ⟨ys',rfl,g5⟩:=QwO fun x h=>Qoh (h5 x h)
 exact Qru k n ws us vs a b c d xs f ys us' vs' a' b' c' d' e' xs' f' ys' g1 g2 g3 g4 g5 bit i (Qy9 hi).1 (Qy9 hi).2 _
end
end Go.Proofs.YtofblchonjfdbaaGreatDoor
