import Derived.Test.YtofblchonjfdbaaGreatDoorIntsRefO
import Derived.Test.YtofblchonjfdbaaGreatDoorFanoRefC
import Derived.Test.YtofblchonjfdbaaGreatDoorEvC
namespace Go.Proofs.YtofblchonjfdbaaGreatDoor
open Go Go.Ev
section
variable {R : Type}
theorem Qog(n:Int)(w:List Int)(K:Bool→Option R):Yp n w K=K (decide (n=0)&&decide (w=[])):=by
 rw[Qaa]; unfold Q5y
 by_cases h:n=0
 ·rw[Q0 h,decide_eq_true h]
  cases w with
  | nil=>rfl
  | cons a w=>rw[decide_eq_false (show ¬(((a::w).length:Nat):Int)=0 by rw[List.length_cons]; omega)]; rfl
 ·rw[Q1 h,decide_eq_false h]; rfl
theorem Qub(a b n:Int)(w:List Int)(K:Bool→Option R):Jd a b n w K=K (decide (a=0)&&(decide (b=0)&&(decide (n=0)&&decide (w=[])))):=by
 rw[Q8x]; unfold Q3X
 by_cases h:a=0
 ·rw[Q0 h,decide_eq_true h]
  by_cases h2:b=0
  ·rw[Q0 h2,decide_eq_true h2,Qog]; rfl
  ·rw[Q1 h2,decide_eq_false h2]; rfl
 ·rw[Q1 h,decide_eq_false h]; rfl
def zeV(k:Int)(p r f:Bool):Bool:=(p||decide (k=1))&&((r||decide (k=2))&&(f||decide (k=3)))
theorem QKi(p r f:Bool)(k x1:Int)(x2 x3 x4:List Int)(x5 x6 x7 x8:Int)(x9:List Int)(x10:Int)(x11 x12 x13:List Int)(x14 x15 x16 x17 x18:Int)(x19:List Int)(x20:Int)(x21:List Int)(K:Bool→Option R):
  ZH p r f k x1 x2 x3 x4 x5 x6 x7 x8 x9 x10 x11 x12 x13 x14 x15 x16 x17 x18 x19 x20 x21 K=K (zeV k p r f):=by
 rw[Q6p]; unfold Q1P zeV
 generalize decide (k=1)=k1
 generalize decide (k=2)=k2
 generalize decide (k=3)=k3
 cases p<;>cases r<;>cases f<;>cases k1<;>cases k2<;>cases k3<;>rfl
theorem QKj(p r:Bool)(k x1:Int)(x2 x3 x4:List Int)(x5 x6 x7 x8:Int)(x9:List Int)(x10:Int)(x11 x12 x13:List Int)(a b c d e:Int)(xs:List Int)(f:Int)(ys:List Int)(K:Bool→Option R):
  ZI p r k x1 x2 x3 x4 x5 x6 x7 x8 x9 x10 x11 x12 x13 a b c d e xs f ys K=K (zeV k p r (emF a b c d e xs f ys)):=by
 rw[Q6q]; unfold UX
 simp only[QKi,Qub,Qog]
 unfold emF
 by_cases h1:a=0
 ·rw[Q0 h1,decide_eq_true h1]
  by_cases h2:b=0
  ·rw[Q0 h2,decide_eq_true h2]
   generalize decide (c=0)=t1
   generalize decide (d=0)=t2
   generalize decide (e=0)=t3
   generalize decide (xs=[])=t4
   generalize (decide (f=0)&&decide (ys=[]))=t5
   cases t1<;>cases t2<;>cases t3<;>cases t4<;>cases t5<;>rfl
  ·rw[Q1 h2,decide_eq_false h2,Bool.false_and,Bool.and_false,Bool.and_false]
 ·rw[Q1 h1,decide_eq_false h1,Bool.false_and,Bool.and_false]
theorem QKk(p:Bool)(k x1:Int)(x2 x3 x4:List Int)(a b c d:Int)(xs:List Int)(f:Int)(ys us vs:List Int)(hu:us.length<4000000000)(hv:vs.length<4000000000)(a' b' c' d' e':Int)(xs':List Int)(f':Int)(ys':List Int)(K:Bool→Option R):
  U8 p k x1 x2 x3 x4 a b c d xs f ys us vs a' b' c' d' e' xs' f' ys' K=K (zeV k p (emR a b c d xs f ys us vs) (emF a' b' c' d' e' xs' f' ys')):=by
 rw[Q6r]; unfold UY
 simp only[QKj,Qub,Qog,Qm,Qqq hu hv]
 unfold emR
 by_cases h1:a=0
 ·rw[Q0 h1,decide_eq_true h1]
  generalize decide (b=0)=t1
  generalize decide (c=0)=t2
  generalize decide (d=0)=t3
  generalize decide (xs=[])=t4
  generalize (decide (f=0)&&decide (ys=[]))=t5
  generalize (decide (us=[])&&decide (vs=[]))=t6
  cases t1<;>cases t2<;>cases t3<;>cases t4<;>cases t5<;>cases t6<;>rfl
 ·rw[Q1 h1,decide_eq_false h1,Bool.false_and,Bool.and_false,Bool.and_false]
theorem Yv(k n:Int)(ws us vs:List Int)(hu:us.length<4000000000)(hv:vs.length<4000000000)
  (a b c d:Int) (xs:List Int) (f:Int) (ys us' vs':List Int) (hu':us'.length<4000000000) (hv':vs'.length<4000000000) (a' b' c' d' e':Int) (xs':List Int) (f':Int) (ys':List Int) (K:Bool→Option R) :
  Q2L k n ws us vs a b c d xs f ys us' vs' a' b' c' d' e' xs' f' ys' K=K (zeV k (emP n ws us vs) (emR a b c d xs f ys us' vs') (emF a' b' c' d' e' xs' f' ys')):=by
 rw[Qab]; unfold Q5z
 rw[Qog]
 simp only[Qm,QKk _ _ _ _ _ _ _ _ _ _ _ _ _ _ _ hu' hv',Qqq hu hv]
 unfold emP
 cases (decide (n=0)&&decide (ws=[]))<;>rfl
theorem QAk{n:Int}{ws us vs:List Int}(h:emP n ws us vs=true):n=0∧ws=[]∧us=[]∧vs=[]:=by
 simpa[emP,and_assoc]using h
theorem QAl{a b c d:Int}{xs:List Int}{f:Int}{ys us vs:List Int}(h:emR a b c d xs f ys us vs=true):a=0∧b=0∧c=0∧d=0∧xs=[]∧f=0∧ys=[]∧us=[]∧vs=[]:=by
 simp[emR,and_assoc]at h
 obtain ⟨h1,h2,h3,h4,h5,h6,h7,h8,h9⟩:=h
 exact ⟨h7,h8,h9,h1,h2,h3,h4,h5,h6⟩
theorem QAm{a b c d e:Int}{xs:List Int}{f:Int}{ys:List Int}(h:emF a b c d e xs f ys=true):a=0∧b=0∧c=0∧d=0∧e=0∧xs=[]∧f=0∧ys=[]:=by
 simp[emF,and_assoc]at h
 obtain ⟨h1,h2,h3,h4,h5,h6,h7,h8⟩:=h
 exact ⟨h5,h6,h7,h8,h1,h2,h3,h4⟩
section
variable {l : List Bool} (hl : l.length ≤ 3000) {k n : Int} {ws us vs : List Int} {a b c d : Int} {xs : List Int} {f : Int} {ys us' vs' : List Int} {a' b' c' d' e' : Int} {xs' : List Int} {f' : Int} {ys' : List Int}
 (r:IsV l k n ws us vs a b c d xs f ys us' vs' a' b' c' d' e' xs' f' ys')
include hl r
theorem Q5J(K:Int→List Int→Bool→Option R):QC k n ws us vs a b c d xs f ys us' vs' a' b' c' d' e' xs' f' ys' K=K (l.length:Int) (ci (wds l)) true:=by
 have hl2:l.length≤1048576:=by omega
 rw[ZM]; unfold ZD
 cases r with
 | plain=>
  rw[Yv _ _ _ _ _ (by rw[ZB]; omega) (by rw[Yg]; omega) _ _ _ _ _ _ _ _ _ (by decide) (by decide)]
  have e:zeV 1 (emP (l.length:Int) (ci (wds l)) (Qcy l) (Qf2 l)) (emR 0 0 0 0 [] 0 [] [] []) (emF 0 0 0 0 0 [] 0 [])=true:=by
   unfold zeV; rw[show emR 0 0 0 0 [] 0 [] [] []=true from rfl,show emF 0 0 0 0 0 [] 0 []=true from rfl]; simp
  rw[e,Bool.not_true,Ev.Q5,Q0 rfl,Q7s _ _ (Q6M hl2) _ _ (by rw[ZB]; omega) (by rw[Yg]; omega),if_pos (QkH l hl2)]
 | rrr=>
  obtain ⟨_,_,s3,s4⟩:=IsR.short hl2
  rw[Yv _ _ _ _ _ (by decide) (by decide) _ _ _ _ _ _ _ _ _ s3 s4]
  generalize hE:emR (l.length:Int) _ _ _ _ _ _ _ _=E
  have e:zeV 2 (emP 0 [] [] []) E (emF 0 0 0 0 0 [] 0 [])=true:=by
   unfold zeV; rw[show emP 0 [] [] []=true from rfl,show emF 0 0 0 0 0 [] 0 []=true from rfl]; simp
  rw[e,Bool.not_true,Ev.Q5,Q1 (by decide),Q0 rfl,Q8P hl2 ⟨rfl,rfl,rfl,rfl,rfl,rfl,rfl,rfl,rfl⟩]
 | fano=>
  rw[Yv _ _ _ _ _ (by decide) (by decide) _ _ _ _ _ _ _ _ _ (by decide) (by decide)]
  generalize hE:emF (l.length:Int) _ _ _ _ _ _ _=E
  have e:zeV 3 (emP 0 [] [] []) (emR 0 0 0 0 [] 0 [] [] []) E=true:=by
   unfold zeV; rw[show emP 0 [] [] []=true from rfl,show emR 0 0 0 0 [] 0 [] [] []=true from rfl]; simp
  rw[e,Bool.not_true,Ev.Q5,Q1 (by decide),Q1 (by decide),Q0 rfl,Q8U l hl]
theorem Qnu(K:Bool→Option R):Ye k n ws us vs a b c d xs f ys us' vs' a' b' c' d' e' xs' f' ys' K=K true:=by
 have hw:=Q5J (R:=R) hl r
 rw[UI]; unfold U7
 rw[hw]
theorem Qv8(K:Int→List Int→Option R):JH k n ws us vs a b c d xs f ys us' vs' a' b' c' d' e' xs' f' ys' K=K (l.length:Int) (ci (wds l)):=by
 have hw:=Q5J (R:=R) hl r
 rw[Q2k]; unfold Q0r
 rw[hw]
theorem Qss(i:Int)(K:Bool→Int→Option R):Us k n ws us vs a b c d xs f ys us' vs' a' b' c' d' e' xs' f' ys' i K=K (Qsz l i).1 (Qsz l i).2:=by
 have hl2:l.length≤1048576:=by omega
 have hw:=Q5J (R:=R) hl r
 rw[Q0N]; unfold Jk
 rw[hw,Bool.not_true,Ev.Q5,QkI _ _ (Q6M hl2)]
 have e:QhV (l.length:Int) (wds l) i=Qsz l i:=by
  unfold QhV Qsz
  rw[if_pos (Yl l hl2)]
  split
  ·rfl
  ·rw[ZU]
 rw[e]
theorem Qv9(bit:Bool)(i:Int)(K:Int→Int→Option R):JG k n ws us vs a b c d xs f ys us' vs' a' b' c' d' e' xs' f' ys' bit i K=K (QuM l bit i).1 (QuM l bit i).2:=by
 have hl2:l.length≤1048576:=by omega
 have hw:=Q5J (R:=R) hl r
 rw[Q2j]; unfold Q0q QuM
 rw[hw,Bool.not_true,Ev.Q5]
 by_cases h1:i<0
 ·rw[Q0 h1,if_pos (.inl h1)]
 by_cases h2:(l.length:Int)<i
 ·rw[Q1 h1,Q0 h2,if_pos (.inr h2)]
 obtain ⟨i,rfl⟩:∃ b:Nat,i=(b:Int):=⟨i.toNat,by omega⟩
 have hc:=Q1V l i
 rw[Q1 h1,Q1 h2,if_neg (by omega),Q66]; unfold Q1n
 rw[Q49 l hl2 _ (by omega),Int.toNat_natCast]
 cases bit with
 | true=>rfl
 | false=>
  rw[Bool.not_false,Ev.Q8,Qp (by omega) (by omega)]
  congr 1; omega
theorem QoM:∃ z:Int,(∀ K:Int→Option R,Q0w k n ws us vs a b c d xs f ys us' vs' a' b' c' d' e' xs' f' ys' K=K z)∧∀ K:Int→Option R,Yo k n ws us vs a b c d xs f ys us' vs' a' b' c' d' e' xs' f' ys' K=K z:=by
 have hl2:l.length≤1048576:=by omega
 have hc:=Yw (R:=R) hl r
 have hd:=Qnu (R:=R) hl r
 cases r with
 | plain=>
  refine ⟨Qx1 (l.length:Int) (wds l) (Qcy l) (Qf2 l),fun K=>?_,fun K=>?_⟩
  rotate_left
  ·rw[Y4]; unfold ZZ
   rw[hd,Bool.not_true,Ev.Q5,Q0 rfl,Qi8 _ _ (Q6M hl2) _ _ (by rw[ZB]; omega) (by rw[Yg]; omega)]
  ·rw[J6]; unfold Jw
   rw[hc,Bool.not_true,Ev.Q5,Q0 rfl,Qls _ _ (Q6M hl2) _ _ (by rw[ZB]; omega) (by rw[Yg]; omega)]
 | rrr=>
  refine ⟨((QKx l:Nat):Int),fun K=>?_,fun K=>?_⟩
  ·rw[J6]; unfold Jw
   rw[hc,Bool.not_true,Ev.Q5,Q1 (by decide),Q0 rfl,QqG hl2 ⟨rfl,rfl,rfl,rfl,rfl,rfl,rfl,rfl,rfl⟩]
  ·rw[Y4]; unfold ZZ
   rw[hd,Bool.not_true,Ev.Q5,Q1 (by decide),Q0 rfl,Qvl hl2 ⟨rfl,rfl,rfl,rfl,rfl,rfl,rfl,rfl,rfl⟩]
 | fano=>
  refine ⟨(((FL l).length*FV l+(FH l).length+64:Nat):Int),fun K=>?_,fun K=>?_⟩
  rotate_left
  ·rw[Y4]; unfold ZZ
   rw[hd,Bool.not_true,Ev.Q5,Q1 (by decide),Q1 (by decide),Qvm l hl]
  ·rw[J6]; unfold Jw
   rw[hc,Bool.not_true,Ev.Q5,Q1 (by decide),Q1 (by decide),QoO l hl]
end
theorem QhS(l:List Bool)(hl:l.length≤1048576)(bit:Bool)(k:Nat)(K0:Int→Int→Option R)(K1:Unit→Option R):∀ (f N i:Nat),i+f=l.length→f<N →
  Qv K0 K1 N bit (k:Int) ((Qg l bit i:Nat):Int) (i:Int) (l.length:Int) (ci (wds l))=match QqD l bit k i f with|some q=>K0 (q:Int) 0|none=>K1 ()
 | _,0,_,_,h=>by omega
 | 0,N+1,i,h1,_=>by
  simp only[Qv,Yb]
  rw[Q1 (by omega)]; rfl
 | f+1,N+1,i,h1,h2=>by
  simp only[Qv,Yb]
  have hc:Qg l bit (i+1)=Qg l bit i+(l.getD i false==bit).toNat:=rfl
  have hle:=Q0H l bit i
  have ih:=QhS l hl bit k K0 K1 f N (i+1) (by omega) (by omega)
  rw[Q0 (by omega),ZJ _ _ (fun w hw=>Q48 hw) i (by rw[Qn]; omega) (by omega),ZU,QIZ,Q6 (a:=(i:Int)) (by omega) (by omega),show (i:Int)+1=((i+1:Nat):Int) by omega]
  unfold QqD
  by_cases hb:l.getD i false=bit
  ·have hb2:(l.getD i false==bit)=true:=by rw[hb]; exact beq_self_eq_true _
   rw[hb2]at hc
   rw[Qt hb]
   by_cases hk:Qg l bit i=k
   ·rw[Q0 (by omega),if_pos ⟨hb,hk⟩]
   ·rw[Q1 (by omega),if_neg (fun h=>hk h.2),Q6 (by omega) (by omega),show ((Qg l bit i:Nat):Int)+1=((Qg l bit (i+1):Nat):Int) by rw[hc]; rfl]
    exact ih
  ·have hb2:(l.getD i false==bit)=false:=by
    cases h:(l.getD i false==bit) with
    | false=>rfl
    | true=>exact absurd (eq_of_beq h) hb
   rw[hb2]at hc
   rw[Zr hb,if_neg (fun h=>hb h.1),show Qg l bit i=Qg l bit (i+1) by rw[hc]; rfl]
   exact ih
theorem Qlh(l:List Bool)(hl:l.length≤1048576)(bit:Bool)(k:Int)(hk:k<0)(K0:Int→Int→Option R)(K1:Unit→Option R):∀ (f N i:Nat),i+f=l.length→f<N →
  Qv K0 K1 N bit k ((Qg l bit i:Nat):Int) (i:Int) (l.length:Int) (ci (wds l))=K1 ()
 | _,0,_,_,h=>by omega
 | 0,N+1,i,h1,_=>by
  simp only[Qv,Yb]
  rw[Q1 (by omega)]
 | f+1,N+1,i,h1,h2=>by
  simp only[Qv,Yb]
  have hc:Qg l bit (i+1)=Qg l bit i+(l.getD i false==bit).toNat:=rfl
  have hle:=Q0H l bit i
  have ih:=Qlh l hl bit k hk K0 K1 f N (i+1) (by omega) (by omega)
  rw[Q0 (by omega),ZJ _ _ (fun w hw=>Q48 hw) i (by rw[Qn]; omega) (by omega),ZU,QIZ,Q6 (a:=(i:Int)) (by omega) (by omega),show (i:Int)+1=((i+1:Nat):Int) by omega]
  by_cases hb:l.getD i false=bit
  ·have hb2:(l.getD i false==bit)=true:=by rw[hb]; exact beq_self_eq_true _
   rw[hb2]at hc
   rw[Qt hb,Q1 (by omega),Q6 (by omega) (by omega),show ((Qg l bit i:Nat):Int)+1=((Qg l bit (i+1):Nat):Int) by rw[hc]; rfl]
   exact ih
  ·have hb2:(l.getD i false==bit)=false:=by
    cases h:(l.getD i false==bit) with
    | false=>rfl
    | true=>exact absurd (eq_of_beq h) hb
   rw[hb2]at hc
   rw[Zr hb,show Qg l bit i=Qg l bit (i+1) by rw[hc]; rfl]
   exact ih
end
end Go.Proofs.YtofblchonjfdbaaGreatDoor
namespace Go.Proofs.YtofblchonjfdbaaGreatDoor
open Go Go.Ev
section
variable {R : Type}
theorem Q2W(K:Bool→Option R):Zz K=K true:=by
 have w22:wds [false,true,true,false,true]=[22]:=by decide +kernel
 have a2:Qsz [false,true,true,false,true] 4=(true,0):=by decide +kernel
 have a3:QuM [false,true,true,false,true] true 4=(2,0):=by decide +kernel
 have a4:Qrq [false,true,true,false,true] true 2=(4,0):=by decide +kernel
 have a5:Qrq [false,true,true,false,true] false 1=(3,0):=by decide +kernel
 have a6:Qrq [false,true,true,false,true] true 3=(0,3):=by decide +kernel
 have a7:QM 1 []=false:=by decide +kernel
 have hl:[false,true,true,false,true].length≤3000:=by decide
 have hb:=QhT (R:=R) 2 (by decide) [false,true,true,false,true] hl
 generalize hL:[false,true,true,false,true]=L at *
 have hlen:(L.length:Int)=5:=by rw[←hL]; rfl
 rw[w22,hlen]at hb
 rw[Q8j]; unfold Q3H
 refine hb _ _ fun n ws us vs a b c d xs f ys us' vs' a' b' c' d' e' xs' f' ys' r=>?_
 rw[QfJ hl r _ (by decide) (by decide),a2]
 dsimp only
 rw[Q5e]; unfold Ui
 rw[Qli hl r,a3]
 dsimp only
 rw[Q4F hl r,a4]
 dsimp only
 rw[Q4F hl r,a5]
 dsimp only
 rw[Q4F hl r,a6]
 dsimp only
 rw[show ([]:List Int)=ci [] from rfl,QfI 1 [] ⟨by simp,by simp⟩ a7]
 rw[Q0 rfl,Ev.Q8,Q0 rfl,Q0 rfl,Q0 rfl,Q0 rfl,Q0 rfl,Q0 rfl,Q0 rfl,Q0 rfl,Q0 rfl,Yw hl r,Ev.Q8]
 obtain ⟨z,hz,e⟩:=Qst (R:=R) hl r (fun v1l=>sel (decide (0<v1l)) (Q5c 2 n ws us vs a b c d xs f ys us' vs' a' b' c' d' e' xs' f' ys' fun v1m v1n=>QX v1m v1n 5 [22] fun v1o=>K v1o) none)
 refine (show _=_ from e).trans ?_
 rw[Q0 hz,Qlj hl r,w22,hlen,Zd _ _ _ _ (by decide),decide_eq_true ⟨rfl,rfl⟩]
theorem Qx6(a:Bool){X Y:Option R}: sel (!(a==a)) X Y=Y:=by rw[beq_self_eq_true]; rfl
end
end Go.Proofs.YtofblchonjfdbaaGreatDoor
namespace Go.Proofs.YtofblchonjfdbaaGreatDoor
open Go Go.Ev
section
variable {R : Type}
section
variable {l : List Bool} (hl : l.length ≤ 3000) {k n : Int} {ws us vs : List Int} {a b c d : Int} {xs : List Int} {f : Int} {ys us' vs' : List Int} {a' b' c' d' e' : Int} {xs' : List Int} {f' : Int} {ys' : List Int}
 (r:IsV l k n ws us vs a b c d xs f ys us' vs' a' b' c' d' e' xs' f' ys')
include hl r
theorem Qsr(K:Int→Int→List Int→List Int→List Int→Int→Int→Int→Int→List Int→Int→List Int→List Int→List Int→Int→Int→Int→Int→Int→List Int→Int→List Int→Int→Option R):Jc k (l.length:Int) (ci (wds l)) K=K k n ws us vs a b c d xs f ys us' vs' a' b' c' d' e' xs' f' ys' 0:=by
 have hl2:l.length≤1048576:=by omega
 rw[ZS]; unfold Z0
 cases r with
 | plain=>
  rw[Q0 rfl,Q10 _ _ (Q6M hl2),if_pos (Yl l hl2),UA,Qz]; unfold Qx
  rw[Qt rfl]
 | rrr=>
  rw[Q1 (by decide),Q0 rfl,Q7u l hl2,Qz]; unfold Qx
  rw[Qt rfl]
 | fano=>
  rw[Q1 (by decide),Q1 (by decide),Q0 rfl,QgP l hl,Qz]; unfold Qx
  rw[Qt rfl]
theorem Qua(K:Bool→Option R):JU k n ws us vs a b c d xs f ys us' vs' a' b' c' d' e' xs' f' ys' k n ws us vs a b c d xs f ys us' vs' a' b' c' d' e' xs' f' ys' K=K true:=by
 have hl2:l.length≤1048576:=by omega
 obtain ⟨s1,s2,s3,s4⟩:=IsR.short hl2
 have hh:=Quf hl
 rw[Q2K]; unfold Q0C
 cases r with
 | plain=>rw[Q0 rfl,Yx _ _ _ _ _ _ _ _ (by rw[Qb,Qn]; omega) (by rw[ZB]; omega) (by rw[Yg]; omega),decide_eq_true ⟨rfl,rfl⟩,decide_eq_true rfl,decide_eq_true rfl,Bool.and_self,Bool.and_self,Ev.Q8,Yz _ _ _ _ _ _ _ _ _ _ _ _ _ _ _ _ _ _ (by decide) (by decide) (by decide) (by decide),decide_eq_true ⟨rfl,rfl,rfl,rfl,rfl,rfl,rfl,rfl,rfl⟩,Ev.Q8,YA _ _ _ _ _ _ _ _ _ _ _ _ _ _ _ _ (by decide) (by decide),decide_eq_true ⟨rfl,rfl,⟨rfl,rfl,rfl,rfl⟩,rfl,rfl⟩]
 | rrr=>rw[Q0 rfl,Yx _ _ _ _ _ _ _ _ (by decide) (by decide) (by decide),decide_eq_true ⟨rfl,rfl⟩,decide_eq_true rfl,Bool.and_self,Bool.and_self,Ev.Q8,Yz _ _ _ _ _ _ _ _ _ _ _ _ _ _ _ _ _ _ s1 s2 s3 s4,decide_eq_true ⟨rfl,rfl,rfl,rfl,rfl,rfl,rfl,rfl,rfl⟩,Ev.Q8,YA _ _ _ _ _ _ _ _ _ _ _ _ _ _ _ _ (by decide) (by decide),decide_eq_true ⟨rfl,rfl,⟨rfl,rfl,rfl,rfl⟩,rfl,rfl⟩]
 | fano=>rw[Q0 rfl,Yx _ _ _ _ _ _ _ _ (by decide) (by decide) (by decide),decide_eq_true ⟨rfl,rfl⟩,decide_eq_true rfl,Bool.and_self,Bool.and_self,Ev.Q8,Yz _ _ _ _ _ _ _ _ _ _ _ _ _ _ _ _ _ _ (by decide) (by decide) (by decide) (by decide),decide_eq_true ⟨rfl,rfl,rfl,rfl,rfl,rfl,rfl,rfl,rfl⟩,Ev.Q8,YA _ _ _ _ _ _ _ _ _ _ _ _ _ _ _ _ (by rw[Qb]; exact Qy1 hl) (by rw[Qb,Qn]; omega),decide_eq_true ⟨rfl,rfl,⟨rfl,rfl,rfl,rfl⟩,rfl,rfl⟩]
end
theorem QKh (k n : Int) (ws : List Nat) (hw : Ws ws) (h : QM n ws = false ∨ ¬ (1 ≤ k ∧ k ≤ 3)) : ∃ e : Int, (∀ K : Int → Int → List Int → List Int → List Int → Int → Int → Int → Int → List Int → Int → List Int → List Int → List Int → Int → Int → Int → Int → Int → List Int → Int → List Int → Int → Option R, Q0s k n (ci ws) K = K 0 0 [] [] [] 0 0 0 0 [] 0 [] [] [] 0 0 0 0 0 [] 0 [] e) ∧ ∀ K : Int → Int → List Int → List Int → List Int → Int → Int → Int → Int → List Int → Int → List Int → List Int → List Int → Int → Int → Int → Int → Int → List Int → Int → List Int → Int → Option R, Jc k n (ci ws) K = K 0 0 [] [] [] 0 0 0 0 [] 0 [] [] [] 0 0 0 0 0 [] 0 [] e := by
  by_cases h1 : k = 1
  · have ho : QM n ws = false := by
      rcases h with h | h
      · exact h
      · omega
    subst h1
    refine ⟨2, fun K => ?_, fun K => ?_⟩
    · rw [JB]; unfold Uw
      rw [Q0 rfl, Qbh _ _ hw, ho, if_neg (by decide), Zf]; unfold Zo
      rw [Zr (by decide)]
    · rw [ZS]; unfold Z0
      rw [Q0 rfl, Q10 _ _ hw, ho, if_neg (by decide), Qz]; unfold Qx
      rw [Zr (by decide)]
  by_cases h2 : k = 2
  · have ho : QM n ws = false := by
      rcases h with h | h
      · exact h
      · omega
    subst h2
    refine ⟨2, fun K => QfI n ws hw ho K, fun K => ?_⟩
    rw [ZS]; unfold Z0
    rw [Q1 (by decide), Q0 rfl, Qib n ws hw ho, Qz]; unfold Qx
    rw [Zr (by decide)]
  by_cases h3 : k = 3
  · have ho : QM n ws = false := by
      rcases h with h | h
      · exact h
      · omega
    subst h3
    refine ⟨2, fun K => ?_, fun K => ?_⟩
    · rw [JB]; unfold Uw
      rw [Q1 (by decide), Q1 (by decide), Q0 rfl, Qug n ws hw ho, Zf]; unfold Zo
      rw [Zr (by decide)]
    · rw [ZS]; unfold Z0
      rw [Q1 (by decide), Q1 (by decide), Q0 rfl, Qie n ws hw ho, Qz]; unfold Qx
      rw [Zr (by decide)]
  refine ⟨5, fun K => ?_, fun K => ?_⟩
  · rw [JB]; unfold Uw
    rw [Q1 h1, Q1 h2, Q1 h3, Zf]; unfold Zo
    rw [Zr (by decide)]
  · rw [ZS]; unfold Z0
    rw [Q1 h1, Q1 h2, Q1 h3, Qz]; unfold Qx
    rw [Zr (by decide)]
theorem QIe:(∀ K:Int→Option R,Q0w 0 0 [] [] [] 0 0 0 0 [] 0 [] [] [] 0 0 0 0 0 [] 0 [] K=K 0)∧(∀ K:Int→Option R,Yo 0 0 [] [] [] 0 0 0 0 [] 0 [] [] [] 0 0 0 0 0 [] 0 [] K=K 0)∧∀ K:Bool→Option R,JU 0 0 [] [] [] 0 0 0 0 [] 0 [] [] [] 0 0 0 0 0 [] 0 [] 0 0 [] [] [] 0 0 0 0 [] 0 [] [] [] 0 0 0 0 0 [] 0 [] K=K true:=by
 have hS:=Q0D (R:=R) 0 0 [] [] [] (by decide) (by decide) 0 0 0 0 [] 0 [] [] [] (by decide) (by decide) 0 0 0 0 0 [] 0 []
 have hZ:=Yv (R:=R) 0 0 [] [] [] (by decide) (by decide) 0 0 0 0 [] 0 [] [] [] (by decide) (by decide) 0 0 0 0 0 [] 0 []
 refine ⟨fun K=>?_,fun K=>?_,fun K=>?_⟩
 ·rw[J6]; unfold Jw
  rw[JC]; unfold JN
  rw[hS]; rfl
 ·rw[Y4]; unfold ZZ
  rw[UI]; unfold U7
  rw[ZM]; unfold ZD
  rw[hZ]; rfl
 ·rw[Q2K]; unfold Q0C
  rw[Q0 rfl,Yx _ _ _ _ _ _ _ _ (by decide) (by decide) (by decide),decide_eq_true ⟨rfl,rfl⟩,decide_eq_true rfl,Bool.and_self,Bool.and_self,Ev.Q8,Yz _ _ _ _ _ _ _ _ _ _ _ _ _ _ _ _ _ _ (by decide) (by decide) (by decide) (by decide),decide_eq_true ⟨rfl,rfl,rfl,rfl,rfl,rfl,rfl,rfl,rfl⟩,Ev.Q8,YA _ _ _ _ _ _ _ _ _ _ _ _ _ _ _ _ (by decide) (by decide),decide_eq_true ⟨rfl,rfl,⟨rfl,rfl,rfl,rfl⟩,rfl,rfl⟩]
theorem Qqp(k n:Int)(ws:List Nat)(hw:∀ w∈ws,w<2 ^ 64)(K:Bool→Option R):JF k n (ci ws) K=K true:=by
 rw[Q1m]; unfold J3
 by_cases h1:3000<n
 ·rw[Q0 h1,Q2W]
 rw[Q1 h1,Qb]
 by_cases h2:3000<((ws.length:Nat):Int)
 ·rw[Q0 h2,Q2W]
 have hW:Ws ws:=⟨hw,by omega⟩
 rw[Q1 h2,Q0a]; unfold ZV
 by_cases hg:QM n ws=true∧(1≤k∧k≤3)
 ·obtain ⟨l,rfl,rfl,h5⟩:=Q3t hg.1 hw
  have hl:l.length≤3000:=by omega
  refine QhT k hg.2 l hl _ _ fun n ws us vs a b c d xs f ys us' vs' a' b' c' d' e' xs' f' ys' r=>?_
  obtain ⟨z,z1,z2⟩:=QoM (R:=R) hl r
  rw[Qsr hl r,Qua hl r,Ev.Q8,Q0 rfl,z1,z2,Q0 rfl,Q2W]
 ·obtain ⟨e,e1,e2⟩:=QKh (R:=R) k n ws hW (by
   cases hok:QM n ws with
   | false=>exact .inl rfl
   | true=>exact .inr fun h=>hg ⟨hok,h⟩)
  obtain ⟨z1,z2,z3⟩:=QIe (R:=R)
  rw[e1,e2,z3,Ev.Q8,Q0 rfl,z1,z2,Q0 rfl,Q2W]
abbrev QhR:List Pa:=[.one (.int .i64),.st QQT]
theorem Qre:∀ vs,Qtg QhR vs→sp4 vs AV some=some (.bool true):=by
 rintro vs ⟨_,_,rfl,⟨k,rfl,_⟩,_,_,rfl,hr,rfl⟩
 obtain ⟨n,ws,rfl,_,hw⟩:=QKw hr
 exact Qqp k n ws hw _
end
end Go.Proofs.YtofblchonjfdbaaGreatDoor
