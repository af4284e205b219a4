import Derived.Test.YtofblchonjfdbaaGreatDoorW12
import Derived.Test.YtofblchonjfdbaaGreatDoorW14
import Derived.Test.YtofblchonjfdbaaGreatDoorWA
import Derived.Test.YtofblchonjfdbaaGreatDoorRrrC
namespace Go.Proofs.YtofblchonjfdbaaGreatDoor
open Go Go.Ev
section
variable {R : Type}
def Qou(ws:List Nat)(m:Nat):List Int:=(List.range m).map fun i=>((pcb ws (512*i):Nat):Int)
def QqQ(ws:List Nat)(m:Nat):List Int:=(List.range m).map fun j=>((pcb ws (64*j):Nat):Int)-((pcb ws (512*(j/8)):Nat):Int)
theorem Q8N(ws:List Nat)(m:Nat):(Qou ws m).length=m:=by simp[Qou]
theorem Qcd(ws:List Nat)(m:Nat):(QqQ ws m).length=m:=by simp[QqQ]
theorem Qx2(ws:List Nat)(m:Nat):Qou ws m++[((pcb ws (512*m):Nat):Int)]=Qou ws (m+1):=by simp[Qou,List.range_succ]
theorem Qx3(ws:List Nat)(m:Nat):QqQ ws m++[((pcb ws (64*m):Nat):Int)-((pcb ws (512*(m/8)):Nat):Int)]=QqQ ws (m+1):=by simp[QqQ,List.range_succ]
theorem QuQ(ws:List Nat){m i:Nat}(h:i<m):(Qou ws m).getD i 0=((pcb ws (512*i):Nat):Int):=by
 unfold Qou
 rw[List.getD_eq_getElem?_getD,List.getElem?_map,List.getElem?_range h]; rfl
theorem QIU(ws:List Nat){m j:Nat}(h:j<m):(QqQ ws m).getD j 0=((pcb ws (64*j):Nat):Int)-((pcb ws (512*(j/8)):Nat):Int):=by
 unfold QqQ
 rw[List.getD_eq_getElem?_getD,List.getElem?_map,List.getElem?_range h]; rfl
def Qcy(l:List Bool):List Int:=Qou (wds l) (l.length/512+1)
def Qf2(l:List Bool):List Int:=QqQ (wds l) ((l.length+63)/64)
theorem ZB(l:List Bool):(Qcy l).length=l.length/512+1:=Q8N _ _
theorem Yg(l:List Bool):(Qf2 l).length=(l.length+63)/64:=Qcd _ _
theorem QNI(n:Nat)(h:n<4611686018427387904):Qu .i64 (n:Int) 8=((n/8:Nat):Int):=by rw[Jh (by omega) (by omega) (by omega)]; omega
theorem QRw(n:Nat):YP (n:Int) 8=((n%8:Nat):Int):=by rw[Qdu (by omega)]; omega
theorem QuR (ws : List Nat) {i j : Nat} (h : i ≤ j) : pcb ws i ≤ pcb ws j := by
  induction j with
  | zero => have : i = 0 := by omega
            subst this; exact Nat.le_refl _
  | succ j ih =>
    by_cases e : i = j + 1
    · subst e; exact Nat.le_refl _
    · have := ih (by omega)
      simp only [pcb]; omega
theorem QNJ(a b c d:Int)(t:Bool)(e:Int)(xs:List Int)(f g:Int)(ys:List Int)(l1 l2:Nat)(us vs:List Int)(h1:us.length=l1)(h2:us.length≤4000000)(K:Int→Int→Int→Int→Int→List Int→Int→Int→List Int→Nat→Nat→List Int→List Int→Option R):
  Q0i a b c d t e xs f g ys l1 l2 us vs K=if t=true then K a b c d e xs f g ys (l1+1) l2 (us++[a]) vs else K a b c d e xs f g ys l1 l2 us vs:=by
 rw[QcD]; unfold Q97
 cases t with
 | true=>rw[Ev.Q8,Q0 h1,Q0 (by omega),Qm,if_pos rfl]
 | false=>rw[Ev.Q5,if_neg (by decide)]
def QIV(N j:Nat):Bool:=decide (j%8=0∧64*j≤N)
theorem Qi7(l:List Bool)(hl:l.length≤1048576)(K:Int→Int→List Int→Nat→Nat→List Int→List Int→Option R)(f g:Int)(ys:List Int):∀ (N j:Nat),j≤(l.length+63)/64→(l.length+63)/64+1-j<N →
  Z8 K N ((pcb (wds l) (64*j):Nat):Int) (((l.length+63)/64:Nat)+1:Int) (j:Int) (l.length:Int) (ci (wds l)) f g ys ((j+7)/8) j (Qou (wds l) ((j+7)/8)) (QqQ (wds l) j)=K f g ys (l.length/512+1) ((l.length+63)/64) (Qcy l) (Qf2 l)
 | 0,_,_,h=>by omega
 | N+1,j,h1,h2=>by
  simp only[Z8,QaM]
  have hp:=QnE (wds l) (64*j)
  have key:∀ (t:Bool),t=QIV l.length j→Q0i ((pcb (wds l) (64*j):Nat):Int) (j:Int) (((l.length+63)/64:Nat)+1:Int) (j:Int) t (l.length:Int) (ci (wds l)) f g ys ((j+7)/8) j (Qou (wds l) ((j+7)/8)) (QqQ (wds l) j)
    (fun a b c d e xs f g ys l1 l2 us vs=>YQ a b c d e xs f g ys l1 l2 us vs fun a b c d xs e f ys l1 l2 us vs=>Z8 K N a b (Qe .i64 c 1) d xs e f ys l1 l2 us vs)=K f g ys (l.length/512+1) ((l.length+63)/64) (Qcy l) (Qf2 l):=by
   intro t ht
   rw[QNJ _ _ _ _ _ _ _ _ _ _ _ _ _ _ (by rw[Q8N]) (by rw[Q8N]; omega)]
   have hsup:(if t=true then (fun (l1:Nat) (us:List Int)=>YQ ((pcb (wds l) (64*j):Nat):Int) (j:Int) (((l.length+63)/64:Nat)+1:Int) (j:Int) (l.length:Int) (ci (wds l)) f g ys l1 j us (QqQ (wds l) j) fun a b c d xs e f ys l1 l2 us vs=>Z8 K N a b (Qe .i64 c 1) d xs e f ys l1 l2 us vs) ((j+7)/8+1) (Qou (wds l) ((j+7)/8)++[((pcb (wds l) (64*j):Nat):Int)]) else (fun (l1:Nat) (us:List Int)=>YQ ((pcb (wds l) (64*j):Nat):Int) (j:Int) (((l.length+63)/64:Nat)+1:Int) (j:Int) (l.length:Int) (ci (wds l)) f g ys l1 j us (QqQ (wds l) j) fun a b c d xs e f ys l1 l2 us vs=>Z8 K N a b (Qe .i64 c 1) d xs e f ys l1 l2 us vs) ((j+7)/8) (Qou (wds l) ((j+7)/8))) =
     YQ ((pcb (wds l) (64*j):Nat):Int) (j:Int) (((l.length+63)/64:Nat)+1:Int) (j:Int) (l.length:Int) (ci (wds l)) f g ys ((j+7)/8+t.toNat) j (Qou (wds l) ((j+7)/8+t.toNat)) (QqQ (wds l) j) fun a b c d xs e f ys l1 l2 us vs=>Z8 K N a b (Qe .i64 c 1) d xs e f ys l1 l2 us vs:=by
    cases t with
    | false=>rfl
    | true=>
     have h8:j%8=0:=(of_decide_eq_true ht.symm).1
     rw[if_pos rfl]
     have e:Qou (wds l) ((j+7)/8)++[((pcb (wds l) (64*j):Nat):Int)]=Qou (wds l) ((j+7)/8+1):=by
      rw[←Qx2,show 512*((j+7)/8)=64*j by omega]
     rw[e]; rfl
   refine hsup.trans ?_
   rw[QcE]; unfold Q98
   rw[Qb,Qn]
   by_cases hj:j<(l.length+63)/64
   ·have ht8:(j+7)/8+t.toNat=(j+8)/8:=by
     by_cases h8:j%8=0
     ·have:t=true:=by rw[ht]; exact decide_eq_true ⟨h8,by omega⟩
      rw[this]; simp; omega
     ·have:t=false:=by rw[ht]; exact decide_eq_false fun h=>h8 h.1
      rw[this]; simp; omega
    have hq:=QNI j (by omega)
    have hm:=QuR (wds l) (show 512*(j/8)≤64*j by omega)
    have hw:=Z5 (ws:=wds l) (fun w hw=>Q48 hw) j
    have hp2:=QnE (wds l) (64*(j+1))
    have hp3:=QwP (wds l) j
    rw[ht8,Q0 (by omega),hq,Q0 (by omega),Q0 (by omega),Int.toNat_natCast,Q0 (by rw[Q8N]; omega),QuQ _ (show j/8<(j+8)/8 by omega),Qp (by omega) (by omega),Q0 (Qcd _ _),Q0 (by omega),Qm,Qx3,Q0 (by omega),Q0 (by omega),Int.toNat_natCast,Zp,Uq _ hw,Q6 (by omega) (by omega),←Int.natCast_add,←hp3]
    dsimp only
    rw[Q6 (by omega) (by omega),show (j:Int)+1=((j+1:Nat):Int) by omega]
    exact Qi7 l hl K f g ys N (j+1) (by omega) (by omega)
   ·have hje:j=(l.length+63)/64:=by omega
    have ht8:(j+7)/8+t.toNat=l.length/512+1:=by
     by_cases h8:j%8=0∧64*j≤l.length
     ·have:t=true:=by rw[ht]; exact decide_eq_true h8
      rw[this]; simp; omega
     ·have:t=false:=by rw[ht]; exact decide_eq_false h8
      rw[this]; simp; omega
    rw[ht8,Q1 (by omega)]
    dsimp only
    rw[Q6 (by omega) (by omega)]
    obtain ⟨M,rfl⟩:∃ M,N=M+1:=⟨N-1,by omega⟩
    simp only[Z8,QaM]
    rw[Q1 (by omega),hje]
    rfl
  rw[Q0 (by omega),QRw j]
  by_cases h8:j%8=0
  ·rw[Q0 (by omega),Ze (by omega) (by omega)]
   refine key _ ?_
   unfold QIV
   rw[decide_eq_decide]; omega
  ·rw[Q1 (by omega)]
   refine key _ ?_
   unfold QIV
   exact (decide_eq_false fun h=>h8 h.1).symm
theorem Qbh(n:Int)(ws:List Nat)(hw:Ws ws)(K:Int→List Int→List Int→List Int→Int→Option R):
  QbU n (ci ws) K=if QM n ws=true then K n (ci ws) (Qcy (Qrj n ws)) (Qf2 (Qrj n ws)) 0 else K 0 [] [] [] 2:=by
 rw[QkR]; unfold Qgk
 rw[QP n ws hw]
 cases hok:QM n ws with
 | false=>rfl
 | true=>
  obtain ⟨l,rfl,rfl,hl⟩:=Q3t hok hw.1
  rw[Bool.not_true,Ev.Q5,if_pos rfl,UA,Qb,Qn,Q6 (by omega) (by omega),Qeg]
  unfold Q5N
  refine (show _=_ from Qi7 (R:=R) l hl _ 0 (l.length:Int) (ci (wds l)) NR 0 (by omega) (by have:=QT; omega)).trans ?_
  rw[Q0 (ZB l).symm,Q0 (Yg l).symm]
end
end Go.Proofs.YtofblchonjfdbaaGreatDoor
namespace Go.Proofs.YtofblchonjfdbaaGreatDoor
open Go Go.Ev
section
variable {R : Type}
def okP(n:Int)(ws:List Nat)(us vs:List Int):Bool:=QM n ws&&(decide (us=Qcy (Qrj n ws))&&decide (vs=Qf2 (Qrj n ws)))
theorem QuP{n:Int}{ws:List Nat}{us vs:List Int}(h:okP n ws us vs=true)(hw:∀ w∈ws,w<2 ^ 64):∃ l:List Bool,n=(l.length:Int)∧ws=wds l∧l.length≤1048576∧us=Qcy l∧vs=Qf2 l:=by
 simp only[okP,Bool.and_eq_true,decide_eq_true_eq]at h
 obtain ⟨l,h1,h2,h3⟩:=Q3t h.1 hw
 refine ⟨l,h1,h2,h3,?_,?_⟩
 ·rw[h.2.1,h1,h2,UA]
 ·rw[h.2.2,h1,h2,UA]
theorem QkH(l:List Bool)(h:l.length≤1048576):okP (l.length:Int) (wds l) (Qcy l) (Qf2 l)=true:=by
 simp only[okP,Yl l h,UA,decide_true,Bool.and_self]
theorem Ue(n:Int)(ws:List Nat)(hw:Ws ws)(us vs:List Int)(hu:us.length<4000000000)(hv:vs.length<4000000000)(K:Bool→Option R):Ju n (ci ws) us vs K=K (okP n ws us vs):=by
 rw[Ql0]; unfold Qgr
 rw[Qbh n ws hw]
 cases hok:QM n ws with
 | false=>rw[if_neg (by decide),Q1 (by decide)]; simp[okP,hok]
 | true=>
  rw[if_pos rfl,Q0 rfl,U3 _ _ hu]
  simp only[okP,hok,Bool.true_and]
  by_cases h1:us=Qcy (Qrj n ws)
  ·rw[decide_eq_true h1,Ev.Q8,U3 _ _ hv]; rfl
  ·rw[decide_eq_false h1,Ev.Q5]; rfl
theorem QqO(n:Int)(ws:List Nat)(hw:Ws ws)(us vs:List Int)(hu:us.length<4000000000)(hv:vs.length<4000000000)(i:Int)(h1 : -9223372036854775808≤i)(h2:i≤9223372036854775807)(K:Bool→Int→Option R):
  Qdc n (ci ws) us vs i K=if okP n ws us vs=true then K (QhV n ws i).1 (QhV n ws i).2 else K false 2:=by
 rw[QhK]; unfold QeC
 rw[Ue n ws hw us vs hu hv]
 cases okP n ws us vs with
 | false=>rfl
 | true=>rw[Bool.not_true,Ev.Q5,if_pos rfl,Qvh n ws hw i h1 h2]
theorem Qlr(l:List Bool)(hl:l.length≤1048576)(i:Nat)(hi:i≤l.length)(K:Int→Option R):QeI (l.length:Int) (ci (wds l)) (Qcy l) (Qf2 l) (i:Int) K=K ((Qg l true i:Nat):Int):=by
 rw[Qnk]; unfold Qkr
 have hs:(Qf2 l).length=(l.length+63)/64:=Qcd _ _
 have hu:(Qcy l).length=l.length/512+1:=Q8N _ _
 rw[Quj i (by omega),hs,QeS]
 by_cases h1:i/64=(l.length+63)/64
 ·rw[Q0 (by omega),QnA _ _ (Ws.wds hl),QGp l hl i hi,←Qup]
 ·have hp:=QnE (wds l) (64*(i/64))
  have hm:=QuR (wds l) (show 512*(i/64/8)≤64*(i/64) by omega)
  have hw:=QqC (wds l) (i/64) (i%64) (by omega)
  rw[show 64*(i/64)+i%64=i by omega]at hw
  have hr:QcY ((wds l).getD (i/64) 0) ((i%64:Nat):Int)=pc ((wds l).getD (i/64) 0) (i%64):=by unfold QcY; congr 1; omega
  have hp2:=QnE (wds l) i
  rw[Q1 (by omega),QNI _ (by omega),Q0 (by omega),hu,Q0 (by omega),Q0 (by omega),Q0 (by omega),Q0 (by omega),Qb,Qn,Q0 (by omega),Int.toNat_natCast,Int.toNat_natCast,QwL i,Zp,QeQ _ (Z5 (fun w hw=>Q48 hw) _) _ (by omega) (by omega),hr]
  unfold Qcy Qf2
  rw[QuQ _ (by omega),QIU _ (by omega),Q6 (a:=((pcb (wds l) (512*(i/64/8)):Nat):Int)) (by omega) (by omega),Q6 (by omega) (by omega)]
  congr 1; omega
theorem Q5Z(l:List Bool)(hl:l.length≤1048576)(bit:Bool)(i:Nat)(hi:i≤l.length)(K:Int→Option R):Q5a (l.length:Int) (ci (wds l)) (Qcy l) (Qf2 l) bit (i:Int) K=K ((Qg l bit i:Nat):Int):=by
 rw[Qlc]; unfold QgF
 have h1:=Q1V l i
 cases bit with
 | true=>rw[Ev.Q8,Qlr l hl i hi]
 | false=>
  rw[Ev.Q5,Qlr l hl i hi]
  rw[Qp (by omega) (by omega)]
  congr 1; omega
def QAS(n:Int)(ws:List Nat)(us vs:List Int)(bit:Bool)(i:Int):Int×Int:=
 if okP n ws us vs=true then (if i<0∨n<i then (0,3) else (((Qg (Qrj n ws) bit i.toNat:Nat):Int),0)) else (0,2)
theorem QsB(n:Int)(ws:List Nat)(hw:Ws ws)(us vs:List Int)(hu:us.length<4000000000)(hv:vs.length<4000000000)(bit:Bool)(i:Int)(K:Int→Int→Option R):
  Qkt n (ci ws) us vs bit i K=K (QAS n ws us vs bit i).1 (QAS n ws us vs bit i).2:=by
 rw[Qnl]; unfold Qks QAS
 rw[Ue n ws hw us vs hu hv]
 cases hok:okP n ws us vs with
 | false=>rfl
 | true=>
  obtain ⟨l,rfl,rfl,hl,rfl,rfl⟩:=QuP hok hw.1
  rw[Bool.not_true,Ev.Q5,if_pos rfl]
  by_cases h1:i<0
  ·rw[Q0 h1,if_pos (.inl h1)]
  rw[Q1 h1]
  by_cases h2:(l.length:Int)<i
  ·rw[Q0 h2,if_pos (.inr h2)]
  obtain ⟨p,rfl⟩:∃ p:Nat,i=(p:Int):=⟨i.toNat,by omega⟩
  rw[Q1 h2,if_neg (by omega),QfB]; unfold Qco
  rw[Q5Z l hl bit p (by omega),UA,Int.toNat_natCast]
def QIT(n:Int)(ws:List Nat)(us vs:List Int)(bit:Bool)(k:Int):Int×Int:=
 if okP n ws us vs=true then (if k<0 then (0,3) else match QnF (Qrj n ws) bit k.toNat with|some i=>((i:Int),0)|none=>(0,3)) else (0,2)
theorem Qak(l:List Bool)(hl:l.length≤1048576)(bit:Bool)(k:Nat)(K:Bool→Int→Int→Int→List Int→List Int→List Int→Option R):∀ (N lo hi:Nat),lo<hi→hi≤(l.length+63)/64→hi-lo<N→Qg l bit (64*lo)≤k→(hi=(l.length+63)/64∨k<Qg l bit (64*hi)) →
  ∃ q,q<(l.length+63)/64∧Qg l bit (64*q)≤k∧(q+1=(l.length+63)/64∨k<Qg l bit (64*(q+1)))∧UN K N bit (k:Int) (lo:Int) (hi:Int) (l.length:Int) (ci (wds l)) (Qcy l) (Qf2 l)=K bit (k:Int) (q:Int) (l.length:Int) (ci (wds l)) (Qcy l) (Qf2 l)
 | 0,_,_,_,_,h,_,_=>by omega
 | N+1,lo,hi,h1,h2,h3,h4,h5=>by
  simp only[UN,QfC]
  rw[Qp (by omega) (by omega)]
  by_cases h6:lo+1<hi
  ·have hm:Qu .i64 ((lo:Int)+(hi:Int)) 2=(((lo+hi)/2:Nat):Int):=by rw[Jh (by omega) (by omega) (by omega)]; omega
   rw[Q0 (by omega),Q6 (by omega) (by omega),hm,Ze (by omega) (by omega),show (((lo+hi)/2:Nat):Int)*64=((64*((lo+hi)/2):Nat):Int) by omega,Q5Z l hl bit _ (by omega)]
   by_cases h7:Qg l bit (64*((lo+hi)/2))≤k
   ·rw[Q0 (by omega)]
    exact Qak l hl bit k K N ((lo+hi)/2) hi (by omega) h2 (by omega) h7 h5
   ·rw[Q1 (by omega)]
    exact Qak l hl bit k K N lo ((lo+hi)/2) (by omega) (by omega) (by omega) h4 (.inr (by omega))
  ·have:hi=lo+1:=by omega
   subst this
   rw[Q1 (by omega)]
   exact ⟨lo,by omega,h4,h5,rfl⟩
theorem QqP (n : Int) (ws : List Nat) (hw : Ws ws) (us vs : List Int) (hu : us.length < 4000000000) (hv : vs.length < 4000000000) (bit : Bool) (k : Int) (K : Int → Int → Option R) :
    Qdd n (ci ws) us vs bit k K = K (QIT n ws us vs bit k).1 (QIT n ws us vs bit k).2 := by
  rw [QhO]; unfold QeK QIT
  rw [Ue n ws hw us vs hu hv]
  cases hok : okP n ws us vs with
  | false => rfl
  | true =>
    obtain ⟨l, rfl, rfl, hl, rfl, rfl⟩ := QuP hok hw.1
    rw [Bool.not_true, Ev.Q5, if_pos rfl]
    by_cases h1 : k < 0
    · rw [Q0 h1, if_pos h1]
    obtain ⟨q, rfl⟩ : ∃ q : Nat, k = (q : Int) := ⟨k.toNat, by omega⟩
    rw [Q1 h1, if_neg h1, Q5Z l hl bit _ (Nat.le_refl _), UA, Int.toNat_natCast]
    by_cases h2 : Qg l bit l.length ≤ q
    · rw [Q0 (by omega), QnG h2]
    · rw [Q1 (by omega), QcS]; unfold Q9Q
      obtain ⟨at_, hp, hat⟩ := Qrk (show q < Qg l bit l.length by omega)
      rw [hp]
      have hn : 0 < (l.length + 63) / 64 := by have := hat.lt; omega
      have hs : (Qf2 l).length = (l.length + 63) / 64 := Qcd _ _
      rw [QcR]; unfold Q4r
      rw [hs]
      obtain ⟨p, e1, e2, e3, e4⟩ := Qak (R := R) l hl bit q (fun b n1 n2 n3 xs us vs => sel (decide (0 ≤ n2))
   (sel (decide (n2 < ((List.length xs : Nat) : Int)))
    (sel (!b)
     (Uc b n1 n2 (QBY .u64 (List.getD xs (Int.toNat n2) 0)) n3 xs us vs
      (fun n916 n917 => K n916 n917))
     (Uc b n1 n2 (List.getD xs (Int.toNat n2) 0) n3 xs us vs
      (fun n918 n919 => K n918 n919)))
    (none))
   (none)) NR 0 ((l.length + 63) / 64) hn (Nat.le_refl _) (by have := QT; omega) (Nat.zero_le _) (.inl rfl)
      refine Eq.trans e4 ?_
      have hw0 := Z5 (ws := wds l) (fun w hw => Q48 hw) p
      have hq := Q0H l bit (64 * p)
      have hql := Q0H l bit l.length
      have fin : Uc bit (q : Int) (p : Int) ((Qus ((wds l).getD p 0) bit : Nat) : Int) (l.length : Int) (ci (wds l)) (Qcy l) (Qf2 l) (fun a b => K a b) = K (at_ : Int) 0 := by
        rw [Qc5]; unfold Q80
        rw [Ze (by omega) (by omega), show (p : Int) * 64 = ((64 * p : Nat) : Int) by omega, Q5Z l hl bit _ (by omega), Qp (by omega) (by omega), Q1W _ (QIC hw0 bit)]
        have hsel : Qdh (Qus ((wds l).getD p 0) bit) ((q : Int) - ((Qg l bit (64 * p) : Nat) : Int)) = at_ - 64 * p ∧ 64 * p ≤ at_ := by
          have hlo : 64 * p ≤ at_ := by
            apply Nat.le_of_not_lt
            intro h
            have := QeT l bit h hat.is
            have := hat.cnt
            omega
          have hhi : at_ < 64 * p + 64 := by
            rcases e3 with e3 | e3
            · have := hat.lt; omega
            · apply Nat.lt_of_not_le
              intro h
              have := Qb9 l bit (show 64 * (p + 1) ≤ at_ by omega)
              have := hat.cnt
              omega
          refine ⟨Qqy (.inl ⟨by omega, ?_, ?_⟩), hlo⟩
          · rw [QwQ hw0 bit _ (by omega)]
            have : l.getD at_ false = ((wds l).getD p 0).testBit (at_ - 64 * p) := by
              rw [← ZU]; unfold QN
              rw [show at_ / 64 = p by omega, show at_ % 64 = at_ - 64 * p by omega]
            rw [← this, hat.is]; simp
          · have := QwR (l := l) bit p (at_ - 64 * p) (by omega)
            rw [show 64 * p + (at_ - 64 * p) = at_ by omega, hat.cnt] at this
            omega
        have := hat.lt
        rw [hsel.1, Q6 (by omega) (by omega), ← Int.natCast_add]
        congr 2; omega
      rw [Q0 (by omega), Qb, Qn, Q0 (by omega), Int.toNat_natCast, Zp]
      cases bit with
      | true => rw [Bool.not_true, Ev.Q5]; exact fin
      | false =>
        rw [Bool.not_false, Ev.Q8, QAv _ hw0]
        exact fin
def Qx1(n:Int)(ws:List Nat)(us vs:List Int):Int:=if okP n ws us vs=true then n+32*(us.length:Int)+16*(vs.length:Int) else 0
theorem Qls(n:Int)(ws:List Nat)(hw:Ws ws)(us vs:List Int)(hu:us.length<4000000000)(hv:vs.length<4000000000)(K:Int→Option R):Qky n (ci ws) us vs K=K (Qx1 n ws us vs):=by
 rw[Qnq]; unfold Qkx Qx1
 rw[Ue n ws hw us vs hu hv]
 cases hok:okP n ws us vs with
 | false=>rfl
 | true=>
  obtain ⟨l,rfl,rfl,hl,rfl,rfl⟩:=QuP hok hw.1
  rw[Bool.not_true,Ev.Q5,if_pos rfl,Ze (by omega) (by omega),Ze (by omega) (by omega),Q6 (a:=(l.length:Int)) (by omega) (by omega),Q6 (by omega) (by omega)]
theorem QsC(n:Int)(ws:List Nat)(hw:Ws ws)(us vs:List Int)(hu:us.length<4000000000)(hv:vs.length<4000000000)(K:Int→List Int→Option R):QkA n (ci ws) us vs K=if okP n ws us vs=true then K n (ci ws) else K 0 []:=by
 rw[Qns]; unfold Qkz
 rw[Ue n ws hw us vs hu hv]
 cases okP n ws us vs<;>rfl
end
end Go.Proofs.YtofblchonjfdbaaGreatDoor
namespace Go.Proofs.YtofblchonjfdbaaGreatDoor
open Go Go.Ev
section
variable {R : Type}
theorem Qva(n:Int)(w:List Int)(K:Bool→Option R):Q2p [n] [w] K=K (decide (n=0)&&decide (w=[])):=by
 obtain ⟨N,hN⟩:∃ N,NR=N+3:=⟨NR-3,by have:=QT; omega⟩
 rw[QaW]; unfold Q9E
 rw[Q6D]; unfold Q0t
 rw[hN]
 simp only[UM,Q9D,List.length_cons,List.length_nil,Qm]
 rw[Q0 (by omega),Q0 (by omega),Q0 (by omega)]
 show sel (!decide (n=0)) _ (sel (decide (0<((w.length:Nat):Int))) _ _)=_
 by_cases h1:n=0
 ·rw[Qt h1]
  cases w with
  | nil=>
   rw[Q1 (by simp),Q6 (by omega) (by omega),Q1 (by omega),h1]; rfl
  | cons a w=>rw[Q0 (by simp),h1]; rfl
 ·rw[Zr h1,decide_eq_false h1]; rfl
theorem QoN(n m:Int)(w u:List Int)(K:Bool→Option R):Q2p ([n]++[m]) ([w]++[u]) K=K ((decide (n=0)&&decide (w=[]))&&(decide (m=0)&&decide (u=[]))):=by
 obtain ⟨N,hN⟩:∃ N,NR=N+3:=⟨NR-3,by have:=QT; omega⟩
 rw[QaW]; unfold Q9E
 rw[Q6D]; unfold Q0t
 rw[hN]
 simp only[UM,Q9D,List.cons_append,List.nil_append,List.length_cons,List.length_nil,Qm]
 rw[Q0 (by omega),Q0 (by omega),Q0 (by omega)]
 show sel (!decide (n=0)) _ (sel (decide (0<((w.length:Nat):Int))) _ _)=_
 by_cases h1:n=0
 ·rw[Qt h1,decide_eq_true h1]
  cases w with
  | nil=>
   rw[Q1 (by simp),Q6 (by omega) (by omega),Q0 (by omega),Q0 (by omega),Q0 (by omega)]
   show sel (!decide (m=0)) _ (sel (decide (0<((u.length:Nat):Int))) _ _)=_
   by_cases h2:m=0
   ·rw[Qt h2,decide_eq_true h2]
    cases u with
    | nil=>rw[Q1 (by simp),Q6 (by omega) (by omega),Q1 (by omega)]; rfl
    | cons a u=>rw[Q0 (by simp)]; rfl
   ·rw[Zr h2,decide_eq_false h2]; rfl
  | cons a w=>rw[Q0 (by simp)]; rfl
 ·rw[Zr h1,decide_eq_false h1]; rfl
def spV(k:Int)(p r f:Bool):Bool:=if k=1 then r&&f else if k=2 then p&&f else p&&r
theorem QIf(p r f:Bool)(k x1:Int)(x2 x3 x4:List Int)(x5 x6 x7 x8:Int)(x9:List Int)(x10:Int)(x11 x12 x13:List Int)(x14 x15 x16 x17 x18:Int)(x19:List Int)(x20:Int)(x21:List Int)(K:Bool→Option R):
  YR p r f k x1 x2 x3 x4 x5 x6 x7 x8 x9 x10 x11 x12 x13 x14 x15 x16 x17 x18 x19 x20 x21 K=K (spV k p r f):=by
 rw[QcO]; unfold Q9F spV
 by_cases h1:k=1
 ·rw[Q0 h1,if_pos h1]; cases r<;>rfl
 by_cases h2:k=2
 ·rw[Q1 h1,Q0 h2,if_neg h1,if_pos h2]; cases p<;>rfl
 rw[Q1 h1,Q1 h2,if_neg h1,if_neg h2]; cases p<;>rfl
def emF(a b c d:Int)(e:Int)(xs:List Int)(f:Int)(ys:List Int):Bool:=((decide (e=0)&&decide (xs=[]))&&(decide (f=0)&&decide (ys=[])))&&(decide (a=0)&&(decide (b=0)&&(decide (c=0)&&decide (d=0))))
def emR(a b c d:Int)(xs:List Int)(f:Int)(ys us vs:List Int):Bool:=((decide (d=0)&&decide (xs=[]))&&(decide (f=0)&&decide (ys=[])))&&((decide (us=[])&&decide (vs=[]))&&(decide (a=0)&&(decide (b=0)&&decide (c=0))))
def emP(n:Int)(ws us vs:List Int):Bool:=(decide (n=0)&&decide (ws=[]))&&(decide (us=[])&&decide (vs=[]))
theorem Qqq{us vs:List Int}(hu:us.length<4000000000)(hv:vs.length<4000000000):decide (Qe .i64 ((us.length:Nat):Int) ((vs.length:Nat):Int)=0)=(decide (us=[])&&decide (vs=[])):=by
 rw[Q6 (by omega) (by omega)]
 cases us<;>cases vs<;>simp<;>omega
theorem QIg(p r:Bool)(k x1:Int)(x2 x3 x4:List Int)(x5 x6 x7 x8:Int)(x9:List Int)(x10:Int)(x11 x12 x13:List Int)(x14 x15 x16 x17 x18:Int)(x19:List Int)(x20:Int)(x21:List Int)(a b c d e:Int)(xs:List Int)(f:Int)(ys:List Int)(K:Bool→Option R):
  YS p r k x1 x2 x3 x4 x5 x6 x7 x8 x9 x10 x11 x12 x13 x14 x15 x16 x17 x18 x19 x20 x21 a b c d e xs f ys K=K (spV k p r (emF a b c d e xs f ys)):=by
 rw[QcP]; unfold Q4n
 rw[QoN]
 simp only[Qm,QIf]
 unfold emF
 generalize (decide (e=0)&&decide (xs=[])&&(decide (f=0)&&decide (ys=[])))=t
 cases t
 ·rfl
 by_cases h1:a=0
 ·rw[Ev.Q8,Q0 h1,decide_eq_true h1]
  by_cases h2:b=0
  ·rw[Q0 h2,decide_eq_true h2]
   by_cases h3:c=0
   ·rw[Q0 h3,decide_eq_true h3]; rfl
   ·rw[Q1 h3,decide_eq_false h3]; rfl
  ·rw[Q1 h2,decide_eq_false h2]; rfl
 ·rw[Ev.Q8,Q1 h1,decide_eq_false h1]; rfl
theorem QIh(p:Bool)(k x1:Int)(x2 x3 x4:List Int)(x5 x6 x7 x8:Int)(x9:List Int)(x10:Int)(x11 x12 x13:List Int)(x14 x15 x16 x17 x18:Int)(x19:List Int)(x20:Int)(x21:List Int)
  (a b c d:Int) (xs:List Int) (f:Int) (ys us vs:List Int) (hu:us.length<4000000000) (hv:vs.length<4000000000) (a' b' c' d' e':Int) (xs':List Int) (f':Int) (ys':List Int) (K:Bool→Option R) :
  Q3a p k x1 x2 x3 x4 x5 x6 x7 x8 x9 x10 x11 x12 x13 x14 x15 x16 x17 x18 x19 x20 x21 a b c d xs f ys us vs a' b' c' d' e' xs' f' ys' K=K (spV k p (emR a b c d xs f ys us vs) (emF a' b' c' d' e' xs' f' ys')):=by
 rw[QcQ]; unfold Q4o
 rw[QoN]
 simp only[Qm,QIg,Qqq hu hv]
 unfold emR
 generalize (decide (d=0)&&decide (xs=[])&&(decide (f=0)&&decide (ys=[])))=t
 generalize (decide (us=[])&&decide (vs=[]))=t2
 cases t
 ·rfl
 cases t2
 ·rfl
 by_cases h1:a=0
 ·rw[Ev.Q8,Ev.Q8,Q0 h1,decide_eq_true h1]
  by_cases h2:b=0
  ·rw[Q0 h2,decide_eq_true h2]; rfl
  ·rw[Q1 h2,decide_eq_false h2]; rfl
 ·rw[Ev.Q8,Ev.Q8,Q1 h1,decide_eq_false h1]; rfl
theorem Q0D(k n:Int)(ws us vs:List Int)(hu:us.length<4000000000)(hv:vs.length<4000000000)
  (a b c d:Int) (xs:List Int) (f:Int) (ys us' vs':List Int) (hu':us'.length<4000000000) (hv':vs'.length<4000000000) (a' b' c' d' e':Int) (xs':List Int) (f':Int) (ys':List Int) (K:Bool→Option R) :
  Qd7 k n ws us vs a b c d xs f ys us' vs' a' b' c' d' e' xs' f' ys' K=K (spV k (emP n ws us vs) (emR a b c d xs f ys us' vs') (emF a' b' c' d' e' xs' f' ys')):=by
 rw[QhE]; unfold Qex
 rw[Qva]
 simp only[Qm,QIh _ _ _ _ _ _ _ _ _ _ _ _ _ _ _ _ _ _ _ _ _ _ _ _ _ _ _ _ _ _ _ _ hu' hv',Qqq hu hv]
 unfold emP
 cases (decide (n=0)&&decide (ws=[]))<;>rfl
inductive IsV (l:List Bool):Int→Int→List Int→List Int→List Int→Int→Int→Int→Int→List Int→Int→List Int→List Int→List Int→Int→Int→Int→Int→Int→List Int→Int→List Int→Prop
 | plain:IsV l 1 (l.length:Int) (ci (wds l)) (Qcy l) (Qf2 l) 0 0 0 0 [] 0 [] [] [] 0 0 0 0 0 [] 0 []
 | rrr:IsV l 2 0 [] [] [] (l.length:Int) ((NB l:Nat):Int) 4 ((NB l*4:Nat):Int) (ci (wds (Zg 4 (UE l (NB l))))) ((QU l (NB l)).length:Int) (ci (wds (QU l (NB l)))) (Q1X l (NG l)) (Qbd l (NG l)) 0 0 0 0 0 [] 0 []
 | fano:IsV l 3 0 [] [] [] 0 0 0 0 [] 0 [] [] [] (l.length:Int) ((FM l:Nat):Int) ((FL l).length:Int) ((FV l:Nat):Int) (((FL l).length*FV l:Nat):Int) (ci (wds (Zg (FV l) (FL l)))) ((FH l).length:Int) (ci (wds (FH l)))
theorem QhT(k:Int)(hk:1≤k∧k≤3)(l:List Bool)(hl:l.length≤3000)(X:Option R)(K:Int→Int→List Int→List Int→List Int→Int→Int→Int→Int→List Int→Int→List Int→List Int→List Int→Int→Int→Int→Int→Int→List Int→Int→List Int→Int→Option R)
  (H:∀ n ws us vs a b c d xs f ys us' vs' a' b' c' d' e' xs' f' ys',IsV l k n ws us vs a b c d xs f ys us' vs' a' b' c' d' e' xs' f' ys'→K k n ws us vs a b c d xs f ys us' vs' a' b' c' d' e' xs' f' ys' 0=X) :
  Q0s k (l.length:Int) (ci (wds l)) K=X:=by
 have hl2:l.length≤1048576:=by omega
 rw[JB]; unfold Uw
 rcases (show k=1∨k=2∨k=3 by omega) with rfl|rfl|rfl
 ·rw[Q0 rfl,Qbh _ _ (Q6M hl2),if_pos (Yl l hl2),UA,Zf]; unfold Zo
  rw[Qt rfl]
  exact H _ _ _ _ _ _ _ _ _ _ _ _ _ _ _ _ _ _ _ _ _ .plain
 ·rw[Q1 (by decide),Q0 rfl,QeX l hl2,Zf]; unfold Zo
  rw[Qt rfl]
  exact H _ _ _ _ _ _ _ _ _ _ _ _ _ _ _ _ _ _ _ _ _ .rrr
 ·rw[Q1 (by decide),Q1 (by decide),Q0 rfl,Qll l hl,Zf]; unfold Zo
  rw[Qt rfl]
  exact H _ _ _ _ _ _ _ _ _ _ _ _ _ _ _ _ _ _ _ _ _ .fano
theorem QfI(n:Int)(ws:List Nat)(hw:Ws ws)(h:QM n ws=false)(K:Int→Int→List Int→List Int→List Int→Int→Int→Int→Int→List Int→Int→List Int→List Int→List Int→Int→Int→Int→Int→Int→List Int→Int→List Int→Int→Option R):
  Q0s 2 n (ci ws) K=K 0 0 [] [] [] 0 0 0 0 [] 0 [] [] [] 0 0 0 0 0 [] 0 [] 2:=by
 rw[JB]; unfold Uw
 rw[Q1 (by decide),Q0 rfl,Qvi n ws hw h,Zf]; unfold Zo
 rw[Zr (by decide)]
section
variable {l : List Bool} (hl : l.length ≤ 3000) {k n : Int} {ws us vs : List Int} {a b c d : Int} {xs : List Int} {f : Int} {ys us' vs' : List Int} {a' b' c' d' e' : Int} {xs' : List Int} {f' : Int} {ys' : List Int}
 (r:IsV l k n ws us vs a b c d xs f ys us' vs' a' b' c' d' e' xs' f' ys')
include hl r
theorem Yw(K:Bool→Option R):ZK k n ws us vs a b c d xs f ys us' vs' a' b' c' d' e' xs' f' ys' K=K true:=by
 have hl2:l.length≤1048576:=by omega
 rw[JC]; unfold JN
 cases r with
 | plain=>
  rw[Q0D _ _ _ _ _ (by rw[ZB]; omega) (by rw[Yg]; omega) _ _ _ _ _ _ _ _ _ (by decide) (by decide)]
  rw[show spV 1 _ (emR 0 0 0 0 [] 0 [] [] []) (emF 0 0 0 0 0 [] 0 [])=true from rfl,Bool.not_true,Ev.Q5,Q0 rfl,Ue _ _ (Q6M hl2) _ _ (by rw[ZB]; omega) (by rw[Yg]; omega),QkH l hl2]
 | rrr=>
  obtain ⟨_,_,s3,s4⟩:=IsR.short hl2
  rw[Q0D _ _ _ _ _ (by decide) (by decide) _ _ _ _ _ _ _ _ _ s3 s4]
  rw[show spV 2 (emP 0 [] [] []) _ (emF 0 0 0 0 0 [] 0 [])=true from rfl,Bool.not_true,Ev.Q5,Q1 (by decide),Q0 rfl,Q7q hl2 ⟨rfl,rfl,rfl,rfl,rfl,rfl,rfl,rfl,rfl⟩]
 | fano=>
  rw[Q0D _ _ _ _ _ (by decide) (by decide) _ _ _ _ _ _ _ _ _ (by decide) (by decide)]
  rw[show spV 3 (emP 0 [] [] []) (emR 0 0 0 0 [] 0 [] [] []) _=true from rfl,Bool.not_true,Ev.Q5,Q1 (by decide),Q1 (by decide),Q0 rfl,Q5K l hl]
theorem QfJ(i:Int)(hi : -9223372036854775808≤i)(hi2:i≤9223372036854775807)(K:Bool→Int→Option R):Q3s k n ws us vs a b c d xs f ys us' vs' a' b' c' d' e' xs' f' ys' i K=K (Qsz l i).1 (Qsz l i).2:=by
 have hl2:l.length≤1048576:=by omega
 have hc:=Yw (R:=R) hl r
 rw[Q9P]; unfold Q7K
 rw[hc,Bool.not_true,Ev.Q5]
 cases r with
 | plain=>
  rw[Q0 rfl,QqO _ _ (Q6M hl2) _ _ (by rw[ZB]; omega) (by rw[Yg]; omega) _ hi hi2,if_pos (QkH l hl2)]
  have e:QhV (l.length:Int) (wds l) i=Qsz l i:=by
   unfold QhV Qsz
   rw[if_pos (Yl l hl2)]
   split
   ·rfl
   ·rw[ZU]
  rw[e]
 | rrr=>rw[Q1 (by decide),Q0 rfl,QuB hl2 ⟨rfl,rfl,rfl,rfl,rfl,rfl,rfl,rfl,rfl⟩]
 | fano=>rw[Q1 (by decide),Q1 (by decide),Qsu l hl]; rfl
theorem Qli(bit:Bool)(i:Int)(K:Int→Int→Option R):Q8h k n ws us vs a b c d xs f ys us' vs' a' b' c' d' e' xs' f' ys' bit i K=K (QuM l bit i).1 (QuM l bit i).2:=by
 have hl2:l.length≤1048576:=by omega
 have hc:=Yw (R:=R) hl r
 rw[Qcp]; unfold Qby
 rw[hc,Bool.not_true,Ev.Q5]
 cases r with
 | plain=>
  rw[Q0 rfl,QsB _ _ (Q6M hl2) _ _ (by rw[ZB]; omega) (by rw[Yg]; omega)]
  have e:QAS (l.length:Int) (wds l) (Qcy l) (Qf2 l) bit i=QuM l bit i:=by
   unfold QAS QuM
   rw[if_pos (QkH l hl2),UA]
  rw[e]
 | rrr=>rw[Q1 (by decide),Q0 rfl,Qyp hl2 ⟨rfl,rfl,rfl,rfl,rfl,rfl,rfl,rfl,rfl⟩]
 | fano=>rw[Q1 (by decide),Q1 (by decide),Qvc l hl]; rfl
theorem Q4F(bit:Bool)(i:Int)(K:Int→Int→Option R):Jv k n ws us vs a b c d xs f ys us' vs' a' b' c' d' e' xs' f' ys' bit i K=K (Qrq l bit i).1 (Qrq l bit i).2:=by
 have hl2:l.length≤1048576:=by omega
 have hc:=Yw (R:=R) hl r
 rw[Q9V]; unfold Q7O
 rw[hc,Bool.not_true,Ev.Q5]
 cases r with
 | plain=>
  rw[Q0 rfl,QqP _ _ (Q6M hl2) _ _ (by rw[ZB]; omega) (by rw[Yg]; omega)]
  have e:QIT (l.length:Int) (wds l) (Qcy l) (Qf2 l) bit i=Qrq l bit i:=by
   unfold QIT Qrq
   rw[if_pos (QkH l hl2),UA]
   split
   ·rfl
   ·cases QnF l bit i.toNat<;>rfl
  rw[e]
 | rrr=>rw[Q1 (by decide),Q0 rfl,QuD hl2 ⟨rfl,rfl,rfl,rfl,rfl,rfl,rfl,rfl,rfl⟩]
 | fano=>rw[Q1 (by decide),Q1 (by decide),Qsv l hl]; rfl
theorem Qlj(K:Int→List Int→Option R):Q5c k n ws us vs a b c d xs f ys us' vs' a' b' c' d' e' xs' f' ys' K=K (l.length:Int) (ci (wds l)):=by
 have hl2:l.length≤1048576:=by omega
 have hc:=Yw (R:=R) hl r
 rw[Qcu]; unfold QbA
 rw[hc,Bool.not_true,Ev.Q5]
 cases r with
 | plain=>rw[Q0 rfl,QsC _ _ (Q6M hl2) _ _ (by rw[ZB]; omega) (by rw[Yg]; omega),if_pos (QkH l hl2)]
 | rrr=>rw[Q1 (by decide),Q0 rfl,Qyo hl2 ⟨rfl,rfl,rfl,rfl,rfl,rfl,rfl,rfl,rfl⟩]
 | fano=>rw[Q1 (by decide),Q1 (by decide),Qvb l hl]
theorem Qst(K:Int→Option R):∃ z:Int,0<z∧Q0w k n ws us vs a b c d xs f ys us' vs' a' b' c' d' e' xs' f' ys' K=K z:=by
 have hl2:l.length≤1048576:=by omega
 have hc:=Yw (R:=R) hl r
 rw[J6]; unfold Jw
 rw[hc,Bool.not_true,Ev.Q5]
 cases r with
 | plain=>
  rw[Q0 rfl,Qls _ _ (Q6M hl2) _ _ (by rw[ZB]; omega) (by rw[Yg]; omega)]
  refine ⟨_,?_,rfl⟩
  unfold Qx1
  rw[if_pos (QkH l hl2),ZB]; omega
 | rrr=>
  rw[Q1 (by decide),Q0 rfl,QqG hl2 ⟨rfl,rfl,rfl,rfl,rfl,rfl,rfl,rfl,rfl⟩]
  exact ⟨_,by unfold QKx NG; omega,rfl⟩
 | fano=>
  rw[Q1 (by decide),Q1 (by decide),QoO l hl]
  exact ⟨_,by omega,rfl⟩
end
end
end Go.Proofs.YtofblchonjfdbaaGreatDoor
namespace Go.Proofs.YtofblchonjfdbaaGreatDoor
open Go Go.Ev
section
variable {R : Type}
theorem QKG(i:Nat):(2 ^ i-1) ||| 2 ^ i=2 ^ (i+1)-1:=by
 have hp:0<2 ^ i:=Nat.two_pow_pos i
 have h:=Qpy (2 ^ i-1) (2 ^ i) (by
  apply Nat.eq_of_testBit_eq
  intro j
  rw[Nat.testBit_and,Nat.testBit_two_pow_sub_one,Nat.testBit_two_pow,Nat.zero_testBit]
  by_cases h:j<i
  ·have:¬i=j:=by omega
   simp[this]
  ·simp[h])
 rw[←h,Nat.pow_succ]; omega
theorem Q8O(n:Int)(h2:n≤9223372036854775807)(K:Int→Option R):∀ (N i:Nat),i≤min n.toNat 64→64-i<N→ZO K N n ((2 ^ i-1:Nat):Int) (i:Int)=K ((QcX n:Nat):Int)
 | 0,_,_,h=>by omega
 | N+1,i,hi,hN=>by
  simp only[ZO,Q8l]
  by_cases h:i<min n.toNat 64
  ·have hp:2 ^ i<2 ^ 64:=Nat.pow_lt_pow_right (by decide) (by omega)
   rw[Q0 (by omega),Q0 (by omega),Q6b]
   unfold Q1z
   rw[ZL (by omega) (by omega),Q0 (by omega),Q6 (by omega) (by omega),show (1:Int)=((1:Nat):Int) from rfl,Q3i 1 i (by decide),Nat.one_mul,Nat.mod_eq_of_lt hp,QbB _ _ (by omega) hp,QKG,←Int.natCast_add]
   exact Q8O n h2 K N (i+1) (by omega) (by omega)
  ·have e:i=min n.toNat 64:=by omega
   have:K (((2 ^ i-1:Nat):Int))=K ((QcX n:Nat):Int):=by rw[e]; rfl
   by_cases h64:i<64
   ·rw[Q0 (by omega),Q1 (by omega),this]
   ·rw[Q1 (by omega),this]
theorem Qia(n:Int)(h2:n≤9223372036854775807)(K:Int→Option R):Q2t n K=K ((QcX n:Nat):Int):=by
 rw[Q9X]; unfold Q5f
 rw[Q6c]; unfold UQ
 exact Q8O n h2 _ NR 0 (Nat.zero_le _) (by have:=QT; omega)
end
end Go.Proofs.YtofblchonjfdbaaGreatDoor
namespace Go.Proofs.YtofblchonjfdbaaGreatDoor
open Go Go.Ev
section
variable {R : Type}
theorem Q7t(n:Int)(h1:0≤n)(h2:n≤4611686018427387904)(K:Int→Option R):J8 n K=K ((n+63)/64):=by
 rw[Q8k]; unfold Q3I
 rw[Q6 (by omega) (by omega),Jh (by omega) (by omega) (by omega)]
theorem Qq(n:Int)(ws:List Nat)(hw:Ws ws)(K:Bool→Option R):QD n (ci ws) K=K (QM n ws):=by
 rw[Q8m]; unfold Q3L
 have hlen:=hw.2
 by_cases h1:n<0
 ·rw[Q0 h1]
  congr 1
  have:¬(0≤n∧n≤1048576∧ws.length=(n.toNat+63)/64):=by omega
  simp[QM,this]
 rw[Q1 h1]
 by_cases h2:1048576<n
 ·rw[Q0 h2]
  congr 1
  have:¬(0≤n∧n≤1048576∧ws.length=(n.toNat+63)/64):=by omega
  simp[QM,this]
 rw[Q1 h2,Q7t n (by omega) (by omega),Qb]
 by_cases h3:((ws.length:Nat):Int)=(n+63)/64
 ·rw[decide_eq_true h3,Bool.not_true,Ev.Q5]
  show Jo _ _ _=_
  rw[Q5g]; unfold Q0R
  rw[Qdu (by omega)]
  have h4:0≤n∧n≤1048576∧ws.length=(n.toNat+63)/64:=by omega
  by_cases h5:n%64=0
  ·rw[Q0 h5]
   congr 1
   have:n.toNat%64=0:=by omega
   simp[QM,h4,this]
  ·rw[Q1 h5,Qb,Qp (by omega) (by omega),Q0 (by omega),Q0 (by omega),Qia _ (by omega),Qm,show (((ws.length:Nat):Int)-1).toNat=ws.length-1 by omega,Zp,QfK _ _ (Z5 hw.1 _) (Q7n _)]
   congr 1
   have e:n%64=((n.toNat%64:Nat):Int):=by omega
   have h6:=QDF (ws.getD (ws.length-1) 0) (n.toNat%64) (Nat.mod_lt _ (by decide))
   rw[e]
   have h7:¬n.toNat%64=0:=by omega
   simp only[QM,h4,h7,decide_false,Bool.false_or,and_self,decide_true,Bool.true_and]
   rw[h4.2.2]at h6
   rw[decide_eq_decide,←h6]
   omega
 ·rw[decide_eq_false h3,Bool.not_false,Ev.Q8]
  congr 1
  have:¬(0≤n∧n≤1048576∧ws.length=(n.toNat+63)/64):=by omega
  simp[QM,this]
def QD0(x r:Nat)(b:Bool):Nat:=if b then (x-(x &&& 2 ^ r)) ||| 2 ^ r else x-(x &&& 2 ^ r)
def Qyu(ws:List Nat)(i:Nat)(b:Bool):List Nat:=ws.set (i/64) (QD0 (ws.getD (i/64) 0) (i%64) b)
theorem QE3(x r i:Nat)(hx:x<2 ^ 64)(hr:r<64):(x-(x &&& 2 ^ r)).testBit i=(decide (i≠r)&&x.testBit i):=by
 have hp:2 ^ r<2 ^ 64:=Nat.pow_lt_pow_right (by decide) hr
 rw[←QDJ x (2 ^ r) hx hp,Nat.testBit_and]
 by_cases hi:i<64
 ·have:(2 ^ 64-1-2 ^ r).testBit i=decide (i≠r):=by
   have e:2 ^ 64-1-2 ^ r=2 ^ 64-(2 ^ r+1):=by omega
   rw[e,Nat.testBit_two_pow_sub_succ hp,Nat.testBit_two_pow]
   by_cases h:r=i
   ·subst h; simp
   ·have:¬i=r:=fun h'=>h h'.symm
    simp[hi,h,this]
  rw[this,Bool.and_comm]
 ·rw[Qyd hx (by omega)]; simp
theorem QKE{x r:Nat}(hx:x<2 ^ 64)(hr:r<64)(b:Bool):QD0 x r b<2 ^ 64:=by
 have hp:2 ^ r<2 ^ 64:=Nat.pow_lt_pow_right (by decide) hr
 unfold QD0
 split
 ·exact Nat.or_lt_two_pow (by omega) hp
 ·omega
theorem QIW(x r i:Nat)(hx:x<2 ^ 64)(hr:r<64)(b:Bool):(QD0 x r b).testBit i=if i=r then b else x.testBit i:=by
 unfold QD0
 cases b with
 | true=>
  rw[if_pos rfl,Nat.testBit_or,QE3 x r i hx hr,Nat.testBit_two_pow]
  by_cases h:i=r
  ·subst h; simp
  ·have:¬r=i:=fun h'=>h h'.symm
   simp[h,this]
 | false=>
  rw[if_neg (by decide),QE3 x r i hx hr]
  by_cases h:i=r
  ·subst h; simp
  ·simp[h]
theorem QD1{ws:List Nat}(hw:∀ w∈ws,w<2 ^ 64)(i:Nat)(b:Bool)(hi:i/64<ws.length)(q:Nat):QN (Qyu ws i b) q=if q=i then b else QN ws q:=by
 unfold Qyu
 rw[Qoi _ _ hi]
 by_cases h:q/64=i/64
 ·rw[if_pos h,QIW _ _ _ (Z5 hw _) (Nat.mod_lt _ (by decide))]
  by_cases h2:q=i
  ·subst h2; rw[if_pos rfl,if_pos rfl]
  ·rw[if_neg (by omega),if_neg h2]
   unfold QN; rw[h]
 ·rw[if_neg h,if_neg (by rintro rfl; exact h rfl)]
theorem QKF{ws:List Nat}(hw:∀ w∈ws,w<2 ^ 64)(i:Nat)(b:Bool):∀ w∈Qyu ws i b,w<2 ^ 64:=Quo hw (QKE (Z5 hw _) (Nat.mod_lt _ (by decide)) b)
theorem QAV(ws:List Nat)(i:Nat)(b:Bool):(Qyu ws i b).length=ws.length:=by simp[Qyu]
theorem QgN(ws:List Nat)(hw:∀ w∈ws,w<2 ^ 64)(l:Nat)(hl:l=ws.length)(i:Nat)(hi:i/64<ws.length)(hi2:i<4611686018427387904)(b:Bool)(K:List Int→Option R):
  Q1g l (i:Int) b (ci ws) K=K (ci (Qyu ws i b)):=by
 subst hl
 have hp:2 ^ (i%64)<2 ^ 64:=Nat.pow_lt_pow_right (by decide) (Nat.mod_lt _ (by decide))
 have hg:=Z5 hw (i/64)
 rw[Q8u]; unfold Q03
 rw[Quj i hi2,QwL i,ZL (by omega) (by omega),Int.toNat_natCast,Qb]
 rw[Q0 (by omega),Q0 (by omega),Q0 hi,Q0 (by omega),Q0 (by omega),Q0 (by omega),Q0 hi,Qm,Zp,show (1:Int)=((1:Nat):Int) from rfl,Q3i _ _ (by decide),Nat.one_mul,Nat.mod_eq_of_lt hp,QfK _ _ hg hp,Qri]
 cases b with
 | false=>rw[Ev.Q5]; simp[Qyu,QD0]
 | true=>
  rw[Ev.Q8,Qb,List.length_set,Q0 (by omega),Q0 (by omega),Q0 hi,Q0 (by omega),Q0 (by omega),Q0 (by omega),Q0 hi,Qm,Zp]
  have e:(ws.set (i/64) (ws.getD (i/64) 0-(ws.getD (i/64) 0 &&& 2 ^ (i%64)))).getD (i/64) 0=ws.getD (i/64) 0-(ws.getD (i/64) 0 &&& 2 ^ (i%64)):=by
   rw[List.getD_eq_getElem?_getD,List.getElem?_set_self hi]; rfl
  rw[e,QbB _ _ (by omega) hp,Qri,List.set_set]
  simp[Qyu,QD0]
end
end Go.Proofs.YtofblchonjfdbaaGreatDoor
namespace Go.Proofs.YtofblchonjfdbaaGreatDoor
open Go Go.Ev
section
variable {R : Type}
theorem ZJ(n:Int)(ws:List Nat)(hw:∀ w∈ws,w<2 ^ 64)(i:Nat)(hi:i/64<ws.length)(hi2:i<4611686018427387904)(K:Bool→Option R):Y5 n (ci ws) (i:Int) K=K (QN ws i):=by
 rw[Qc6]; unfold Q82
 have hl:=Z5 hw (i/64)
 rw[Quj i hi2,QwL i,Qb,Q0 (by omega),Q0 (by omega),ZL (by omega) (by omega),Q0 (by omega),Qm,Int.toNat_natCast,Zp,Q0F _ _ hl,show (2:Int)=((2:Nat):Int) from rfl,Qai]
 congr 1
 unfold QN
 rw[Bool.eq_iff_iff,decide_eq_true_iff,←QfL]
 omega
theorem QgM(n:Int)(K0:Int→Int→Option R)(K1:Int→Nat→Int→List Int→Option R):Q1f n K0 K1=if n<0∨1048576<n then K0 0 2 else K1 n ((n.toNat+63)/64) 0 (ci (List.replicate ((n.toNat+63)/64) 0)):=by
 have j3:∀ (b:Bool) (e:Int) (K0 K1:Int→Int→Option R),Uy n b e K0 K1=sel b (K0 2 0) (K1 n e):=fun b e K0 K1=>by
  rw[Q7c]; unfold Q2D; rfl
 rw[Q8t]; unfold Q3U
 by_cases h1:n<0
 ·rw[Q0 h1,j3,Ev.Q8,if_pos (.inl h1)]
 rw[Q1 h1,j3]
 by_cases h2:1048576<n
 ·rw[Q0 h2,if_pos (.inr h2)]
 rw[Q1 h2,if_neg (by omega),Q7d]; unfold Q2E
 rw[Q7t _ (by omega) (by omega),Q0 (by omega),Q0 (by omega),Q0 (by omega),Q0 (by omega),Qm,QqA,show ((n+63)/64).toNat=(n.toNat+63)/64 by omega]
structure Fill (l:List Bool) (j L:Nat) (W:List Nat):Prop where
 len:W.length=L
 lt:∀ w∈W,w<2 ^ 64
 at_:∀ i,QN W i=(l.take j).getD i false
theorem Fill.zero(l:List Bool)(L:Nat):Fill l 0 L (List.replicate L 0):=⟨by simp,fun w hw=>by rw[(List.mem_replicate.1 hw).2]; decide,fun i=>by rw[QnD]; simp⟩
theorem Fill.step{l:List Bool}{j L:Nat}{W:List Nat}(f:Fill l j L W)(hL:L=(l.length+63)/64)(hj:j<l.length):Fill l (j+1) L (Qyu W j (l.getD j false)):=by
 refine ⟨by rw[QAV,f.len],QKF f.lt _ _,fun i=>?_⟩
 rw[QD1 f.lt _ _ (by rw[f.len,hL]; omega),f.at_,Qdr,Qdr]
 by_cases h:i=j
 ·subst h; simp
 ·rw[if_neg h]
  by_cases h2:i<j
  ·have:i<j+1:=by omega
   simp[h2,this]
  ·have:¬i<j+1:=by omega
   simp[h2,this]
theorem Fill.done{l:List Bool}{L:Nat}{W:List Nat}(f:Fill l l.length L W)(hL:L=(l.length+63)/64):W=wds l:=
 Qyb (by rw[f.len,hL]) f.lt fun i=>by rw[f.at_,List.take_length]
theorem QoV(l:List Bool)(hl:l.length≤1048576)(n1 n2:Int)(L:Nat)(hL:L=(l.length+63)/64)(K:Int→Int→Int→Nat→List Int→Option R):∀ (N j:Nat) (W:List Nat),j≤l.length→l.length-j<N→Fill l j L W →
  Zm K N l n1 (j:Int) n2 (l.length:Int) L (ci W)=K n1 n2 (l.length:Int) L (ci (wds l))
 | 0,_,_,_,h,_=>by omega
 | N+1,j,W,h1,h2,f=>by
  simp only[Zm,Q6l]
  by_cases h:j<l.length
  ·rw[Q0 (by omega),Q0 (by omega),Q0 (by omega),Int.toNat_natCast,QgN W f.lt L f.len.symm j (by rw[f.len]; omega) (by omega),Q6 (by omega) (by omega),show (j:Int)+1=((j+1:Nat):Int) by omega]
   exact QoV l hl n1 n2 L hL K N (j+1) _ (by omega) (by omega) (f.step hL h)
  ·have:j=l.length:=by omega
   subst this
   rw[Q1 (by omega),f.done hL]
theorem Yy(l:List Bool)(hl:l.length≤1048576)(K:Int→List Int→Int→Option R):Y2 l K=K (l.length:Int) (ci (wds l)) 0:=by
 rw[Qa4]; unfold Q5s
 rw[QgM,if_neg (by omega),Q4B]; unfold U1
 rw[Int.toNat_natCast]
 refine (QoV l hl _ _ _ rfl _ NR 0 _ (by omega) (by have:=QT; omega) (Fill.zero l _)).trans ?_
 exact Qui (Qn l).symm K
end
end Go.Proofs.YtofblchonjfdbaaGreatDoor
namespace Go.Proofs.YtofblchonjfdbaaGreatDoor
open Go Go.Ev
section
variable {R : Type}
theorem Qsb(ws:List Nat)(a k:Nat):Zq ws a (k+1)=if QN ws (a+k)=true then Zq ws a k ||| 2 ^ k else Zq ws a k:=by
 apply Nat.eq_of_testBit_eq
 intro i
 split
 ·rename_i h
  rw[Nat.testBit_or,JX,JX,Nat.testBit_two_pow]
  by_cases e:i=k
  ·subst e; simp[h]
  ·by_cases e2:i<k
   ·simp[e2,show i<k+1 by omega,show ¬k=i by omega]
   ·simp[e2,show ¬i<k+1 by omega,show ¬k=i by omega]
 ·rename_i h
  rw[JX,JX]
  by_cases e:i=k
  ·subst e; simp at h; simp[h]
  ·by_cases e2:i<k
   ·simp[e2,show i<k+1 by omega]
   ·simp[e2,show ¬i<k+1 by omega]
theorem Qi9(n:Int)(ws:List Nat)(hw:∀ w∈ws,w<2 ^ 64)(a k:Nat)(hk:k≤64)(hi:a+k≤64*ws.length)(ha:a<2000000)(K0:Int→Option R):∀ (N j:Nat),j≤k→k-j<N →
  Zv K0 N (a:Int) (k:Int) ((Zq ws a j:Nat):Int) (j:Int) n (ci ws)=K0 ((Zq ws a k:Nat):Int)
 | 0,_,_,h=>by omega
 | N+1,j,hj,hN=>by
  simp only[Zv,Q7i]
  by_cases h:j<k
  ·rw[Q0 (by omega),Q6 (by omega) (by omega),←Int.natCast_add,ZJ n ws hw (a+j) (by omega) (by omega)]
   have ih:=Qi9 n ws hw a k hk hi ha K0 N (j+1) (by omega) (by omega)
   have hp:2 ^ j<2 ^ 64:=Nat.pow_lt_pow_right (by decide) (by omega)
   have hs:Zq ws a j<2 ^ 64:=Nat.lt_of_lt_of_le (Q8H ws a j) (Nat.pow_le_pow_right (by decide) (by omega))
   rw[Qsb]at ih
   rw[Q6 (by omega) (by omega),show (j:Int)+1=((j+1:Nat):Int) by omega]
   cases hb:QN ws (a+j) with
   | true=>
    rw[hb,if_pos rfl]at ih
    rw[Ev.Q8,ZL (by omega) (by omega),Q0 (by omega),show (1:Int)=((1:Nat):Int) from rfl,Q3i _ _ (by omega),Nat.one_mul,Nat.mod_eq_of_lt hp,QbB _ _ hs hp]
    exact ih
   | false=>
    rw[hb,if_neg (by decide)]at ih
    rw[Ev.Q5]
    exact ih
  ·have:j=k:=by omega
   subst this
   rw[Q1 (by omega)]
theorem Q11(n:Int)(ws:List Nat)(hw:Ws ws)(a k:Int)(K:Int→Int→Option R):Jg n (ci ws) a k K=K (Qah n ws a k).1 (Qah n ws a k).2:=by
 rw[Q8B]; unfold Q41 Qah
 rw[Qq n ws hw]
 cases hok:QM n ws with
 | false=>rw[Bool.not_false,Ev.Q8,if_neg (by simp)]
 | true=>
  rw[Bool.not_true,Ev.Q5]
  by_cases h1:k<0
  ·rw[Q0 h1,if_neg (by omega)]
  by_cases h2:64<k
  ·rw[Q1 h1,Q0 h2,if_neg (by omega)]
  obtain ⟨h3,h4,h5⟩:=Qds hok
  rw[Q1 h1,Q1 h2,if_pos ⟨rfl,by omega⟩,Q5C]; unfold Q0W
  by_cases h6:a<0
  ·rw[Q0 h6,if_pos (by omega)]
  by_cases h7:n<a
  ·rw[Q1 h6,Q0 h7,if_pos (by omega)]
  rw[Q1 h6,Q1 h7,Qp (by omega) (by omega)]
  by_cases h8:n-a<k
  ·rw[Q0 h8,if_pos (by omega)]
  rw[Q1 h8,if_neg (by omega),Q5B]; unfold Q0V
  obtain ⟨a,rfl⟩:∃ b:Nat,a=(b:Int):=⟨a.toNat,by omega⟩
  obtain ⟨k,rfl⟩:∃ b:Nat,k=(b:Int):=⟨k.toNat,by omega⟩
  rw[Q5A]; unfold Uo
  refine (Qi9 n ws hw.1 a k (by omega) (by omega) (by omega) _ NR 0 (by omega) (by have:=QT; omega)).trans ?_
  rw[Int.toNat_natCast,Int.toNat_natCast]
end
end Go.Proofs.YtofblchonjfdbaaGreatDoor
namespace Go.Proofs.YtofblchonjfdbaaGreatDoor
open Go Go.Ev
section
variable {R : Type}
theorem QkI(n:Int)(ws:List Nat)(hw:Ws ws)(i:Int)(K:Bool→Int→Option R):Q4j n (ci ws) i K=K (QhV n ws i).1 (QhV n ws i).2:=by
 rw[Qaq]; unfold Q6A
 rw[Qq n ws hw]
 cases hok:QM n ws with
 | false=>simp[QhV,hok,sel]
 | true=>
  obtain ⟨a1,a2,a3⟩:=Qds hok
  rw[Bool.not_true,Ev.Q5]
  by_cases h3:i<0
  ·rw[Q0 h3]; simp[QhV,hok,h3]
  rw[Q1 h3]
  by_cases h4:n≤i
  ·rw[Q0 h4]; simp[QhV,hok,h4]
  rw[Q1 h4,Q6V]; unfold Q2i
  obtain ⟨q,rfl⟩:∃ q:Nat,i=(q:Int):=⟨i.toNat,by omega⟩
  rw[ZJ n ws hw.1 q (by omega) (by omega)]
  have:QhV n ws (q:Int)=(QN ws q,0):=by
   have h5:¬((q:Int)<0∨n≤(q:Int)):=by omega
   simp only[QhV,hok,if_true,h5,if_false,Int.toNat_natCast]
  rw[this]
theorem QoU(l:List Bool)(hl:l.length≤1048576)(k:Nat)(hk:k≤l.length)(K:Int→Option R):∀ (N i:Nat),i≤k→k-i<N →
  ZP K N (k:Int) ((Qg l true i:Nat):Int) (i:Int) (l.length:Int) (ci (wds l))=K ((Qg l true k:Nat):Int)
 | 0,_,_,h=>by omega
 | N+1,i,h1,h2=>by
  simp only[ZP,Q8n]
  by_cases h:i<k
  ·have hc:Qg l true (i+1)=Qg l true i+(l.getD i false==true).toNat:=rfl
   have hle:=Q0H l true i
   have ih:=QoU l hl k hk K N (i+1) (by omega) (by omega)
   rw[Q0 (by omega),Q0 (by omega),Qq _ _ (Ws.wds hl),Yl l hl,Ev.Q8,Q6d]
   unfold Q1A
   rw[ZJ _ _ (fun w hw=>Q48 hw) i (by rw[Qn]; omega) (by omega),ZU]
   cases hb:l.getD i false with
   | true=>
    rw[hb]at hc
    rw[Ev.Q8]
    try dsimp only
    rw[Q6 (by omega) (by omega),Q6 (by omega) (by omega),show (i:Int)+1=((i+1:Nat):Int) by omega,show ((Qg l true i:Nat):Int)+1=((Qg l true (i+1):Nat):Int) by rw[hc]; rfl]
    exact ih
   | false=>
    rw[hb]at hc
    rw[Ev.Q5]
    try dsimp only
    rw[Q6 (by omega) (by omega),show (i:Int)+1=((i+1:Nat):Int) by omega,show Qg l true i=Qg l true (i+1) by rw[hc]; rfl]
    exact ih
  ·have:i=k:=by omega
   subst this
   rw[Q1 (by omega)]
theorem Q49(l:List Bool)(hl:l.length≤1048576)(k:Nat)(hk:k≤l.length)(K:Int→Option R):Ud (l.length:Int) (ci (wds l)) (k:Int) K=K ((Qg l true k:Nat):Int):=by
 rw[Q9Y]; unfold Q5h
 rw[Q6e]; unfold UR
 exact QoU l hl k hk _ NR 0 (Nat.zero_le _) (by have:=QT; omega)
end
end Go.Proofs.YtofblchonjfdbaaGreatDoor
namespace Go.Proofs.YtofblchonjfdbaaGreatDoor
open Go Go.Ev
section
variable {R : Type}
theorem QNK(n:Nat)(h:n<4611686018427387904):Qu .i64 (n:Int) 512=((n/512:Nat):Int):=by rw[Jh (by omega) (by omega) (by omega)]; omega
theorem QAT(l:List Bool)(hl:l.length≤1048576)(f g:Int)(ys:List Int)(K:Int→List Int→Int→Int→List Int→Nat→List Int→Option R):∀ (N i:Nat),i≤l.length/512+1→l.length/512+1-i<N →
  Zs K N (i:Int) (l.length:Int) (ci (wds l)) f g ys i (Qou (wds l) i)=K (l.length:Int) (ci (wds l)) f g ys (l.length/512+1) (Qcy l)
 | 0,_,_,h=>by omega
 | N+1,i,h1,h2=>by
  simp only[Zs,Q74]
  rw[QNK _ (by omega)]
  by_cases h:i≤l.length/512
  ·have ih:=QAT l hl f g ys K N (i+1) (by omega) (by omega)
   rw[Q0 (by omega),Ze (by omega) (by omega),show (512:Int)*(i:Int)=((512*i:Nat):Int) by omega,Q49 l hl _ (by omega),Q0 (Q8N _ _),Q0 (by omega),Qm,QeS,Qx2,Q6 (by omega) (by omega),show (i:Int)+1=((i+1:Nat):Int) by omega]
   exact ih
  ·have:i=l.length/512+1:=by omega
   subst this
   rw[Q1 (by omega)]
   rfl
theorem QAU(l:List Bool)(hl:l.length≤1048576)(f g:Int)(ys:List Int)(K:Int→Int→List Int→Nat→Nat→List Int→List Int→Option R):∀ (N j:Nat),j≤(l.length+63)/64→(l.length+63)/64-j<N →
  Zj K N (j:Int) (l.length:Int) (ci (wds l)) f g ys (l.length/512+1) j (Qcy l) (QqQ (wds l) j)=K f g ys (l.length/512+1) ((l.length+63)/64) (Qcy l) (Qf2 l)
 | 0,_,_,h=>by omega
 | N+1,j,h1,h2=>by
  simp only[Zj,Q6f]
  rw[Qb,Qn]
  by_cases h:j<(l.length+63)/64
  ·have ih:=QAU l hl f g ys K N (j+1) (by omega) (by omega)
   have hp:=QnE (wds l) (64*j)
   have hm:=QuR (wds l) (show 512*(j/8)≤64*j by omega)
   rw[Q0 (by omega),Ze (by omega) (by omega),show (64:Int)*(j:Int)=((64*j:Nat):Int) by omega,Q49 l hl _ (by omega),QNI _ (by omega),Q0 (by omega),Q0 (by omega),Int.toNat_natCast,Q0 (by rw[ZB]; omega)]
   have e:(Qcy l).getD (j/8) 0=((pcb (wds l) (512*(j/8)):Nat):Int):=QuQ _ (by omega)
   rw[e,QeS,Qp (by omega) (by omega),Q0 (Qcd _ _),Q0 (by omega),Qm,Qx3,Q6 (by omega) (by omega),show (j:Int)+1=((j+1:Nat):Int) by omega]
   exact ih
  ·have:j=(l.length+63)/64:=by omega
   subst this
   rw[Q1 (by omega)]
   rfl
theorem Q10(n:Int)(ws:List Nat)(hw:Ws ws)(K:Int→List Int→List Int→List Int→Int→Option R):
  J9 n (ci ws) K=if QM n ws=true then K n (ci ws) (Qcy (Qrj n ws)) (Qf2 (Qrj n ws)) 0 else K 0 [] [] [] 2:=by
 rw[Q8o]; unfold Q3O
 rw[Qq n ws hw]
 cases hok:QM n ws with
 | false=>rfl
 | true=>
  obtain ⟨l,rfl,rfl,hl⟩:=Q3t hok hw.1
  rw[Bool.not_true,Ev.Q5,if_pos rfl,UA,Q5i]
  unfold Uj
  refine (show _=_ from QAT (R:=R) l hl 0 (l.length:Int) (ci (wds l)) _ NR 0 (by omega) (by have:=QT; omega)).trans ?_
  rw[Q4t]; unfold YW
  refine (show _=_ from QAU (R:=R) l hl 0 (l.length:Int) (ci (wds l)) _ NR 0 (by omega) (by have:=QT; omega)).trans ?_
  rw[Q0 (ZB l).symm,Q0 (Yg l).symm]
theorem Yx(n m:Int)(ws vs us1 us2 vs1 vs2:List Int)(h1:ws.length<4000000000)(h2:us1.length<4000000000)(h3:vs1.length<4000000000)(K:Bool→Option R):
  JQ n ws us1 vs1 m vs us2 vs2 K=K (decide (n=m∧ws=vs)&&(decide (us1=us2)&&decide (vs1=vs2))):=by
 rw[Qa6]; unfold Q5u
 rw[Zd _ _ _ _ h1,YJ _ _ h2]
 cases decide (n=m∧ws=vs) with
 | false=>rfl
 | true=>
  rw[Ev.Q8,YJ _ _ h3]
  cases decide (us1=us2)<;>rfl
theorem Q7r(n:Int)(ws:List Nat)(hw:Ws ws)(us vs:List Int)(hu:us.length<4000000000)(hv:vs.length<4000000000)(K:Bool→Option R):Je n (ci ws) us vs K=K (okP n ws us vs):=by
 rw[Q8y]; unfold Q3Y
 rw[Q10 n ws hw]
 cases hok:QM n ws with
 | false=>rw[if_neg (by decide),Q1 (by decide)]; simp[okP,hok]
 | true=>
  have hlen:=Qds hok
  rw[if_pos rfl,Q0 rfl,Yx _ _ _ _ _ _ _ _ (by rw[Qb]; omega) hu hv]
  simp[okP,hok]
theorem Qi8(n:Int)(ws:List Nat)(hw:Ws ws)(us vs:List Int)(hu:us.length<4000000000)(hv:vs.length<4000000000)(K:Int→Option R):Q2c n (ci ws) us vs K=K (Qx1 n ws us vs):=by
 rw[Q90]; unfold Q4Y Qx1
 rw[Q7r n ws hw us vs hu hv]
 cases hok:okP n ws us vs with
 | false=>rfl
 | true=>
  obtain ⟨l,rfl,rfl,hl,rfl,rfl⟩:=QuP hok hw.1
  rw[Bool.not_true,Ev.Q5,if_pos rfl,Ze (by omega) (by omega),Ze (by omega) (by omega),Q6 (a:=(l.length:Int)) (by omega) (by omega),Q6 (by omega) (by omega)]
theorem Q7s(n:Int)(ws:List Nat)(hw:Ws ws)(us vs:List Int)(hu:us.length<4000000000)(hv:vs.length<4000000000)(K:Int→List Int→Bool→Option R):Jf n (ci ws) us vs K=if okP n ws us vs=true then K n (ci ws) true else K 0 [] false:=by
 rw[Q8z]; unfold Q3Z
 rw[Q7r n ws hw us vs hu hv]
 cases okP n ws us vs<;>rfl
end
end Go.Proofs.YtofblchonjfdbaaGreatDoor
namespace Go.Proofs.YtofblchonjfdbaaGreatDoor
open Go Go.Ev
section
variable {R : Type}
theorem Qam(x:Nat)(hx:x<2 ^ 64)(K:Int→Option R)(K1:Unit→Option R)(hK:K1 ()=K 0):∀ (N i:Nat),i≤64→x<2 ^ i→i<N→Y6 K K1 N (x:Int) (i:Int)=K ((bitLen x:Nat):Int)
 | 0,_,_,_,h=>by omega
 | N+1,i,hi,hlt,hN=>by
  simp only[Y6,Qa0]
  by_cases h:i=0
  ·subst h
   simp at hlt; subst hlt
   rw[Q1 (by omega),hK]; rfl
  ·rw[Q0 (by omega),Qp (by omega) (by omega),show (i:Int)-1=((i-1:Nat):Int) by omega,ZL (by omega) (by omega),Q0 (by omega),Q0F _ _ hx,show (2:Int)=((2:Nat):Int) from rfl,Qai]
   by_cases hb:x/2 ^ (i-1)%2=1
   ·rw[Q0 (by omega),QGn hlt fun _=>(QfL x (i-1)).1 hb]
   ·rw[Q1 (by omega)]
    refine Qam x hx K K1 hK N (i-1) (by omega) ?_ (by omega)
    obtain ⟨j,rfl⟩:∃ j,i=j+1:=⟨i-1,by omega⟩
    rw[Nat.add_sub_cancel]at hb ⊢
    have h1:x/2 ^ j<2:=by rw[Nat.div_lt_iff_lt_mul (Nat.two_pow_pos j)]; rw[Nat.pow_succ]at hlt; omega
    have h2:x/2 ^ j=0:=by
     generalize x/2 ^ j=q at h1 hb
     omega
    exact (Nat.div_eq_zero_iff_lt (Nat.two_pow_pos j)).1 h2
theorem Q2V(x:Nat)(hx:x<2 ^ 64)(K:Int→Option R):UT (x:Int) K=K ((bitLen x:Nat):Int):=by
 rw[Qay]; unfold Q6H
 rw[Q78]; unfold Jp
 exact Qam x hx _ _ rfl NR 64 (by decide) hx (by have:=QT; omega)
end
end Go.Proofs.YtofblchonjfdbaaGreatDoor
namespace Go.Proofs.YtofblchonjfdbaaGreatDoor
open Go Go.Ev
section
variable {R : Type}
theorem Zx(N w n:Int)(ws:List Nat)(hw:Ws ws)(K:Bool→Option R):Yf N w n (ci ws) K=K (okI N w n ws):=by
 rw[Q8A]; unfold Q40 okI
 by_cases h1:1≤w
 ·rw[Q0 h1]
  by_cases h2:w≤64
  ·rw[Q0 h2]
   by_cases h3:0≤N
   ·rw[Q0 h3]
    by_cases h4:N≤1048576
    ·obtain ⟨a,rfl⟩:∃ a:Nat,N=(a:Int):=⟨N.toNat,by omega⟩
     obtain ⟨b,rfl⟩:∃ b:Nat,w=(b:Int):=⟨w.toNat,by omega⟩
     have hm:a*b≤1048576*64:=Nat.mul_le_mul (by omega) (by omega)
     rw[Q0 h4,Qq n ws hw,decide_eq_true (show (1:Int)≤(b:Int)∧(b:Int)≤64∧(0:Int)≤(a:Int)∧(a:Int)≤1048576 from ⟨h1,h2,h3,h4⟩),Bool.true_and,Ze (by rw[←Int.natCast_mul]; omega) (by rw[←Int.natCast_mul]; omega)]
     cases QM n ws<;>rfl
    ·rw[Q1 h4,decide_eq_false (by omega)]; rfl
   ·rw[Q1 h3,decide_eq_false (by omega)]; rfl
  ·rw[Q1 h2,decide_eq_false (by omega)]; rfl
 ·rw[Q1 h1,decide_eq_false (by omega)]; rfl
theorem Qic(u:Nat)(hu:u<2 ^ 64)(w:Int)(K:Bool→Option R):Q2B (u:Int) w K=K (decide (((bitLen u:Nat):Int)≤w)):=by
 rw[Qa2]; unfold Q5q
 rw[Q2V u hu]
theorem Qrt(u k:Nat):Q2T u (k+1)=Q2T u k++[u.testBit k]:=by simp[Q2T,List.range_succ]
theorem Qyw(u k:Nat)(hu:u<2 ^ 64)(hk:k≤64):decide (YP (ZC .u64 (u:Int) (QV .u64 (k:Int))) 2=1)=u.testBit k:=by
 rw[ZL (by omega) (by omega),Q0F _ _ hu,show (2:Int)=((2:Nat):Int) from rfl,Qai,Bool.eq_iff_iff,decide_eq_true_iff,←QfL]
 omega
theorem QKH{us:List Nat}{w:Nat}(hw1:1≤w)(h:QkD us≤w):∀ j,j<us.length→bitLen (us.getD j 0)≤w:=fun j hj=>Nat.le_trans (Qrl us us.length j hj) h
theorem QKI{us:List Nat}{w:Nat}(hw1:1≤w)(h:¬QkD us≤w):∃ j,j<us.length∧w<bitLen (us.getD j 0):=by
 rcases Qyi us us.length with e|⟨j,h1,h2⟩
 ·unfold QkD at h; omega
 ·exact ⟨j,h1,by unfold QkD at h; omega⟩
theorem QqR(us:List Nat)(hu:∀ u∈us,u<2 ^ 64)(w:Nat)(hw:w≤64)(i:Nat)(hi:i<us.length)(hi2:us.length<1000000000)(B:List Bool)(hB:B.length+w≤1048576)(a b c:Int)(K0:Int→List Int→Nat→Int→Int→Int→Int→List Bool→Option R):∀ (N k:Nat),k≤w→w-k<N →
  Zu K0 N (w:Int) (ci us) (B.length+k) (i:Int) (k:Int) a b c (B++Q2T (us.getD i 0) k)=K0 (w:Int) (ci us) (B.length+w) (i:Int) a b c (B++Q2T (us.getD i 0) w)
 | 0,_,_,h=>by omega
 | N+1,k,h1,h2=>by
  simp only[Zu,Q7b]
  by_cases h:k<w
  ·have hx:=Z5 hu i
   have e:B++Q2T (us.getD i 0) k++[decide (YP (ZC .u64 ((us.getD i 0:Nat):Int) (QV .u64 (k:Int))) 2=1)]=B++Q2T (us.getD i 0) (k+1):=by
    rw[Qyw _ _ hx (by omega),Qrt,List.append_assoc]
   rw[Q0 (by omega),Q0 (by omega),Qb,Q0 (by omega),Int.toNat_natCast,Zp,Q0 (by rw[ZL (by omega) (by omega)]; omega),Qm,Q0 (by rw[List.length_append,QA]),Q0 (by omega),Qm,e,Q6 (by omega) (by omega),show (k:Int)+1=((k+1:Nat):Int) by omega,show B.length+k+1=B.length+(k+1) by omega]
   exact QqR us hu w hw i hi hi2 B hB a b c K0 N (k+1) (by omega) (by omega)
  ·have:k=w:=by omega
   subst this
   rw[Q1 (by omega)]
open Classical in
theorem Qse(us:List Nat)(hu:∀ u∈us,u<2 ^ 64)(w:Nat)(hw:w≤64)(hm:us.length*w≤1048576)(hl:us.length<1000000000)(a b c:Int)(K0:Int→Int→Int→Int→Option R)(K1:Int→List Int→Nat→Int→Int→Int→List Bool→Option R):∀ (N i:Nat),i≤us.length→us.length-i<N →
  Za K0 K1 N (w:Int) (ci us) (i*w) (i:Int) a b c (Zg w (us.take i))=if ∀ j,i≤j→j<us.length→bitLen (us.getD j 0)≤w then K1 (w:Int) (ci us) (us.length*w) a b c (Zg w us) else K0 2 0 0 0
 | 0,_,_,h=>by omega
 | N+1,i,h1,h2=>by
  simp only[Za,Q8s]
  by_cases h:i<us.length
  ·have hi:(i+1)*w≤us.length*w:=Nat.mul_le_mul_right _ (by omega)
   have e1:(i+1)*w=i*w+w:=by rw[Nat.add_mul]; omega
   have hc:(Zg w (us.take i)).length=i*w:=by rw[ZA,List.length_take,Nat.min_eq_left (by omega)]
   rw[Q0 (by rw[Qb]; omega),Q0 (by omega),Q0 (by rw[Qb]; omega),Int.toNat_natCast,Zp,Qic _ (Z5 hu i)]
   by_cases h3:bitLen (us.getD i 0)≤w
   ·have hb:=QqR us hu w hw i h hl (Zg w (us.take i)) (by omega) a b c
     (fun vc vd ve vf vg vh vi vj=>Za K0 K1 N vc vd ve (Qe .i64 vf 1) vg vh vi vj) NR 0 (by omega) (by have:=QT; omega)
    have e0:Zg w (us.take i)++Q2T (us.getD i 0) 0=Zg w (us.take i):=by simp[Q2T]
    rw[hc,e0,←QwK us w h,Nat.add_zero,←e1]at hb
    rw[decide_eq_true (by omega),Bool.not_true,Ev.Q5,Q5r]; unfold Um
    refine (show _=_ from hb).trans ?_
    rw[Q6 (by omega) (by omega),show (i:Int)+1=((i+1:Nat):Int) by omega,Qse us hu w hw hm hl a b c K0 K1 N (i+1) (by omega) (by omega)]
    by_cases h4:∀ j,i+1≤j→j<us.length→bitLen (us.getD j 0)≤w
    ·have h5:∀ j,i≤j→j<us.length→bitLen (us.getD j 0)≤w:=fun j hj1 hj2=>by
      by_cases hj:j=i
      ·subst hj; exact h3
      ·exact h4 j (by omega) hj2
     rw[if_pos h4,if_pos h5]
    ·rw[if_neg h4,if_neg (fun h5=>h4 fun j hj1 hj2=>h5 j (by omega) hj2)]
   ·rw[decide_eq_false (by omega),Bool.not_false,Ev.Q8,if_neg (fun h5=>h3 (h5 i (Nat.le_refl _) h))]
  ·have:i=us.length:=by omega
   subst this
   rw[Q1 (by rw[Qb]; omega),List.take_length,if_pos (fun j hj1 hj2=>by omega)]
theorem QpA(us:List Nat)(hu:∀ u∈us,u<2 ^ 64)(w:Nat)(hw:w≤64)(hw1:1≤w)(hm:us.length*w≤1048576)(a b c:Int)(K0:Int→Int→Int→Int→Option R)(K1:Int→Int→Int→Int→List Int→Option R):
  ZF (w:Int) (ci us) a b c K0 K1=if QkD us≤w then K1 0 (us.length:Int) (w:Int) ((us.length*w:Nat):Int) (ci (wds (Zg w us))) else K0 2 0 0 0:=by
 have hle:us.length≤us.length*w:=Nat.le_mul_of_pos_right _ hw1
 rw[Q6m]; unfold Q1J
 rw[Q6k]; unfold UV
 have hb:=fun K0 K1=>Qse (R:=R) us hu w hw hm (by omega) a b c K0 K1 NR 0 (by omega) (by have:=QT; omega)
 rw[Nat.zero_mul,List.take_zero]at hb
 refine (show _=_ from hb _ _).trans ?_
 by_cases hA:QkD us≤w
 ·rw[if_pos hA,if_pos (fun j _ hj=>QKH hw1 hA j hj),Q0 (by rw[ZA]),Q0 (by rw[ZA]),Yy _ (by rw[ZA]; omega)]
  rw[ZA,Qb]
 ·obtain ⟨j,hj,hf⟩:=QKI hw1 hA
  rw[if_neg hA,if_neg (fun h=>by have:=h j (Nat.zero_le _) hj; omega)]
theorem Q8Q(w:Int)(us:List Nat)(hu:∀ u∈us,u<2 ^ 64)(hl:us.length<1000000000)(K:Int→Int→Int→List Int→Int→Option R):
  JO w (ci us) K=K (Qc9 w us).1 (Qc9 w us).2.1 (Qc9 w us).2.2.1 (ci (Qc9 w us).2.2.2.1) (Qc9 w us).2.2.2.2:=by
 have bad:∀ (K0:Int→Int→Int→Int→Option R) (K1:Int→List Int→Int→Int→Int→Option R),ZE w (ci us) true 0 0 0 K0 K1=K0 2 0 0 0:=fun K0 K1=>by
  rw[Q0f]; unfold UU; rfl
 rw[Qa5]; unfold Q0z
 by_cases h1:w<1
 ·rw[Q0 h1,bad,Qag (by omega)]; rfl
 by_cases h2:64<w
 ·rw[Q1 h1,Q0 h2,bad,Qag (by omega)]; rfl
 obtain ⟨v,rfl⟩:∃ v:Nat,w=(v:Int):=⟨w.toNat,by omega⟩
 have hle:us.length≤us.length*v:=Nat.le_mul_of_pos_right _ (by omega)
 rw[Q1 h1,Q1 h2,Qb]
 by_cases h3:1048576<us.length
 ·rw[Q0 (by omega),bad,Qag (by rw[←Int.natCast_mul]; omega)]; rfl
 have hm:us.length*v≤1048576*64:=Nat.mul_le_mul (by omega) (by omega)
 rw[Q1 (by omega),Ze (by rw[←Int.natCast_mul]; omega) (by rw[←Int.natCast_mul]; omega)]
 by_cases h4:us.length*v≤1048576
 ·rw[decide_eq_false (by rw[←Int.natCast_mul]; omega),Q0f]; unfold UU
  rw[Ev.Q5]
  dsimp only
  rw[QpA us hu v (by omega) (by omega) h4]
  by_cases h5:QkD us≤v
  ·rw[if_pos h5,Qdq (by omega) (by omega) h4 h5]
  ·rw[if_neg h5,Qag (by omega)]; rfl
 ·rw[decide_eq_true (by rw[←Int.natCast_mul]; omega),bad,Qag (by rw[←Int.natCast_mul]; omega)]; rfl
theorem QkM(N w n:Int)(ws:List Nat)(hw:Ws ws)(i:Int)(K:Int→Int→Option R):Q4D N w n (ci ws) i K=K (Qsy N w n ws i).1 (Qsy N w n ws i).2:=by
 rw[QaB]; unfold Q6K Qsy
 rw[Zx N w n ws hw]
 cases hok:okI N w n ws with
 | false=>rfl
 | true=>
  rw[Bool.not_true,Ev.Q5,if_pos rfl]
  by_cases h1:i<0
  ·rw[Q0 h1,if_pos (.inl h1)]
  by_cases h2:N≤i
  ·rw[Q1 h1,Q0 h2,if_pos (.inr h2)]
  rw[Q1 h1,Q1 h2,if_neg (by omega)]
  obtain ⟨a,b,l,rfl,rfl,rfl,rfl,hl,f6,f7,f8,f9⟩:=QeU hok hw.1
  obtain ⟨k,rfl⟩:∃ k:Nat,i=(k:Int):=⟨i.toNat,by omega⟩
  have hk:k<a:=by omega
  have hm:k*b≤a*b:=Nat.mul_le_mul_right _ (by omega)
  obtain ⟨_,g2,_⟩:=QCL hok hw rfl rfl
  rw[Q7j]; unfold Q2P
  rw[Ze (by rw[←Int.natCast_mul]; omega) (by rw[←Int.natCast_mul]; omega),←Int.natCast_mul,Q11 _ _ hw _ _,Qrh rfl g2 f6 f7 hk,Int.toNat_natCast,Int.toNat_natCast]
theorem QIY{N w n:Int}{ws:List Nat}(hok:okI N w n ws=true){i:Nat}(hi:(i:Int)<N):Qsy N w n ws (i:Int)=(((Zq ws (i*w.toNat) w.toNat:Nat):Int),0):=by
 unfold Qsy
 rw[if_pos hok,if_neg (by omega),Int.toNat_natCast]
theorem Qlt(a b:Nat)(n:Int)(ws:List Nat)(hw:Ws ws)(hok:okI (a:Int) (b:Int) n ws=true)(ha:a≤1048576)(K0:Nat→List Int→Option R):∀ (N i:Nat),i≤a→a-i<N →
  Zc K0 N i (i:Int) (a:Int) (b:Int) n (ci ws) (ci (Qi0 ws b i))=K0 a (ci (Qi0 ws b a))
 | 0,_,_,h=>by omega
 | N+1,i,g1,g2=>by
  simp only[Zc,Q1R]
  by_cases h:i<a
  ·rw[Q0 (by omega),Zx _ _ _ _ hw,hok,Ev.Q8,Q6s]; unfold Q1Q
   have e:ci (Qi0 ws b i)++[((Zq ws (i*b) b:Nat):Int)]=ci (Qi0 ws b (i+1)):=by rw[QwS,←Qdv]; rfl
   rw[QkM _ _ _ _ hw,QIY hok (by omega),Int.toNat_natCast]
   dsimp only
   rw[Q0 (by rw[Qb,UB]),Q0 (by omega),Qm,Q6 (by omega) (by omega),show (i:Int)+1=((i+1:Nat):Int) by omega,e]
   exact Qlt a b n ws hw hok ha K0 N (i+1) (by omega) (by omega)
  ·have:i=a:=by omega
   subst this
   rw[Q1 (by omega)]
theorem Q8R(N w n:Int)(ws:List Nat)(hw:Ws ws)(K:List Int→Option R):JW N w n (ci ws) K=K (ci (Yn N w n ws)):=by
 obtain ⟨M,hM⟩:∃ M,NR=M+1:=⟨NR-1,by have:=QT; omega⟩
 rw[Qac]; unfold Q5E Yn
 rw[Q6t]; unfold UZ
 cases hok:okI N w n ws with
 | false=>
  rw[hM]
  simp only[Zc,Q1R]
  by_cases h0:0<N
  ·rw[Q0 h0,Zx N w n ws hw,hok]; rfl
  ·rw[Q1 h0]; rfl
 | true=>
  obtain ⟨a,b,l,rfl,rfl,rfl,rfl,hl,f6,f7,f8,f9⟩:=QeU hok hw.1
  rw[if_pos rfl,Int.toNat_natCast,Int.toNat_natCast]
  refine (show _=_ from Qlt a b _ (wds l) hw hok f8 (fun v4 v5=>sel (decide (v4=List.length v5)) (K v5) none) NR 0 (by omega) (by have:=QT; omega)).trans ?_
  rw[Q0 (by rw[Qb,UB])]
theorem Q8S(N w n:Int)(ws:List Int)(N' w' n':Int)(ws':List Int)(h:ws.length<4000000000)(K:Bool→Option R):JR N w n ws N' w' n' ws' K=K (decide (N=N'∧w=w'∧n=n'∧ws=ws')):=by
 rw[Qa7]; unfold Q5v
 by_cases h1:N=N'
 ·rw[Q0 h1]
  by_cases h2:w=w'
  ·rw[Q0 h2,Zd _ _ _ _ h]
   congr 1
   rw[decide_eq_decide]
   exact ⟨fun q=>⟨h1,h2,q.1,q.2⟩,fun q=>⟨q.2.2.1,q.2.2.2⟩⟩
  ·rw[Q1 h2,decide_eq_false (fun q=>h2 q.2.1)]
 ·rw[Q1 h1,decide_eq_false (fun q=>h1 q.1)]
end
end Go.Proofs.YtofblchonjfdbaaGreatDoor
