import Derived.Calls
import Derived.Laws.Entries
import Derived.Laws.Sem
import Derived.Below
import Derived.Laws.CopyRow
import Derived.Laws.Cells
import Derived.Laws.Append
import Derived.Laws.AppendOwn
import Derived.Laws.MakeOwn
import Derived.Laws.IdiomCopy
import Derived.Laws.Slices
namespace Go.Ev
noncomputable section
universe v
theorem QDv{α:Sort v}(a:α):∃ b,b=a:=⟨a,rfl⟩
def Qa{α:Sort v}(a:α):α:=Classical.choose (QDv a)
theorem Q2{α:Sort v}(a:α):Qa a=a:=Classical.choose_spec (QDv a)
def Qe(k:IntKind)(a b:Int):Int:=Qa (k.wrap (a+b))
def QB(k:IntKind)(a b:Int):Int:=Qa (k.wrap (a-b))
def UC(k:IntKind)(a b:Int):Int:=Qa (k.wrap (a*b))
def Qu(k:IntKind)(a b:Int):Int:=Qa (k.wrap (a.tdiv b))
def YP(a b:Int):Int:=Qa (a.tmod b)
def Qap(k:IntKind)(a b:Int):Int:=Qa (k.wrap (a*2 ^ min b.toNat k.bits))
def ZC(k:IntKind)(a b:Int):Int:=Qa (a.fdiv (2 ^ min b.toNat k.bits))
def J2(k:IntKind)(a b:Int):Int:=Qa (bits .and k a b)
def orW(k:IntKind)(a b:Int):Int:=Qa (bits .or k a b)
def QPJ(k:IntKind)(a b:Int):Int:=Qa (bits .xor k a b)
def Qj6(k:IntKind)(a b:Int):Int:=Qa (bits .andNot k a b)
def QBX(k:IntKind)(n:Int):Int:=Qa (k.wrap (0-n))
def QBY(k:IntKind)(n:Int):Int:=Qa (bits .xor k (if k.signed then -1 else k.max) n)
def QV(k:IntKind)(n:Int):Int:=Qa (k.wrap n)
theorem QsJ(k:IntKind)(a b:Int):Qe k a b=k.wrap (a+b):=Q2 _
theorem Qxu(k:IntKind)(a b:Int):QB k a b=k.wrap (a-b):=Q2 _
theorem Qxv(k:IntKind)(a b:Int):UC k a b=k.wrap (a*b):=Q2 _
theorem QDw(k:IntKind)(a b:Int):Qu k a b=k.wrap (a.tdiv b):=Q2 _
theorem Qxw(a b:Int):YP a b=a.tmod b:=Q2 _
theorem Qxx(k:IntKind)(a b:Int):Qap k a b=k.wrap (a*2 ^ min b.toNat k.bits):=Q2 _
theorem Qxy(k:IntKind)(a b:Int):ZC k a b=a.fdiv (2 ^ min b.toNat k.bits):=Q2 _
theorem Qxz(k:IntKind)(a b:Int):J2 k a b=bits .and k a b:=Q2 _
theorem QBZ(k:IntKind)(a b:Int):orW k a b=bits .or k a b:=Q2 _
theorem QJA(k:IntKind)(a b:Int):QPJ k a b=bits .xor k a b:=Q2 _
theorem QtC(k:IntKind)(a b:Int):Qj6 k a b=bits .andNot k a b:=Q2 _
theorem QDx(k:IntKind)(n:Int):QBX k n=k.wrap (0-n):=Q2 _
theorem QDy(k:IntKind)(n:Int):QBY k n=bits .xor k (if k.signed then -1 else k.max) n:=Q2 _
theorem Qo2(k:IntKind)(n:Int):QV k n=k.wrap n:=Q2 _
def sel{α:Type}(b:Bool)(x y:Option α):Option α:=match b with|true=>x|false=>y
inductive Col where
 | ints (k:IntKind) (xs:List Int)
 | bools (xs:List Bool)
 | fints (k:IntKind) (xss:List (List Int))
mutual
inductive AV where
 | undef
 | int (k:IntKind) (n:Int)
 | bool (b:Bool)
 | str (s:ByteArray)
 | nilptr
 | ptr (b off:Nat)
 | fptr (c:Blk)
 | esl
 | sl (b off len sz:Nat)
 | fsl (c:Blk)
 | agg (c:Blk)
 | tup (vs:List AV)
 | fn (f:FuncId) (caps:List AV)
 | nilfn
 | nilif
 | iface (t:TypeId) (v:AV)
 | raw (v:Value)
inductive Blk where
 | ints (k:IntKind) (xs:List Int)
 | bools (xs:List Bool)
 | any (cs:List AV)
 | rows (sz:Nat) (rs:List (List AV))
 | cols (cs:List Col) (ds:List AV)
end
instance : Inhabited AV := ⟨.undef⟩
instance : Inhabited Blk := ⟨.any []⟩
inductive HB where
 | dead
 | live (c:Blk)
 | ice (c:Blk)
instance : Inhabited HB := ⟨.dead⟩
abbrev H:=List HB
structure St where
 t:List AV
 h:H
inductive Ex where
 | normal
 | exit (id:Nat)
 | goto (l:Nat)
 | ret
inductive TK where
 | int (k:IntKind)|bool|str
 | ptr (e:TypeId)|slice (e:TypeId)|array (n:Nat) (e:TypeId)
 | struct (fs:List (TypeId×Nat))|func|iface|other
structure TI where
 kind:TK
 size:Nat
 bytes:Nat
 zero:AV
def TI.isAgg(i:TI):Bool:=match i.kind with | .struct _=>true | .array _ _=>true|_=>false
structure Env where
 T:TypeId→Option TI
 F:FuncId→Option Func
 G:Nat→Option Blk
 keep:FuncId→Nat→Option (List Tmp)
 rounds:Nat
 vs:FuncId→Bool
abbrev Qj:=List AV→(R:Type)→(AV→Option R)→Option R
def QxA(a b:Nat):Nat:=match a with|0=>b|a+1=>(a+1)+b
def Qlw(a sz:Nat):Nat:=match sz with|1=>a|_=>a*sz
def Col.len:Col→Nat
 | .ints _ xs=>xs.length
 | .bools xs=>xs.length
 | .fints _ xss=>xss.length
def Col.at:Col→Nat→AV
 | .ints k xs,i=>.int k (xs.getD i 0)
 | .bools xs,i=>.bool (xs.getD i false)
 | .fints k xss,i=>.fsl (.ints k (xss.getD i []))
def Col.cut(lo hi:Nat):Col→Col
 | .ints k xs=>.ints k ((xs.take hi).drop lo)
 | .bools xs=>.bools ((xs.take hi).drop lo)
 | .fints k xss=>.fints k ((xss.take hi).drop lo)
def Col.cat:Col→Col→Option Col
 | .ints k xs,.ints k' ys=>if k=k' then some (.ints k (xs++ys)) else none
 | .bools xs,.bools ys=>some (.bools (xs++ys))
 | .fints k xs,.fints k' ys=>if k=k' then some (.fints k (xs++ys)) else none
 | _,_=>none
def Qfb:List Col→List Col→Option (List Col)
 | [],[]=>some []
 | c::cs,d::ds=>match c.cat d,Qfb cs ds with|some x,some r=>some (x::r)|_,_=>none
 | _,_=>none
def Q4R:List Col→Nat
 | []=>0
 | c::_=>c.len
def Uf(cs:List Col):Nat→Nat→List (List AV)
 | _,0=>[]
 | i,n+1=>cs.map (fun c=>c.at i)::Uf cs (i+1) n
def Blk.cells:Blk→List AV
 | .ints k xs=>xs.map (.int k)
 | .bools xs=>xs.map .bool
 | .any cs=>cs
 | .rows _ rs=>rs.flatten
 | .cols cs ds=>(Uf cs 0 (Q4R cs)).flatten++ds
def Blk.clen:Blk→Nat
 | .ints _ xs=>xs.length
 | .bools xs=>xs.length
 | .any cs=>cs.length
 | .rows sz rs=>Qlw rs.length sz
 | .cols cs ds=>match ds with|[]=>Qlw (Q4R cs) cs.length|ds=>Qlw (Q4R cs) cs.length+ds.length
def Blk.num:Blk→Nat
 | .ints _ xs=>xs.length
 | .bools xs=>xs.length
 | .any cs=>cs.length
 | .rows _ rs=>rs.length
 | .cols cs ds=>match ds with|[]=>Q4R cs|ds=>Q4R cs+ds.length/cs.length
def Blk.esz:Blk→Nat
 | .rows sz _=>sz
 | .cols cs _=>cs.length
 | _=>1
def AV.isCell:AV→Bool
 | .undef | .agg _ | .tup _ | .raw _=>false
 | _=>true
def Blk.cellsOk:Blk→Bool
 | .ints _ _ | .bools _=>true
 | .any cs=>cs.all AV.isCell
 | .rows _ rs=>rs.flatten.all AV.isCell
 | .cols _ ds=>ds.all AV.isCell
section
variable {R : Type}
def Blk.get(c:Blk)(i:Nat)(K:AV→Option R):Option R:=match c with
 | .ints k xs=>sel (decide (i<xs.length)) (K (.int k (xs.getD i 0))) none
 | .bools xs=>sel (decide (i<xs.length)) (K (.bool (xs.getD i false))) none
 | .any cs=>match cs[i]? with|some v=>K v|none=>none
 | .rows _ _=>none
 | .cols [c] []=>sel (decide (i<c.len)) (K (c.at i)) none
 | .cols _ _=>none
def Blk.set(c:Blk)(i:Nat)(v:AV)(K:Blk→Option R):Option R:=match c,v with
 | .ints k xs,.int k' n=>sel (decide (k=k')) (sel (decide (i<xs.length)) (K (.ints k (xs.set i n))) none) none
 | .bools xs,.bool b=>sel (decide (i<xs.length)) (K (.bools (xs.set i b))) none
 | .any cs,v=>sel (v.isCell) (sel (decide (i<cs.length)) (K (.any (cs.set i v))) none) none
 | _,_=>none
def Blk.sub(c:Blk)(off n:Nat)(K:Blk→Option R):Option R:=match c with
 | .ints k xs=>sel (decide (off+n≤xs.length)) (K (.ints k ((xs.drop off).take n))) none
 | .bools xs=>sel (decide (off+n≤xs.length)) (K (.bools ((xs.drop off).take n))) none
 | .any cs=>sel (decide (off+n≤cs.length)) (K (.any ((cs.drop off).take n))) none
 | .rows _ _=>none
 | .cols _ _=>none
def Blk.put(c:Blk)(off:Nat)(d:Blk)(K:Blk→Option R):Option R:=match c,d with
 | .ints k xs,.ints k' ys=>sel (decide (k=k')) (sel (decide (off+ys.length≤xs.length)) (K (.ints k (xs.take off++(ys++xs.drop (off+ys.length))))) none) none
 | .bools xs,.bools ys=>sel (decide (off+ys.length≤xs.length)) (K (.bools (xs.take off++(ys++xs.drop (off+ys.length))))) none
 | .any cs,.any ds=>sel (ds.all AV.isCell) (sel (decide (off+ds.length≤cs.length)) (K (.any (cs.take off++(ds++cs.drop (off+ds.length))))) none) none
 | .any cs,.ints k ys=>sel (decide (off+ys.length≤cs.length)) (K (.any (cs.take off++(ys.map (.int k)++cs.drop (off+ys.length))))) none
 | _,_=>none
def Blk.app(c d:Blk)(K:Blk→Option R):Option R:=match c,d with
 | .any [],d=>K d
 | .ints k xs,.ints k' ys=>sel (decide (k=k')) (K (.ints k (xs++ys))) none
 | .bools xs,.bools ys=>K (.bools (xs++ys))
 | .any cs,.any ds=>K (.any (cs++ds))
 | .ints k xs,.any []=>K (.ints k xs)
 | .bools xs,.any []=>K (.bools xs)
 | .cols cs ds,.any es=>sel (decide (es.length%cs.length=0)) (K (.cols cs (ds++es))) none
 | .cols cs [],.cols cs' []=>match Qfb cs cs' with|some q=>K (.cols q [])|none=>none
 | _,_=>none
end
def AV.blk:AV→Blk
 | .agg c=>c
 | v=>.any [v]
def QtD(k:IntKind):List AV→Option (List Int)
 | []=>some []
 | .int k' n::r=>if k=k' then (match QtD k r with|some l=>some (n::l)|none=>none) else none
 | _=>none
def QpU:List AV→Option (List Bool)
 | []=>some []
 | .bool b::r=>(match QpU r with|some l=>some (b::l)|none=>none)
 | _=>none
def QDz(i:TI)(cs:List AV):Option Blk:=match i.kind with
 | .int k=>(match QtD k cs with|some l=>some (.ints k l)|none=>none)
 | .bool=>(match QpU cs with|some l=>some (.bools l)|none=>none)
 | _=>if cs.all AV.isCell then some (.any cs) else none
def Q4S:Nat→Value→AV
 | _,.int k n=>.int k n
 | _,.bool b=>.bool b
 | _,.string s=>.str s
 | _,.pointer none=>.nilptr
 | _,.slice none 0 0=>.esl
 | _,.nilFunc=>.nilfn
 | _,.nilIface=>.nilif
 | d+1,.agg cs=>.agg (.any (cs.toList.map (Q4S d)))
 | d+1,.tuple vs=>.tup (vs.toList.map (Q4S d))
 | _,_=>.undef
def val(E:Env)(t:List AV):Operand→AV
 | .tmp i=>t.getD i .undef
 | .const v=>Q4S 3 v
 | .global g=>match E.G g with|some c=>.fptr c|none=>.undef
 | .func f=>.fn f []
section
variable {R : Type}
def QPK(op:BinOp)(a b:Int):Option Bool:=match op with
 | .eql=>some (decide (a=b)) | .neq=>some (!decide (a=b))
 | .lss=>some (decide (a<b)) | .leq=>some (decide (a≤b))
 | .gtr=>some (decide (b<a)) | .geq=>some (decide (b≤a))
 | _=>none
def QC0(E:Env)(op:BinOp)(xt:TypeId)(x y:AV)(K:AV→Option R):Option R:=match x,y with
 | .int k a,.int k' b=>match op with
  | .shl=>sel (decide (0≤b)) (K (.int k (Qap k a b))) none
  | .shr=>sel (decide (0≤b)) (K (.int k (ZC k a b))) none
  | op=>sel (decide (k=k')) (match op with
   | .add=>K (.int k (Qe k a b)) | .sub=>K (.int k (QB k a b)) | .mul=>K (.int k (UC k a b))
   | .quo=>sel (decide (b=0)) none (K (.int k (Qu k a b))) | .rem=>sel (decide (b=0)) none (K (.int k (YP a b)))
   | .and=>K (.int k (J2 k a b)) | .or=>K (.int k (orW k a b)) | .xor=>K (.int k (QPJ k a b)) | .andNot=>K (.int k (Qj6 k a b))
   | op=>match QPK op a b with|some c=>K (.bool c)|none=>none) none
 | .bool a,.bool b=>match E.T xt with
  | some { kind:=.bool,.. }=>(match op with
   | .eql=>K (.bool (a==b)) | .neq=>K (.bool (!(a==b)))
   | _=>none)
  | _=>none
 | _,_=>none
def QtE:Operand→Bool
 | .const _=>true
 | _=>false
def QHy(E:Env)(t:TypeId):Bool:=match E.T t with|some { kind:=.iface,.. }=>true|_=>false
def ifA(E:Env)(op:BinOp)(xt:TypeId)(x y:Operand)(a b:AV):Option Bool:=match a,b with
 | .nilif,.nilif=>(match (QtE x||QtE y)&&QHy E xt with|true=>(match op with | .eql=>some true | .neq=>some false|_=>none)|false=>none)
 | .iface _ _,.nilif=>(match QHy E xt with|true=>(match op with | .eql=>some false | .neq=>some true|_=>none)|false=>none)
 | .nilif,.iface _ _=>(match QHy E xt with|true=>(match op with | .eql=>some false | .neq=>some true|_=>none)|false=>none)
 | _,_=>none
def agA(E:Env)(op:BinOp)(xt:TypeId)(x y:AV):Option Bool:=match E.T xt with
 | some { kind:=.struct _,zero:=.agg (.any [.int k0 0,.int k1 0]),.. }=>(match x,y with
  | .agg (.any [.int a0 n0,.int a1 n1]),.agg (.any [.int b0 m0,.int b1 m1])=>(match decide (a0=k0∧b0=k0∧a1=k1∧b1=k1) with
   | true=>(match op with | .eql=>some (decide (n0=m0)&&decide (n1=m1)) | .neq=>some (!(decide (n0=m0)&&decide (n1=m1)))|_=>none)
   | false=>none)
  | _,_=>none)
 | _=>none
def slA(E:Env)(op:BinOp)(xt:TypeId)(x:AV)(y:Operand):Option (Nat×Bool):=match E.T xt,y with
 | some { kind:=.slice _,.. },.const (.slice none 0 0)=>(match op with
  | .eql=>(match x with | .fsl (.ints _ xs)=>some (xs.length,false) | .fsl (.bools xs)=>some (xs.length,false) | .sl _ _ len _=>some (len,false)|_=>none)
  | .neq=>(match x with | .fsl (.ints _ xs)=>some (xs.length,true) | .fsl (.bools xs)=>some (xs.length,true) | .sl _ _ len _=>some (len,true)|_=>none)
  | _=>none)
 | _,_=>none
def unA(op:UnOp)(x:AV)(K:AV→Option R):Option R:=match op,x with
 | .neg,.int k n=>K (.int k (QBX k n))
 | .xor,.int k n=>K (.int k (QBY k n))
 | .not,.bool b=>K (.bool (!b))
 | _,_=>none
def QtF(E:Env)(t:TypeId)(c:Blk)(off:Nat)(K:AV→Option R):Option R:=match E.T t with
 | some i=>sel i.isAgg (c.sub off i.size fun d=>K (.agg d)) (c.get off K)
 | none=>none
def QtG(c:Blk)(i:Nat):Blk:=match c with
 | .ints k xs=>.any [.int k (xs.getD i 0)]
 | .bools xs=>.any [.bool (xs.getD i false)]
 | .any cs=>.any [cs.getD i .undef]
 | .rows _ rs=>.any (rs.getD i [])
 | .cols cs ds=>match ds with|[]=>.any (cs.map fun c=>c.at i)|_=>.any (List.replicate cs.length .undef)
def QdL(E:Env)(t:TypeId)(x:AV)(i:Int)(K:AV→Option R):Option R:=match E.T t with
 | some { kind:=.slice e,.. }=>match E.T e with
  | some ie=>match x with
   | .sl b off len sz=>sel (decide (ie.size=sz)) (sel (decide (0≤i)) (sel (decide (i<(len:Int))) (K (.ptr b (QxA off (Qlw i.toNat sz)))) none) none) none
   | .fsl c=>sel (decide (ie.size=c.esz)) (sel (decide (0≤i)) (sel (decide (i<(c.num:Int))) (K (.fptr (QtG c i.toNat))) none) none) none
   | _=>none
  | none=>none
 | some { kind:=.array n e,.. }=>match E.T e with
  | some ie=>match x with
   | .ptr b off=>sel (decide (0≤i)) (sel (decide (i<(n:Int))) (K (.ptr b (QxA off (Qlw i.toNat ie.size)))) none) none
   | .fptr c=>sel (decide (ie.size=c.esz)) (sel (decide (n=c.num)) (sel (decide (0≤i)) (sel (decide (i<(n:Int))) (K (.fptr (QtG c i.toNat))) none) none) none) none
   | _=>none
  | none=>none
 | _=>none
def QC1(E:Env)(t:TypeId)(x:AV)(i:Int)(K:AV→Option R):Option R:=match x with
 | .str s=>match E.T t with
  | some { kind:=.str,.. }=>sel (decide (0≤i)) (sel (decide (i<(s.size:Int))) (K (.int .u8 ((s.data.toList.getD i.toNat 0).toNat:Int))) none) none
  | _=>none
 | .agg c=>match E.T t with
  | some { kind:=.array n e,.. }=>match E.T e with
   | some ie=>sel (decide (0≤i)) (sel (decide (i<(n:Int))) (QtF E e c (Qlw i.toNat ie.size) K) none) none
   | none=>none
  | _=>none
 | _=>none
def QdM(E:Env)(s:TypeId)(x:AV)(f:Nat)(K:AV→Option R):Option R:=match E.T s with
 | some { kind:=.struct fs,.. }=>match fs[f]? with
  | some (ft,o)=>match E.T ft with
   | some i=>sel (decide (0<i.size)) (match x with
    | .ptr b off=>K (.ptr b (QxA off o))
    | .fptr c=>c.sub o i.size fun d=>K (.fptr d)
    | _=>none) none
   | none=>none
  | none=>none
 | _=>none
def QC2(E:Env)(s:TypeId)(x:AV)(f:Nat)(K:AV→Option R):Option R:=match E.T s with
 | some { kind:=.struct fs,.. }=>match fs[f]? with
  | some (ft,o)=>match x with | .agg c=>QtF E ft c o K|_=>none
  | none=>none
 | _=>none
def Qsl(x:Option AV)(d:Int):Option Int:=match x with|none=>some d|some (.int _ n)=>some n|_=>none
def Blk.cut(c:Blk)(lo hi:Nat):Blk:=match c with
 | .ints k xs=>.ints k ((xs.take hi).drop lo)
 | .bools xs=>.bools ((xs.take hi).drop lo)
 | .any cs=>.any ((cs.take hi).drop lo)
 | .rows sz rs=>.rows sz ((rs.take hi).drop lo)
 | .cols cs ds=>match ds with|[]=>.cols (cs.map (Col.cut lo hi)) []|ds=>.rows cs.length (List.replicate (min hi (Q4R cs+ds.length/cs.length)-lo) (List.replicate cs.length .undef))
def Qpd(E:Env)(t:TypeId)(x:AV)(lo hi mx:Option AV)(K:AV→Option R):Option R:=match E.T t with
 | some { kind:=.slice e,.. }=>match E.T e with
  | some ie=>match x with
   | .sl b off len sz=>match Qsl lo 0,Qsl hi len,mx,hi with
    | some l,some h,none,_=>sel (decide (ie.size=sz)) (sel (decide (0≤l)) (sel (decide (l≤h)) (sel (decide (h≤(len:Int))) (K (.sl b (QxA off (Qlw l.toNat sz)) (h.toNat-l.toNat) sz)) none) none) none) none
    | some l,some h,some (.int _ m),some _=>sel (decide (ie.size=sz)) (sel (decide (0≤l)) (sel (decide (l≤h)) (sel (decide (h≤m)) (sel (decide (m≤(len:Int))) (sel (decide (l=m)) (K .esl) (K (.sl b (QxA off (Qlw l.toNat sz)) (h.toNat-l.toNat) sz))) none) none) none) none) none
    | _,_,_,_=>none
   | .fsl c=>match Qsl lo 0,Qsl hi c.num,mx,hi with
    | some l,some h,none,_=>sel (decide (ie.size=c.esz)) (sel (decide (0≤l)) (sel (decide (l≤h)) (sel (decide (h≤(c.num:Int))) (K (.fsl (c.cut l.toNat h.toNat))) none) none) none) none
    | some l,some h,some (.int _ m),some _=>sel (decide (ie.size=c.esz)) (sel (decide (0≤l)) (sel (decide (l≤h)) (sel (decide (h≤m)) (sel (decide (m≤(c.num:Int))) (sel (decide (l=m)) (K .esl) (K (.fsl (c.cut l.toNat h.toNat)))) none) none) none) none) none
    | _,_,_,_=>none
   | .esl=>match Qsl lo 0,Qsl hi 0,mx,hi with
    | some l,some h,none,_=>sel (decide (l=0)) (sel (decide (h=0)) (K .esl) none) none
    | some l,some h,some (.int _ m),some _=>sel (decide (l=0)) (sel (decide (h=0)) (sel (decide (m=0)) (K .esl) none) none) none
    | _,_,_,_=>none
   | _=>none
  | none=>none
 | some { kind:=.str,.. }=>match x with
  | .str s=>match Qsl lo 0,Qsl hi s.size,mx with
   | some l,some h,none=>sel (decide (0≤l)) (sel (decide (l≤h)) (sel (decide (h≤(s.size:Int))) (K (.str (s.extract l.toNat h.toNat))) none) none) none
   | _,_,_=>none
  | _=>none
 | _=>none
def Qga(s:ByteArray):List Int:=s.data.toList.map fun b=>(b.toNat:Int)
def QxB(E:Env)(src dst:TypeId)(x:AV):Option ByteArray:=match E.T src,E.T dst,x with
 | some _,some { kind:=.slice e,.. },.str s=>match E.T e with
  | some { kind:=.int .u8,.. }=>some s
  | _=>none
 | _,_,_=>none
def QC3(E:Env)(src dst:TypeId)(x:AV)(K:AV→Option R):Option R:=match E.T src,E.T dst,x with
 | some _,some { kind:=.int k,.. },.int _ n=>K (.int k (QV k n))
 | _,_,_=>none
def QC4(E:Env)(t:TypeId)(x:AV)(K:AV→Option R):Option R:=match E.T t with
 | some { kind:=.slice _,.. }=>match x with
  | .sl _ _ len _=>K (.int .i64 (len:Int))
  | .esl=>K (.int .i64 0)
  | .fsl c=>K (.int .i64 (c.num:Int))
  | _=>none
 | some { kind:=.str,.. }=>match x with | .str s=>K (.int .i64 (s.size:Int))|_=>none
 | some { kind:=.array n _,.. }=>K (.int .i64 (n:Int))
 | _=>none
def max2(x y:Int):Int:=if y>x then y else x
def min2(x y:Int):Int:=if y<x then y else x
def QJB:List AV→Option AV
 | [.int k a,.int _ b]=>some (.int k (max2 a b))
 | [.int k a,.int _ b,.int _ c]=>some (.int k (max2 (max2 a b) c))
 | _=>none
def QJC:List AV→Option AV
 | [.int k a,.int _ b]=>some (.int k (min2 a b))
 | [.int k a,.int _ b,.int _ c]=>some (.int k (min2 (min2 a b) c))
 | _=>none
def Q27(h:H)(slot:Nat)(b:HB):H:=if slot<h.length then h.set slot b else h++[b]
def Qy(h:H)(b:Nat):Option Blk:=match h[b]? with
 | some (.live c)=>some c
 | some (.ice c)=>some c
 | _=>none
def Qj7(i:TI)(c:Blk)(off:Nat)(K:AV→Option R):Option R:=
 sel i.isAgg (c.sub off i.size fun d=>K (.agg d)) (c.get off K)
def Q3j(E:Env)(h:H)(t:TypeId)(x:AV)(lo hi mx:Option AV)(K:AV→Option R):Option R:=match E.T t with
 | some { kind:=.array n e,.. }=>match E.T e with
  | some ie=>match x with
   | .ptr b off=>match Qy h b with
    | some c=>match Qsl lo 0,Qsl hi n,mx with
     | some l,some g,none=>sel (decide (n≤281474976710656)) (sel (decide (off+n*ie.size≤c.clen)) (sel (decide (0≤l)) (sel (decide (l≤g)) (sel (decide (g≤(n:Int))) (K (.sl b (QxA off (Qlw l.toNat ie.size)) (g.toNat-l.toNat) ie.size)) none) none) none) none) none
     | _,_,_=>none
    | none=>none
   | _=>none
  | none=>none
 | _=>none
def QsK(E:Env)(hb:Option HB)(src dst:TypeId)(len:Nat):Option Nat:=match src.beq dst,E.T src with
 | true,some { kind:=.slice e,.. }=>match E.T e,hb with
  | some { kind:=.int .u8,.. },some (.live _)=>some len
  | _,_=>none
 | _,_=>none
def Qr0(E:Env)(h:H)(src dst:TypeId)(x:AV):Option Nat:=match x with
 | .sl b _ len _=>QsK E h[b]? src dst len
 | _=>none
def QHz(E:Env)(t:TypeId):Bool:=match E.T t with|some { kind:=.array _ _,.. }=>true|_=>false
def Qmg(E:Env)(h:H)(t:TypeId)(a:AV)(K:AV→Option R):Option R:=match E.T t with
 | some i=>match a with
  | .ptr b off=>match Qy h b with|some c=>Qj7 i c off K|none=>none
  | .fptr c=>Qj7 i c 0 K
  | _=>none
 | none=>none
def Qj8(E:Env)(h:H)(t:TypeId)(a v:AV)(K:H→Option R):Option R:=match E.T t with
 | some i=>match a with
  | .ptr b off=>match h[b]? with
   | some (.live c)=>match v with
    | .agg d=>sel (decide (d.clen=i.size)) (c.put off d fun c'=>K (h.set b (.live c'))) none
    | v=>sel (decide (i.size=1)) (c.set off v fun c'=>K (h.set b (.live c'))) none
   | _=>none
  | _=>none
 | none=>none
def Q0I(h:H)(x:AV)(K:Blk→Option R):Option R:=match x with
 | .esl=>K (.any [])
 | .fsl c=>match c with | .rows _ rs=>K (.any rs.flatten)|c=>K c
 | .sl b off len sz=>match Qy h b with
  | some c=>match off,c with
   | 0,.ints k xs=>sel (decide (len=xs.length)) (sel (decide (sz=1)) (K (.ints k xs)) none) (c.sub 0 (Qlw len sz) K)
   | 0,.bools xs=>sel (decide (len=xs.length)) (sel (decide (sz=1)) (K (.bools xs)) none) (c.sub 0 (Qlw len sz) K)
   | 0,.cols cs []=>sel (decide (len=Q4R cs)) (sel (decide (sz=cs.length)) (K (.cols cs [])) none) none
   | off,c=>c.sub off (Qlw len sz) K
  | none=>none
 | _=>none
def QHA(x:AV):Option Nat:=match x with
 | .esl=>some 0 | .fsl c=>some c.num | .sl _ _ len _=>some len|_=>none
def QFj(x:AV)(n:Nat):Bool:=match x with
 | .esl=>true | .fsl c=>decide (c.esz=n) | .sl _ _ _ sz=>decide (sz=n)|_=>false
def Qd4(E:Env)(h:H)(slot:Nat)(t:TypeId)(s x:AV)(K:AV→H→Option R):Option R:=match E.T t with
 | some { kind:=.slice e,.. }=>match E.T e with
  | some ie=>sel (decide (0<ie.size)) (sel (decide (0<ie.bytes)) (sel (QFj x ie.size) (match QHA x with
   | some m=>Q0I h x fun d=>sel d.cellsOk (match s with
    | .esl=>sel (decide (m*ie.bytes≤140737488355328)) (K (.sl slot 0 m ie.size) (Q27 h slot (.live d))) none
    | .sl b 0 len sz=>match h[b]? with
     | some (.live c)=>sel (decide (ie.size=sz)) (sel (decide (c.clen=Qlw len sz)) (sel (decide ((len+m)*ie.bytes≤140737488355328))
       (c.app d fun c'=>K (.sl slot 0 (len+m) sz) (Q27 (h.set b .dead) slot (.live c'))) none) none) none
     | _=>none
    | _=>none) none
   | none=>none) none) none) none
  | none=>none
 | _=>none
def QpV(E:Env)(h:H)(t:TypeId)(d x:AV)(K:AV→H→Option R):Option R:=match E.T t with
 | some { kind:=.slice e,.. }=>match E.T e with
  | some ie=>sel (decide (ie.size=1)) (sel (QFj x 1) (match QHA x with
   | some m=>match d with
    | .sl b off len sz=>match h[b]? with
     | some (.live c)=>sel (decide (sz=1)) (sel (decide (off+len≤c.clen)) (Q0I h x fun y=>sel y.cellsOk (sel (decide (m≤len)) (c.put off y fun c'=>K (.int .i64 (m:Int)) (h.set b (.live c'))) (y.sub 0 len fun y'=>c.put off y' fun c'=>K (.int .i64 (len:Int)) (h.set b (.live c')))) none) none) none
     | _=>none
    | _=>none
   | none=>none) none) none
  | none=>none
 | _=>none
def Qzw(i:TI)(n:Nat):Blk:=match i.kind with
 | .int k=>.ints k (List.replicate n 0)
 | .bool=>.bools (List.replicate n false)
 | _=>.any ((List.replicate n i.zero.blk.cells).flatten)
def Qj9(E:Env)(h:H)(slot:Nat)(t:TypeId)(l c:AV)(K:AV→H→Option R):Option R:=match E.T t,l,c with
 | some { kind:=.slice e,.. },.int _ l,.int _ c=>match E.T e with
  | some ie=>sel (decide (0≤l)) (sel (decide (l≤c)) (sel (decide (c≤281474976710656)) (sel (decide ((ie.bytes:Int)*c≤281474976710656))
    (K (.sl slot 0 l.toNat ie.size) (Q27 h slot (.live (Qzw ie l.toNat)))) none) none) none) none
  | none=>none
 | _,_,_=>none
def AV.partOk:AV→Bool
 | .agg _=>true
 | v=>v.isCell
def QrJ(cs:List AV):List (Nat×Nat×AV)→Option (List AV)
 | []=>some cs
 | (off,size,v)::r=>let d:=v.blk.cells; if d.length=size∧off+size≤cs.length∧v.partOk=true then QrJ (cs.take off++(d++cs.drop (off+size))) r else none
def QxC(E:Env):List (TypeId×Nat)→Option (List (Nat×Nat))
 | []=>some []
 | (ft,o)::r=>match E.T ft with
  | some k=>(match QxC E r with|some l=>some ((o,k.size)::l)|none=>none)
  | none=>none
def QaJ(pl:Nat→Option (Nat×Nat)):List (Nat×AV)→Option (List (Nat×Nat×AV))
 | []=>some []
 | (j,v)::r=>match pl j with
  | some (o,s)=>(match QaJ pl r with|some l=>some ((o,s,v)::l)|none=>none)
  | none=>none
def QxD(E:Env)(t:TypeId)(parts:List (Nat×AV)):Option AV:=match E.T t with
 | some i=>match i.kind with
  | .struct fs=>(match QxC E fs with
   | some pl=>(match QaJ (fun j=>pl[j]?) parts with
    | some ps=>(match QrJ i.zero.blk.cells ps with|some cs=>some (.agg (.any cs))|none=>none)
    | none=>none)
   | none=>none)
  | .array _ e=>(match E.T e with
   | some k=>(match QaJ (fun j=>some (j*k.size,k.size)) parts with
    | some ps=>(match QrJ i.zero.blk.cells ps with
     | some cs=>(match QDz k cs with|some c=>some (.agg c)|none=>none)
     | none=>none)
    | none=>none)
   | none=>none)
  | _=>none
 | none=>none
def Q6P(E:Env)(h:H)(slot:Nat)(t:TypeId)(len:Nat)(parts:List (Nat×AV))(K:AV→H→Option R):Option R:=match E.T t with
 | some { kind:=.slice e,.. }=>match E.T e with
  | some k=>sel (decide (len*k.size≤16777216∧len≤16777216)) (match len with
   | 0=>(match parts with|[]=>K .esl h|_=>none)
   | len=>match QaJ (fun j=>some (j*k.size,k.size)) parts with
    | some ps=>(match QrJ (Qzw k len).cells ps with
     | some cs=>(match QDz k cs with|some c=>K (.sl slot 0 len k.size) (Q27 h slot (.live c))|none=>none)
     | none=>none)
    | none=>none) none
  | none=>none
 | _=>none
abbrev Qi:=FuncId→List AV→H→Nat→(R:Type)→(AV→H→Option R)→Option R
def QdN(E:Env)(h:H)(slot:Nat)(b:Builtin)(ts:List TypeId)(xs:List AV)(K:AV→H→Option R):Option R:=match b with
 | .len=>match ts,xs with|t::_,[x]=>QC4 E t x fun v=>K v h|_,_=>none
 | .max=>match QJB xs with|some v=>K v h|none=>none
 | .min=>match QJC xs with|some v=>K v h|none=>none
 | .append=>match ts,xs with|[t,u],[s,x]=>sel (decide (t=u)) (Qd4 E h slot t s x K) none|_,_=>none
 | .copy=>match ts,xs with|t::_,[d,x]=>QpV E h t d x K|_,_=>none
 | _=>none
def Q3x(E:Env)(call:Qi)(t:List AV)(h:H)(slot:Nat)(o:Oper)(K:AV→H→Option R):Option R:=match o.op with
 | .move x | .assign x=>K (val E t x) h
 | .pick c a b=>match val E t c with | .bool u=>sel u (K (val E t a) h) (K (val E t b) h)|_=>none
 | .alloc e=>match E.T e with|some i=>K (.ptr slot 0) (Q27 h slot (.live i.zero.blk))|none=>none
 | .box e x=>match E.T e with
  | some i=>match val E t x with
   | .agg c=>sel (decide (c.clen=i.size)) (K (.ptr slot 0) (Q27 h slot (.live c))) none
   | v=>sel v.isCell (K (.ptr slot 0) (Q27 h slot (.live (.any [v])))) none
  | none=>none
 | .build ty ps=>match QxD E ty (ps.toList.map fun p=>(p.1,val E t p.2)) with|some v=>K v h|none=>none
 | .buildSlice ty len ps=>Q6P E h slot ty len (ps.toList.map fun p=>(p.1,val E t p.2)) K
 | .load ty a=>Qmg E h ty (val E t a) fun v=>K v h
 | .store ty a x=>Qj8 E h ty (val E t a) (val E t x) fun h'=>K (.tup []) h'
 | .nilCheck x=>match val E t x with | .undef | .nilptr | .nilif | .nilfn | .raw _=>none|v=>K v h
 | .binOp op xt x y _=>match ifA E op xt x y (val E t x) (val E t y) with
  | some b=>K (.bool b) h
  | none=>match slA E op xt (val E t x) y with
   | some (n,b)=>sel (decide (0<n)) (K (.bool b) h) none
   | none=>match agA E op xt (val E t x) (val E t y) with
    | some b=>K (.bool b) h
    | none=>QC0 E op xt (val E t x) (val E t y) fun v=>K v h
 | .unOp op _ x=>unA op (val E t x) fun v=>K v h
 | .convert src dst x=>match QxB E src dst (val E t x) with
  | some s=>K (.fsl (.ints .u8 (Qga s))) h
  | none=>match Qr0 E h src dst (val E t x) with
   | some len=>sel (decide (0<len)) (K (val E t x) h) none
   | none=>QC3 E src dst (val E t x) fun v=>K v h
 | .makeInterface ty x=>match E.T ty with|some i=>(match i.kind with | .iface=>none | .other=>none|_=>K (.iface ty (val E t x)) h)|none=>none
 | .makeFunc (.func f) first caps=>if first.isEmpty then K (.fn f (caps.toList.map (val E t))) h else none
 | .makeSlice ty l c=>Qj9 E h slot ty (val E t l) (val E t c) K
 | .slice ty x lo hi mx=>sel (QHz E ty) (Q3j E h ty (val E t x) (lo.map (val E t)) (hi.map (val E t)) (mx.map (val E t)) fun v=>K v h) (Qpd E ty (val E t x) (lo.map (val E t)) (hi.map (val E t)) (mx.map (val E t)) fun v=>K v h)
 | .fieldAddr s x f=>QdM E s (val E t x) f fun v=>K v h
 | .field s x f=>QC2 E s (val E t x) f fun v=>K v h
 | .indexAddr ty x i=>match val E t i with | .int _ n=>QdL E ty (val E t x) n fun v=>K v h|_=>none
 | .index ty x i=>match val E t i with | .int _ n=>QC1 E ty (val E t x) n fun v=>K v h|_=>none
 | .extract x i=>match val E t x with | .tup vs=>(match vs[i]? with|some v=>K v h|none=>none)|_=>none
 | .call c=>match c.callee with
  | .builtin b=>QdN E h slot b c.argTypes.toList (c.args.toList.map (val E t)) K
  | .value f=>match val E t f with | .fn g caps=>call g (c.args.toList.map (val E t)++caps) h slot R K|_=>none
  | _=>none
 | _=>none
def Q4G(t:List AV)(d:Option Tmp)(v:AV):List AV:=match d with|some i=>t.set i v|none=>t
end
end
end Go.Ev
namespace Go.Ev
structure Cx where
 m:Nat→Option Nat
 Wr:Nat→Prop
 w:World
def Cx.z(C:Cx):Cx:=⟨fun _=>none,C.Wr,C.w⟩
def QR(w:World)(a:Addr)(us:List Value):Prop:=∀ i u,us[i]?=some u→w.cell? (a.add i)=some u
def QMU(n:Nat)(fr:Nat×Nat):Prop:=fr.1=fr.2∨n≤fr.1
def QH(w:World)(g:Nat)(arr:Array Value)(T:TypeId):Prop:=∃ fr,w.heap[g]?=some (.cells arr T fr)∧QMU arr.size fr
theorem QH.of{w:World}{g:Nat}{arr:Array Value}{T:TypeId}(h:w.heap[g]?=some (.cells arr T (0,0))):QH w g arr T:=⟨_,h,.inl rfl⟩
theorem QH.lt{w:World}{g:Nat}{arr:Array Value}{T:TypeId}(h:QH w g arr T):g<w.heap.size:=by
 obtain ⟨fr,h,_⟩:=h
 exact (Array.getElem?_eq_some_iff.1 h).1
theorem QH.congr{w w1:World}{g:Nat}{arr:Array Value}{T:TypeId}(e:w1.heap[g]?=w.heap[g]?)(h:QH w g arr T):QH w1 g arr T:=by
 obtain ⟨fr,h,h2⟩:=h
 exact ⟨fr,by rw[e]; exact h,h2⟩
theorem QH.uniq{w:World}{g:Nat}{arr arr':Array Value}{T T':TypeId}(h:QH w g arr T)(h':QH w g arr' T'):arr=arr'∧T=T':=by
 obtain ⟨fr,h,_⟩:=h
 obtain ⟨fr',h',_⟩:=h'
 rw[h]at h'
 cases h'
 exact ⟨rfl,rfl⟩
theorem QH.cell{w:World}{g:Nat}{arr:Array Value}{T:TypeId}(h:QH w g arr T)(i:Nat):w.cell? ⟨g,i,none⟩=arr[i]?:=by
 obtain ⟨fr,h,_⟩:=h
 simp[World.cell?,h]
theorem QH.fr{w:World}{g:Nat}{arr:Array Value}{T:TypeId}(h:QH w g arr T){i:Nat}(hi:i<arr.size):w.frozen? ⟨g,i,none⟩=false:=by
 obtain ⟨fr,h,h2⟩:=h
 simp only[World.frozen?,h]
 rcases h2 with h2|h2
 ·simp; omega
 ·simp; omega
theorem QH.mark{w:World}{g:Nat}{arr:Array Value}{T:TypeId}(h:QH w g arr T):QH (w.freeze ⟨g,arr.size,none⟩ 1) g arr T:=by
 obtain ⟨⟨lo,hi⟩,h,h2⟩:=h
 have hl:=(Array.getElem?_eq_some_iff.1 h).1
 have hv:=(Array.getElem?_eq_some_iff.1 h).2
 refine ⟨if lo==hi then (arr.size,arr.size+1) else (min lo arr.size,max hi (arr.size+1)),?_,?_⟩
 ·unfold World.freeze
  rw[if_neg (by decide)]
  show (w.heap.modify g _)[g]?=_
  rw[Array.getElem?_eq_getElem (by simpa using hl),Array.getElem_modify]
  simp[hv]
 ·unfold QMU
  split
  ·exact .inr (Nat.le_refl _)
  ·rename_i hne
   have hne:lo≠hi:=by simpa using hne
   rcases h2 with h2|h2
   ·exact absurd h2 hne
   ·right
    show arr.size≤min lo arr.size
    have h2:arr.size≤lo:=h2
    omega
theorem QxE(w:World)(a:Addr)(n k:Nat)(h:k≠a.block):(w.freeze a n).heap[k]?=w.heap[k]?:=by
 unfold World.freeze
 split
 ·rfl
 ·show (w.heap.modify a.block _)[k]?=_
  rw[Array.getElem?_modify,if_neg (Ne.symm h)]
theorem Qzx(w:World)(a:Addr)(n:Nat):(w.freeze a n).heap.size=w.heap.size:=by
 unfold World.freeze
 split
 ·rfl
 ·simp
theorem Qmh(w:World)(a:Addr)(n:Nat):(w.freeze a n).os=w.os∧(w.freeze a n).tape=w.tape∧(w.freeze a n).output=w.output:=by
 unfold World.freeze
 split<;>exact ⟨rfl,rfl,rfl⟩
def Qpe(w:World)(b off n:Nat):Prop:=∃ arr T,QH w b arr T∧off+n≤arr.size
def Qgb(C:Cx):Col→Nat→Value→Prop
 | .ints k xs,i,v=>v = .int k (xs.getD i 0)
 | .bools xs,i,v=>v = .bool (xs.getD i false)
 | .fints k xss,i,v=>∃ a cap us,v = .slice a (xss.getD i []).length cap∧(xss.getD i []).length≤cap∧us=(xss.getD i []).map (Value.int k)∧us.length=(xss.getD i []).length*1∧(us=[]∨∃ p,a=some p∧p.spot=none∧¬C.Wr p.block∧QR C.w p us)
def Qmi(C:Cx):List Col→Nat→List Value→Prop
 | [],_,us=>us=[]
 | c::cs,i,us=>∃ u r,us=u::r∧Qgb C c i u∧Qmi C cs i r
def Qo3(C:Cx)(cs:List Col):Nat→Nat→List Value→Prop
 | _,0,us=>us=[]
 | i,n+1,us=>∃ u1 u2,us=u1++u2∧Qmi C cs i u1∧Qo3 C cs (i+1) n u2
mutual
def rel(C:Cx):AV→Value→Prop
 | .undef,_=>True
 | .int k n,v=>v = .int k n
 | .bool b,v=>v = .bool b
 | .str s,v=>v = .string s
 | .nilptr,v=>v = .pointer none
 | .ptr b off,v=>∃ g,C.m b=some g∧v = .pointer (some ⟨g,off,none⟩)
 | .fptr c,v=>∃ a us,v = .pointer (some a)∧a.spot=none∧Qw C.z c us∧(us=[]∨¬C.Wr a.block)∧QR C.w a us
 | .esl,v=>∃ a,v = .slice a 0 0
 | .sl b off len sz,v=>∃ a cap,v = .slice a len cap∧len≤cap∧cap≤maxLen∧(cap=0∨∃ g,C.m b=some g∧a=some ⟨g,off,none⟩∧Qpe C.w g off (cap*sz))
 | .fsl c,v=>∃ a cap us,v = .slice a c.num cap∧c.num≤cap∧Qw C.z c us∧us.length=c.num*c.esz∧(us=[]∨∃ p,a=some p∧p.spot=none∧¬C.Wr p.block∧QR C.w p us)
 | .agg c,v=>∃ us,v = .agg us.toArray∧Qw C c us
 | .tup vs,v=>∃ us,v = .tuple us.toArray∧QE C vs us
 | .fn f caps,v=>∃ us,v = .func (.func f) #[] us.toArray∧QE C caps us
 | .nilfn,v=>v = .nilFunc
 | .nilif,v=>v = .nilIface
 | .iface t x,v=>∃ u,v = .iface t u∧rel C x u
 | .raw q,v=>v=q
def Qw(C:Cx):Blk→List Value→Prop
 | .ints k xs,us=>us=xs.map (Value.int k)
 | .bools xs,us=>us=xs.map Value.bool
 | .any cs,us=>QE C cs us
 | .rows sz rs,us=>0<sz∧QaK C sz rs us
 | .cols cs ds,us=>0<cs.length∧(∀ c∈cs,c.len=Q4R cs)∧ds.length%cs.length=0∧∃ u1 u2,us=u1++u2∧Qo3 C cs 0 (Q4R cs) u1∧QE C ds u2
def QE(C:Cx):List AV→List Value→Prop
 | [],us=>us=[]
 | c::cs,us=>∃ u r,us=u::r∧rel C c u∧QE C cs r
def QaK(C:Cx)(sz:Nat):List (List AV)→List Value→Prop
 | [],us=>us=[]
 | r::rs,us=>∃ u1 u2,us=u1++u2∧r.length=sz∧QE C r u1∧QaK C sz rs u2
end
structure Step (C C':Cx):Prop where
 m:∀ b g,C.m b=some g→C'.m b=some g
 wr:∀ g,g<C.w.heap.size→C'.Wr g→C.Wr g
 keep:∀ g,g<C.w.heap.size→¬C.Wr g→C'.w.heap[g]?=C.w.heap[g]?
 shape:∀ (g:Nat) (arr:Array Value) (T:TypeId),QH C.w g arr T→∃ arr':Array Value,QH C'.w g arr' T∧arr'.size=arr.size
theorem Step.refl(C:Cx):Step C C:=⟨fun _ _ h=>h,fun _ _ h=>h,fun _ _ _=>rfl,fun _ arr _ h=>⟨arr,h,rfl⟩⟩
theorem QsL{w:World}{a:Addr}{u:Value}(h:w.cell? a=some u):a.block<w.heap.size:=by
 unfold World.cell? at h
 split at h
 ·next heq=>exact (Array.getElem?_eq_some_iff.1 heq).1
 ·simp at h
theorem Q3k(a:Addr)(i:Nat):(a.add i).block=a.block:=by unfold Addr.add; split<;>rfl
theorem Qja{C C':Cx}(S:Step C C'){a:Addr}{us:List Value}(h:QR C.w a us)(hw:us=[]∨¬C.Wr a.block):QR C'.w a us:=by
 intro i u hi
 have hc:=h i u hi
 have hne:us≠[]:=by rintro rfl; simp at hi
 have hb:(a.add i).block=a.block:=Q3k a i
 have hl:a.block<C.w.heap.size:=hb ▸ QsL hc
 have hk:=S.keep a.block hl (hw.resolve_left hne)
 rw[←hc]
 unfold World.cell?
 rw[hb,hk]
theorem QxF{C C':Cx}(S:Step C C'){a:Addr}{us:List Value}(h:QR C.w a us)(hw:us=[]∨¬C.Wr a.block):us=[]∨¬C'.Wr a.block:=by
 cases us with
 | nil=>exact .inl rfl
 | cons u r=>
  have hc:=h 0 u rfl
  have hl:a.block<C.w.heap.size:=Q3k a 0 ▸ QsL hc
  exact .inr fun hw'=>(hw.resolve_left (by simp)) (S.wr _ hl hw')
theorem Qzy{C C':Cx}(S:Step C C'){g off n:Nat}(h:Qpe C.w g off n):Qpe C'.w g off n:=by
 obtain ⟨arr,T,hg,hs⟩:=h
 obtain ⟨arr',hg',hs'⟩:=S.shape g arr T hg
 exact ⟨arr',T,hg',by omega⟩
theorem Step.z{C C':Cx}(S:Step C C'):Step C.z C'.z:=⟨fun _ _ h=>h,S.wr,S.keep,S.shape⟩
theorem Step.up(C:Cx):Step C.z C:=⟨fun _ _ h=>(by cases h),fun _ _ h=>h,fun _ _ _=>rfl,fun _ arr _ h=>⟨arr,h,rfl⟩⟩
theorem QdO{C C':Cx}(h:∀ (a:Addr) (us:List Value),us≠[]→¬C.Wr a.block→QR C.w a us→¬C'.Wr a.block∧QR C'.w a us):∀ (c:Col) (i:Nat) (v:Value),Qgb C c i v→Qgb C' c i v
 | .ints _ _,_,_,h1=>h1
 | .bools _,_,_,h1=>h1
 | .fints _ _,_,_,⟨a,cap,us,hv,hq,hr,hn,hp⟩=>⟨a,cap,us,hv,hq,hr,hn,by
   rcases hp with h1|⟨p,h1,h2,h3,h4⟩
   ·exact .inl h1
   ·by_cases he:us=[]
    ·exact .inl he
    ·obtain ⟨h5,h6⟩:=h p us he h3 h4
     exact .inr ⟨p,h1,h2,h5,h6⟩⟩
theorem QpW{C C':Cx}(h:∀ (c:Col) (i:Nat) (v:Value),Qgb C c i v→Qgb C' c i v):∀ (cs:List Col) (i:Nat) (us:List Value),Qmi C cs i us→Qmi C' cs i us
 | [],_,_,h1=>h1
 | c::cs,i,_,⟨u,r,he,h1,h2⟩=>⟨u,r,he,h c i u h1,QpW h cs i r h2⟩
theorem Q4T{C C':Cx}(h:∀ (c:Col) (i:Nat) (v:Value),Qgb C c i v→Qgb C' c i v)(cs:List Col):∀ (n i:Nat) (us:List Value),Qo3 C cs i n us→Qo3 C' cs i n us
 | 0,_,_,h1=>h1
 | n+1,i,_,⟨u1,u2,he,h1,h2⟩=>⟨u1,u2,he,QpW h cs i u1 h1,Q4T h cs n (i+1) u2 h2⟩
theorem QrK{C C':Cx}(S:Step C C'):∀ (c:Col) (i:Nat) (v:Value),Qgb C c i v→Qgb C' c i v:=QdO fun _ _ hne hw hc=>⟨(QxF S hc (.inr hw)).resolve_left hne,Qja S hc (.inr hw)⟩
mutual
theorem QbE{C C':Cx}(S:Step C C'):∀ (v:AV) (u:Value),rel C v u→rel C' v u
 | .undef,_,_=>trivial
 | .int _ _,_,h=>h
 | .bool _,_,h=>h
 | .str _,_,h=>h
 | .nilptr,_,h=>h
 | .ptr b off,_,⟨g,hm,hv⟩=>⟨g,S.m b g hm,hv⟩
 | .fptr c,_,⟨a,us,hv,hs,hr,hw,hc⟩=>⟨a,us,hv,hs,QF S.z c us hr,QxF S hc hw,Qja S hc hw⟩
 | .esl,_,h=>h
 | .sl b off len sz,_,⟨a,cap,hv,hl,hm,hp⟩=>⟨a,cap,hv,hl,hm,hp.imp id fun ⟨g,h1,h2,h3⟩=>⟨g,S.m b g h1,h2,Qzy S h3⟩⟩
 | .fsl c,_,⟨a,cap,us,hv,hq,hr,hn,hp⟩=>⟨a,cap,us,hv,hq,QF S.z c us hr,hn,by
   rcases hp with h|⟨p,h1,h2,h3,h4⟩
   ·exact .inl h
   ·rcases QxF S h4 (.inr h3) with h5|h5
    ·exact .inl h5
    ·exact .inr ⟨p,h1,h2,h5,Qja S h4 (.inr h3)⟩⟩
 | .agg c,_,⟨us,hv,hr⟩=>⟨us,hv,QF S c us hr⟩
 | .tup vs,_,⟨us,hv,hr⟩=>⟨us,hv,Jx S vs us hr⟩
 | .fn _ caps,_,⟨us,hv,hr⟩=>⟨us,hv,Jx S caps us hr⟩
 | .nilfn,_,h=>h
 | .nilif,_,h=>h
 | .iface _ x,_,⟨u,hv,hr⟩=>⟨u,hv,QbE S x u hr⟩
 | .raw _,_,h=>h
theorem QF{C C':Cx}(S:Step C C'):∀ (c:Blk) (us:List Value),Qw C c us→Qw C' c us
 | .ints _ _,_,h=>h
 | .bools _,_,h=>h
 | .any cs,us,h=>Jx S cs us h
 | .rows sz rs,us,h=>⟨h.1,Qw6 S sz rs us h.2⟩
 | .cols cs ds,_,⟨h1,h2,h0,u1,u2,he,h3,h4⟩=>⟨h1,h2,h0,u1,u2,he,Q4T (QrK S) cs _ _ u1 h3,Jx S ds u2 h4⟩
theorem Jx{C C':Cx}(S:Step C C'):∀ (cs:List AV) (us:List Value),QE C cs us→QE C' cs us
 | [],_,h=>h
 | c::cs,_,⟨u,r,he,h1,h2⟩=>⟨u,r,he,QbE S c u h1,Jx S cs r h2⟩
theorem Qw6{C C':Cx}(S:Step C C')(sz:Nat):∀ (rs:List (List AV)) (us:List Value),QaK C sz rs us→QaK C' sz rs us
 | [],_,h=>h
 | r::rs,_,⟨u1,u2,he,hl,h1,h2⟩=>⟨u1,u2,he,hl,Jx S r u1 h1,Qw6 S sz rs u2 h2⟩
end
theorem QG{C:Cx}: ∀ {cs:List AV} {us:List Value},QE C cs us→us.length=cs.length
 | [],_,h=>by have h:_=[]:=h; simp[h]
 | _::_,_,⟨_,_,he,_,h2⟩=>by rw[he]; simp[QG h2]
theorem Qfc{C:Cx}{sz:Nat}: ∀ {rs:List (List AV)} {us:List Value},QaK C sz rs us→us.length=rs.length*sz
 | [],_,h=>by have h:_=[]:=h; simp[h]
 | r::rs,_,⟨_,_,he,hl,h1,h2⟩=>by rw[he,List.length_append,QG h1,Qfc h2,hl,List.length_cons,Nat.succ_mul]; omega
theorem UF(a sz:Nat):Qlw a sz=a*sz:=by unfold Qlw; split<;>simp
theorem QpX(a b:Nat):QxA a b=a+b:=by unfold QxA; split<;>simp
theorem Qw7{C:Cx}: ∀ {c:Col} {i:Nat} {v:Value},Qgb C c i v↔rel C (c.at i) v
 | .ints _ _,_,_=>Iff.rfl
 | .bools _,_,_=>Iff.rfl
 | .fints _ _,_,_=>Iff.rfl
theorem QbF{C:Cx}: ∀ {cs:List Col} {i:Nat} {us:List Value},Qmi C cs i us↔QE C (cs.map fun c=>c.at i) us
 | [],_,_=>Iff.rfl
 | _::_,_,_=>⟨fun ⟨u,r,he,h1,h2⟩=>⟨u,r,he,Qw7.1 h1,QbF.1 h2⟩,fun ⟨u,r,he,h1,h2⟩=>⟨u,r,he,Qw7.2 h1,QbF.2 h2⟩⟩
theorem Ym{C:Cx}{cs:List Col}: ∀ {n i:Nat} {us:List Value},Qo3 C cs i n us↔QaK C cs.length (Uf cs i n) us
 | 0,_,_=>Iff.rfl
 | _+1,_,_=>⟨fun ⟨u1,u2,he,h1,h2⟩=>⟨u1,u2,he,by simp,QbF.1 h1,Ym.1 h2⟩,fun ⟨u1,u2,he,_,h1,h2⟩=>⟨u1,u2,he,QbF.2 h1,Ym.2 h2⟩⟩
theorem Q4U(cs:List Col):∀ n i,(Uf cs i n).length=n
 | 0,_=>rfl
 | n+1,i=>by simp[Uf,Q4U cs n]
theorem QdP{C:Cx}{cs:List Col}{n i:Nat}{us:List Value}(h:Qo3 C cs i n us):us.length=n*cs.length:=by
 rw[Qfc (Ym.1 h),Q4U]
theorem Q0p{C:Cx}: ∀ {c:Blk} {us:List Value},Qw C c us→us.length=c.clen
 | .ints _ _,_,h=>by have h:_=List.map _ _:=h; simp[h,Blk.clen]
 | .bools _,_,h=>by have h:_=List.map _ _:=h; simp[h,Blk.clen]
 | .any _,_,h=>QG h
 | .rows _ _,_,h=>by rw[Qfc h.2]; simp[Blk.clen,UF]
 | .cols _ [],_,⟨_,_,_,u1,u2,he,h3,h4⟩=>by
  have h4:u2=[]:=h4
  subst he h4
  simp[QdP h3,Blk.clen,UF]
 | .cols _ (_::_),_,⟨_,_,_,u1,u2,he,h3,h4⟩=>by
  subst he
  rw[List.length_append,QdP h3,QG h4]; simp[Blk.clen,UF]
theorem QbG{C:Cx}: ∀ {cs:List AV} {us:List Value} (i:Nat) (c:AV),QE C cs us→cs[i]?=some c→∃ u,us[i]?=some u∧rel C c u
 | [],_,i,_,_,h=>by simp at h
 | _::_,_,0,_,⟨u,_,he,h1,_⟩,h=>by
  simp at h; subst h; exact ⟨u,by simp[he],h1⟩
 | _::_,_,i+1,c,⟨_,r,he,_,h2⟩,h=>by
  obtain ⟨u,hu,hr⟩:=QbG i c h2 (by simpa using h)
  exact ⟨u,by simpa[he]using hu,hr⟩
theorem QtH{C:Cx}: ∀ {cs:List AV} {us:List Value} (i:Nat) (c:AV) (u:Value),QE C cs us→rel C c u→QE C (cs.set i c) (us.set i u)
 | [],_,i,_,_,h,_=>by have h:_=[]:=h; simp[h,QE]
 | _::_,_,0,_,u,⟨_,r,he,_,h2⟩,h=>by subst he; exact ⟨u,r,rfl,h,h2⟩
 | _::cs,_,i+1,c,u,⟨u0,r,he,h1,h2⟩,h=>by subst he; exact ⟨u0,r.set i u,rfl,h1,QtH i c u h2 h⟩
theorem ZX{C:Cx}: ∀ {cs ds:List AV} {us vs:List Value},QE C cs us→QE C ds vs→QE C (cs++ds) (us++vs)
 | [],_,_,_,h,h2=>by have h:_=[]:=h; subst h; exact h2
 | _::_,_,_,_,⟨u,r,he,h1,h2⟩,h3=>by subst he; exact ⟨u,r++_,rfl,h1,ZX h2 h3⟩
theorem Q84{C:Cx}: ∀ {cs:List AV} {us:List Value} (n:Nat),QE C cs us→QE C (cs.take n) (us.take n)
 | [],_,n,h=>by have h:_=[]:=h; subst h; simp[QE]
 | _::_,_,0,_=>by simp[QE]
 | _::_,_,n+1,⟨u,r,he,h1,h2⟩=>by subst he; exact ⟨u,r.take n,rfl,h1,Q84 n h2⟩
theorem Q85{C:Cx}: ∀ {cs:List AV} {us:List Value} (n:Nat),QE C cs us→QE C (cs.drop n) (us.drop n)
 | [],_,n,h=>by have h:_=[]:=h; subst h; simp[QE]
 | _::_,_,0,h=>h
 | _::_,_,n+1,⟨u,r,he,h1,h2⟩=>by subst he; exact Q85 n h2
theorem Qr1{C:Cx}(k:IntKind):∀ (xs:List Int),QE C (xs.map (.int k)) (xs.map (Value.int k))
 | []=>rfl
 | _::xs=>⟨_,_,rfl,rfl,Qr1 k xs⟩
theorem QtI{C:Cx}: ∀ (xs:List Bool),QE C (xs.map .bool) (xs.map Value.bool)
 | []=>rfl
 | _::xs=>⟨_,_,rfl,rfl,QtI xs⟩
theorem Qh8{C:Cx}{sz:Nat}: ∀ {rs:List (List AV)} {us:List Value},QaK C sz rs us→QE C rs.flatten us
 | [],_,h=>h
 | _::_,_,⟨_,_,he,_,h1,h2⟩=>by subst he; exact ZX h1 (Qh8 h2)
theorem QdQ{C:Cx}: ∀ {c:Blk} {us:List Value},Qw C c us→QE C c.cells us
 | .ints k xs,_,h=>by have h:_=List.map _ _:=h; subst h; exact Qr1 k xs
 | .bools xs,_,h=>by have h:_=List.map _ _:=h; subst h; exact QtI xs
 | .any _,_,h=>h
 | .rows _ _,_,h=>Qh8 h.2
 | .cols _ _,_,⟨_,_,_,u1,u2,he,h3,h4⟩=>by subst he; exact ZX (Qh8 (Ym.1 h3)) h4
theorem Qmj{C:Cx}{v:AV}{u:Value}(h:rel C v u):∀ n,QE C (List.replicate n v) (List.replicate n u)
 | 0=>rfl
 | n+1=>⟨u,_,rfl,h,Qmj h n⟩
theorem Qmk{C:Cx}: ∀ {v:AV} {u:Value},rel C v u→v.isCell=true→u.oneCell'=true
 | .int _ _,_,h,_=>by cases h; rfl
 | .bool _,_,h,_=>by cases h; rfl
 | .str _,_,h,_=>by cases h; rfl
 | .nilptr,_,h,_=>by cases h; rfl
 | .ptr _ _,_,⟨_,_,h⟩,_=>by cases h; rfl
 | .fptr _,_,⟨_,_,h,_⟩,_=>by cases h; rfl
 | .esl,_,⟨_,h⟩,_=>by cases h; rfl
 | .sl _ _ _ _,_,⟨_,_,h,_⟩,_=>by cases h; rfl
 | .fsl _,_,⟨_,_,_,h,_⟩,_=>by cases h; rfl
 | .fn _ _,_,⟨_,h,_⟩,_=>by cases h; rfl
 | .nilfn,_,h,_=>by cases h; rfl
 | .nilif,_,h,_=>by cases h; rfl
 | .iface _ _,_,⟨_,h,_⟩,_=>by cases h; rfl
theorem Qw8{C:Cx}: ∀ {v:AV} {u:Value},rel C v u→v.isCell=true→u.cells = #[u]
 | .int _ _,_,h,_=>by cases h; rfl
 | .bool _,_,h,_=>by cases h; rfl
 | .str _,_,h,_=>by cases h; rfl
 | .nilptr,_,h,_=>by cases h; rfl
 | .ptr _ _,_,⟨_,_,h⟩,_=>by cases h; rfl
 | .fptr _,_,⟨_,_,h,_⟩,_=>by cases h; rfl
 | .esl,_,⟨_,h⟩,_=>by cases h; rfl
 | .sl _ _ _ _,_,⟨_,_,h,_⟩,_=>by cases h; rfl
 | .fsl _,_,⟨_,_,_,h,_⟩,_=>by cases h; rfl
 | .fn _ _,_,⟨_,h,_⟩,_=>by cases h; rfl
 | .nilfn,_,h,_=>by cases h; rfl
 | .nilif,_,h,_=>by cases h; rfl
 | .iface _ _,_,⟨_,h,_⟩,_=>by cases h; rfl
end Go.Ev
namespace Go.Ev
def L(h:H)(m:Nat→Option Nat)(g:Nat):Prop:=∃ b c,h[b]?=some (.live c)∧m b=some g
def cx(X:Nat→Prop)(h:H)(m:Nat→Option Nat)(w:World):Cx:=⟨m,fun g=>X g∨L h m g,w⟩
structure Good (E:Env) (X:Nat→Prop) (h:H) (m:Nat→Option Nat) (w:World):Prop where
 hp:∀ b c,Qy h b=some c→∃ us,Qw (cx X h m w) c us∧(us=[]∧m b=none∨∃ (g:Nat) (arr:Array Value) (T:TypeId),m b=some g∧QH w g arr T∧us.length≤arr.size∧∀ (i:Nat) u,us[i]?=some u→arr[i]?=some u)
 inj:∀ b b' c c' g,Qy h b=some c→Qy h b'=some c'→m b=some g→m b'=some g→b=b'
 hi:∀ b,h.length≤b→m b=none
 own:∀ b c g,Qy h b=some c→m b=some g→¬X g∧E.G g=none
 xs:∀ g,X g→g<w.heap.size
 gl:∀ g c,E.G g=some c→g<w.heap.size∧¬X g∧∃ us,Qw (cx X h m w).z c us∧QR w ⟨g,0,none⟩ us
structure Adv (E:Env) (X:Nat→Prop) (h:H) (m:Nat→Option Nat) (w:World) (h1:H) (m1:Nat→Option Nat) (w1:World):Prop where
 good:Good E X h1 m1 w1
 ext:∀ b g,m b=some g→m1 b=some g
 L:∀ g,L h1 m1 g→Ev.L h m g∨w.heap.size≤g
 frame:∀ g,g<w.heap.size→¬Ev.L h m g→w1.heap[g]?=w.heap[g]?
 shape:∀ (g:Nat) (arr:Array Value) (T:TypeId),QH w g arr T→∃ arr':Array Value,QH w1 g arr' T∧arr'.size=arr.size
 os:w1.os=w.os
 tape:w1.tape=w.tape
 output:w1.output=w.output
 size:w.heap.size≤w1.heap.size
 len:h.length≤h1.length
section
variable {E : Env} {X : Nat → Prop} {h h1 h2 : H} {m m1 m2 : Nat → Option Nat} {w w1 w2 : World}
theorem Adv.refl(g:Good E X h m w):Adv E X h m w h m w:=
 ⟨g,fun _ _ h=>h,fun _ h=>.inl h,fun _ _ _=>rfl,fun _ arr _ h=>⟨arr,h,rfl⟩,rfl,rfl,rfl,Nat.le_refl _,Nat.le_refl _⟩
theorem Adv.trans(a:Adv E X h m w h1 m1 w1)(b:Adv E X h1 m1 w1 h2 m2 w2):Adv E X h m w h2 m2 w2 where
 good:=b.good
 ext:=fun k g hk=>b.ext k g (a.ext k g hk)
 L:=fun g hg=>by
  rcases b.L g hg with h'|h'
  ·exact a.L g h'
  ·exact .inr (Nat.le_trans a.size h')
 frame:=fun g hg hl=>by
  have h1':¬Ev.L h1 m1 g:=fun h'=>by
   rcases a.L g h' with h''|h''
   ·exact hl h''
   ·omega
  rw[b.frame g (by have:=a.size; omega) h1',a.frame g hg hl]
 shape:=fun g arr T hg=>by
  obtain ⟨arr',hg',hs'⟩:=a.shape g arr T hg
  obtain ⟨arr'',hg'',hs''⟩:=b.shape g arr' T hg'
  exact ⟨arr'',hg'',by omega⟩
 os:=b.os.trans a.os
 tape:=b.tape.trans a.tape
 output:=b.output.trans a.output
 size:=Nat.le_trans a.size b.size
 len:=Nat.le_trans a.len b.len
theorem Adv.step(a:Adv E X h m w h1 m1 w1):Step (cx X h m w) (cx X h1 m1 w1) where
 m:=a.ext
 wr:=fun g hg hw=>by
  rcases hw with hx|hl
  ·exact .inl hx
  ·rcases a.L g hl with h'|h'
   ·exact .inr h'
   ·exact absurd hg (by simp only[cx]; omega)
 keep:=fun g hg hw=>a.frame g hg (fun hl=>hw (.inr hl))
 shape:=a.shape
theorem QK{h:H}{b:Nat}{c:Blk}(hb:h[b]?=some (.live c)):Qy h b=some c:=by simp[Qy,hb]
theorem QDA(g:Good E X h m w){b:Nat}{c:Blk}{q:Nat}(hb:Qy h b=some c)(hm:m b=some q):q<w.heap.size:=by
 obtain ⟨us,_,h1⟩:=g.hp b c hb
 rcases h1 with ⟨_,h1⟩|⟨q',arr,T,h1,h2,_⟩
 ·rw[h1]at hm; cases hm
 ·rw[h1]at hm; cases hm; exact h2.lt
end
mutual
def Jt:AV→Value
 | .int k n=>.int k n
 | .bool b=>.bool b
 | .str s=>.string s
 | .nilptr=>.pointer none
 | .esl=>.slice none 0 0
 | .agg c=>.agg (Qr2 c).toArray
 | .nilfn=>.nilFunc
 | .nilif=>.nilIface
 | _=>.tuple #[]
def Qr2:Blk→List Value
 | .ints k xs=>xs.map (Value.int k)
 | .bools xs=>xs.map Value.bool
 | .any cs=>QtJ cs
 | .rows _ _=>[]
 | .cols _ _=>[]
def QtJ:List AV→List Value
 | []=>[]
 | c::cs=>Jt c::QtJ cs
end
mutual
def isK:AV→Bool
 | .int _ _ | .bool _ | .str _ | .nilptr | .esl | .nilfn | .nilif=>true
 | .agg c=>QHB c
 | _=>false
def QHB:Blk→Bool
 | .ints _ _ | .bools _=>true
 | .any cs=>QJD cs
 | .rows _ _=>false
 | .cols _ _=>false
def QJD:List AV→Bool
 | []=>true
 | c::cs=>isK c&&QJD cs
end
mutual
theorem Qh9(C:Cx):∀ v,isK v=true→rel C v (Jt v)
 | .int _ _,_=>by simp[rel,Jt]
 | .bool _,_=>by simp[rel,Jt]
 | .str _,_=>by simp[rel,Jt]
 | .nilptr,_=>by simp[rel,Jt]
 | .esl,_=>by simp[rel,Jt]
 | .nilfn,_=>by simp[rel,Jt]
 | .nilif,_=>by simp[rel,Jt]
 | .agg c,h=>by rw[Jt,rel]; exact ⟨Qr2 c,rfl,QC5 C c (by simpa[isK]using h)⟩
 | .undef,h=>by simp[isK]at h
 | .ptr _ _,h=>by simp[isK]at h
 | .fptr _,h=>by simp[isK]at h
 | .sl _ _ _ _,h=>by simp[isK]at h
 | .fsl _,h=>by simp[isK]at h
 | .tup _,h=>by simp[isK]at h
 | .fn _ _,h=>by simp[isK]at h
 | .iface _ _,h=>by simp[isK]at h
 | .raw _,h=>by simp[isK]at h
theorem QC5(C:Cx):∀ c,QHB c=true→Qw C c (Qr2 c)
 | .ints _ _,_=>by simp[Qw,Qr2]
 | .bools _,_=>by simp[Qw,Qr2]
 | .any cs,h=>by rw[Qw,Qr2]; exact QtK C cs (by simpa[QHB]using h)
 | .rows _ _,h=>by simp[QHB]at h
 | .cols _ _,h=>by simp[QHB]at h
theorem QtK(C:Cx):∀ cs,QJD cs=true→QE C cs (QtJ cs)
 | [],_=>by simp[QE,QtJ]
 | c::cs,h=>by
  simp only[QJD,Bool.and_eq_true]at h
  rw[QE,QtJ]
  exact ⟨_,_,rfl,Qh9 C c h.1,QtK C cs h.2⟩
end
def Qr3:TK→TypeDesc→Prop
 | .int k,d=>d = .int k
 | .bool,d=>d = .bool
 | .str,d=>d = .string
 | .ptr e,d=>d = .pointer e
 | .slice e,d=>d = .slice e
 | .array n e,d=>d = .array n e
 | .struct fs,d=>∃ fields,d = .struct fields∧fields.toList.map (fun f=>(f.type,f.offset))=fs
 | .func,d=>∃ p r v,d = .func p r v
 | .iface,d=>∃ ms,d = .interface ms
 | .other,d=>(∀ fs,d ≠ .struct fs)∧∀ n e,d ≠ .array n e
def Eq2(P:Program)(t:TypeId)(k0 k1:IntKind):Prop:=∃ f0 f1,P.underlying t=some (.struct #[f0,f1])∧f0.name ≠ "_" ∧ f1.name ≠ "_" ∧ f0.offset=0∧f1.offset=1∧P.underlying f0.type=some (.int k0)∧P.underlying f1.type=some (.int k1)∧P.stoodInHeld t=false∧P.eqGuardType P.depth t=false
structure TOk (P:Program) (t:TypeId) (i:TI):Prop where
 und:∃ d,P.underlying t=some d∧Qr3 i.kind d
 info:(P.info? t).map (fun q=>(q.zero,q.size,q.bytes))=some (some (Jt i.zero),i.size,i.bytes)
 zk:isK i.zero=true
 zs:i.zero.blk.clen=i.size
 zz:(∀ k,i.kind = .int k→i.zero = .int k 0)∧(i.kind = .bool→i.zero = .bool false)
 eqs:∀ fs k0 k1,i.kind = .struct fs→i.zero = .agg (.any [.int k0 0,.int k1 0])→Eq2 P t k0 k1
def ZY(E:Env)(P:Program):Prop:=∀ t i,E.T t=some i→TOk P t i
section
variable {P : Program} {w : World} {t : TypeId} {i : TI}
theorem TOk.und_int(h:TOk P t i){k:IntKind}(hk:i.kind = .int k):P.underlying t=some (.int k):=by obtain ⟨d,h1,h2⟩:=h.und; rw[hk]at h2; rw[h1,show d = .int k from h2]
theorem TOk.und_bool(h:TOk P t i)(hk:i.kind = .bool):P.underlying t=some .bool:=by obtain ⟨d,h1,h2⟩:=h.und; rw[hk]at h2; rw[h1,show d = .bool from h2]
theorem TOk.und_str(h:TOk P t i)(hk:i.kind = .str):P.underlying t=some .string:=by obtain ⟨d,h1,h2⟩:=h.und; rw[hk]at h2; rw[h1,show d = .string from h2]
theorem TOk.und_slice(h:TOk P t i){e:TypeId}(hk:i.kind = .slice e):P.underlying t=some (.slice e):=by obtain ⟨d,h1,h2⟩:=h.und; rw[hk]at h2; rw[h1,show d = .slice e from h2]
theorem TOk.und_array(h:TOk P t i){n:Nat}{e:TypeId}(hk:i.kind = .array n e):P.underlying t=some (.array n e):=by obtain ⟨d,h1,h2⟩:=h.und; rw[hk]at h2; rw[h1,show d = .array n e from h2]
theorem TOk.und_struct(h:TOk P t i){fs:List (TypeId×Nat)}(hk:i.kind = .struct fs):∃ fields,P.underlying t=some (.struct fields)∧fields.toList.map (fun f=>(f.type,f.offset))=fs:=by
 obtain ⟨d,h1,h2⟩:=h.und
 rw[hk]at h2
 obtain ⟨fields,h3,h4⟩:=h2
 exact ⟨fields,by rw[h1,h3],h4⟩
theorem TOk.inf(h:TOk P t i):∃ q,P.info? t=some q∧q.zero=some (Jt i.zero)∧q.size=i.size∧q.bytes=i.bytes:=by
 have h1:=h.info
 cases hq:P.info? t with
 | none=>simp[hq]at h1
 | some q=>
  simp only[hq,Option.map_some,Option.some.injEq,Prod.mk.injEq]at h1
  exact ⟨q,rfl,h1.1,h1.2.1,h1.2.2⟩
theorem TOk.run_sizeOf(h:TOk P t i):(sizeOf t).run P w = .ok i.size w:=by
 obtain ⟨q,h1,_,h3,_⟩:=h.inf
 simp[sizeOf,typeInfo,h1,h3]
theorem TOk.run_zero(h:TOk P t i):(zeroValue t).run P w = .ok (Jt i.zero) w:=by
 obtain ⟨q,h1,h2,_,_⟩:=h.inf
 simp[zeroValue,typeInfo,h1,h2]
theorem TOk.run_isAgg(h:TOk P t i):(isAgg t).run P w = .ok i.isAgg w:=by
 obtain ⟨d,h1,h2⟩:=h.und
 have hu:=run_underlying h1 w
 unfold TI.isAgg
 cases hk:i.kind<;>rw[hk]at h2<;>simp only[Qr3]at h2
 case struct=>obtain ⟨f,rfl,_⟩:=h2; simp[isAgg,hu]
 case func=>obtain ⟨_,_,_,rfl⟩:=h2; simp[isAgg,hu]
 case iface=>obtain ⟨_,rfl⟩:=h2; simp[isAgg,hu]
 case other=>
  obtain ⟨h3,h4⟩:=h2
  simp only[isAgg,Sem.run_bind,hu,Result.andThen_ok]
  cases d<;>first|rfl|exact absurd rfl (h3 _)|exact absurd rfl (h4 _ _)
 all_goals (subst h2; simp[isAgg,hu])
end
end Go.Ev
namespace Go.Ev
section
variable {R S : Type}
theorem Q8(x y:Option R):sel true x y=x:=rfl
theorem Q5(x y:Option R):sel false x y=y:=rfl
@[simp] theorem Q35 (b : Bool) (x y : Option R) (K : R → Option S) : (sel b x y).bind K = sel b (x.bind K) (y.bind K) := by cases b <;> rfl
@[simp] theorem Blk.get_push (c : Blk) (i : Nat) (K : AV → Option R) (J : R → Option S) : (c.get i K).bind J = c.get i fun v => (K v).bind J := by
 unfold Blk.get; repeat' split
 all_goals simp
@[simp] theorem Blk.set_push (c : Blk) (i : Nat) (v : AV) (K : Blk → Option R) (J : R → Option S) : (c.set i v K).bind J = c.set i v fun v => (K v).bind J := by
 unfold Blk.set; split<;>simp
@[simp] theorem Blk.sub_push (c : Blk) (i n : Nat) (K : Blk → Option R) (J : R → Option S) : (c.sub i n K).bind J = c.sub i n fun v => (K v).bind J := by
 unfold Blk.sub; split<;>simp
@[simp] theorem Blk.put_push (c : Blk) (i : Nat) (d : Blk) (K : Blk → Option R) (J : R → Option S) : (c.put i d K).bind J = c.put i d fun v => (K v).bind J := by
 unfold Blk.put; split<;>simp
@[simp] theorem Blk.app_push (c d : Blk) (K : Blk → Option R) (J : R → Option S) : (c.app d K).bind J = c.app d fun v => (K v).bind J := by
 unfold Blk.app; split<;>simp
 split<;>simp
@[simp] theorem Qw9 (E : Env) (op : BinOp) (xt : TypeId) (x y : AV) (K : AV → Option R) (J : R → Option S) : (QC0 E op xt x y K).bind J = QC0 E op xt x y fun v => (K v).bind J := by
 unfold QC0; repeat' split
 all_goals simp
 all_goals split
 all_goals simp
 all_goals split
 all_goals simp
@[simp] theorem Qzz (op : UnOp) (x : AV) (K : AV → Option R) (J : R → Option S) : (unA op x K).bind J = unA op x fun v => (K v).bind J := by
 unfold unA; split<;>simp
@[simp] theorem QMV (E : Env) (t : TypeId) (c : Blk) (off : Nat) (K : AV → Option R) (J : R → Option S) : (QtF E t c off K).bind J = QtF E t c off fun v => (K v).bind J := by
 unfold QtF; split<;>simp
@[simp] theorem Qoy (E : Env) (t : TypeId) (x : AV) (i : Int) (K : AV → Option R) (J : R → Option S) : (QdL E t x i K).bind J = QdL E t x i fun v => (K v).bind J := by
 unfold QdL; repeat' split
 all_goals simp
@[simp] theorem Qwa (E : Env) (t : TypeId) (x : AV) (i : Int) (K : AV → Option R) (J : R → Option S) : (QC1 E t x i K).bind J = QC1 E t x i fun v => (K v).bind J := by
 unfold QC1; repeat' split
 all_goals simp
@[simp] theorem Qoz (E : Env) (s : TypeId) (x : AV) (f : Nat) (K : AV → Option R) (J : R → Option S) : (QdM E s x f K).bind J = QdM E s x f fun v => (K v).bind J := by
 unfold QdM; repeat' split
 all_goals simp
@[simp] theorem Qwb (E : Env) (s : TypeId) (x : AV) (f : Nat) (K : AV → Option R) (J : R → Option S) : (QC2 E s x f K).bind J = QC2 E s x f fun v => (K v).bind J := by
 unfold QC2; repeat' split
 all_goals simp
@[simp] theorem QrL (E : Env) (t : TypeId) (x : AV) (lo hi mx : Option AV) (K : AV → Option R) (J : R → Option S) : (Qpd E t x lo hi mx K).bind J = Qpd E t x lo hi mx fun v => (K v).bind J := by
 unfold Qpd; repeat' split
 all_goals simp
@[simp] theorem Qml (E : Env) (h : H) (t : TypeId) (x : AV) (lo hi mx : Option AV) (K : AV → Option R) (J : R → Option S) : (Q3j E h t x lo hi mx K).bind J = Q3j E h t x lo hi mx fun v => (K v).bind J := by
 unfold Q3j; repeat' split
 all_goals simp
@[simp] theorem Qwc (E : Env) (src dst : TypeId) (x : AV) (K : AV → Option R) (J : R → Option S) : (QC3 E src dst x K).bind J = QC3 E src dst x fun v => (K v).bind J := by
 unfold QC3; repeat' split
 all_goals simp
@[simp] theorem Qwd (E : Env) (t : TypeId) (x : AV) (K : AV → Option R) (J : R → Option S) : (QC4 E t x K).bind J = QC4 E t x fun v => (K v).bind J := by
 unfold QC4; repeat' split
 all_goals simp
@[simp] theorem QJE (i : TI) (c : Blk) (off : Nat) (K : AV → Option R) (J : R → Option S) : (Qj7 i c off K).bind J = Qj7 i c off fun v => (K v).bind J := by
 unfold Qj7; simp
@[simp] theorem Qjb (E : Env) (h : H) (t : TypeId) (a : AV) (K : AV → Option R) (J : R → Option S) : (Qmg E h t a K).bind J = Qmg E h t a fun v => (K v).bind J := by
 unfold Qmg; repeat' split
 all_goals simp
@[simp] theorem QzA (E : Env) (h : H) (t : TypeId) (a v : AV) (K : H → Option R) (J : R → Option S) : (Qj8 E h t a v K).bind J = Qj8 E h t a v fun v => (K v).bind J := by
 unfold Qj8; repeat' split
 all_goals simp
@[simp] theorem QbH (h : H) (x : AV) (K : Blk → Option R) (J : R → Option S) : (Q0I h x K).bind J = Q0I h x fun v => (K v).bind J := by
 unfold Q0I; repeat' split
 all_goals simp
@[simp] theorem QJF (E : Env) (h : H) (slot : Nat) (t : TypeId) (s x : AV) (K : AV → H → Option R) (J : R → Option S) : (Qd4 E h slot t s x K).bind J = Qd4 E h slot t s x fun v h => (K v h).bind J := by
 unfold Qd4; repeat' split
 all_goals simp
@[simp] theorem QMW (E : Env) (h : H) (t : TypeId) (d x : AV) (K : AV → H → Option R) (J : R → Option S) : (QpV E h t d x K).bind J = QpV E h t d x fun v h => (K v h).bind J := by
 unfold QpV; repeat' split
 all_goals simp
@[simp] theorem QLo (E : Env) (h : H) (slot : Nat) (t : TypeId) (l c : AV) (K : AV → H → Option R) (J : R → Option S) : (Qj9 E h slot t l c K).bind J = Qj9 E h slot t l c fun v h => (K v h).bind J := by
 unfold Qj9; repeat' split
 all_goals simp
@[simp] theorem QJ5 (E : Env) (h : H) (slot : Nat) (t : TypeId) (len : Nat) (ps : List (Nat × AV)) (K : AV → H → Option R) (J : R → Option S) : (Q6P E h slot t len ps K).bind J = Q6P E h slot t len ps fun v h => (K v h).bind J := by
 unfold Q6P; repeat' split
 all_goals simp
@[simp] theorem QJ6 (E : Env) (h : H) (slot : Nat) (b : Builtin) (ts : List TypeId) (xs : List AV) (K : AV → H → Option R) (J : R → Option S) : (QdN E h slot b ts xs K).bind J = QdN E h slot b ts xs fun v h => (K v h).bind J := by
 unfold QdN; repeat' split
 all_goals simp
def Q16(call:Qi):Prop:=∀ f args h slot (R S:Type) (K:AV→H→Option R) (J:R→Option S),(call f args h slot R K).bind J=call f args h slot S fun v h=>(K v h).bind J
theorem Qo4(E:Env){call:Qi}(hc:Q16 call)(t:List AV)(h:H)(slot:Nat)(o:Oper)(K:AV→H→Option R)(J:R→Option S):
  (Q3x E call t h slot o K).bind J=Q3x E call t h slot o fun v h=>(K v h).bind J:=by
 unfold Q3x; repeat' split
 all_goals first|(simp; done)|rw[hc]
theorem Z2{α:Type}{f:Option α}{K:α→Option R}{r:R}(h:f.bind K=some r):∃ z,f=some z∧K z=some r:=by
 cases f with
 | none=>cases h
 | some z=>exact ⟨z,rfl,h⟩
theorem Qr4(E:Env){call:Qi}(hc:Q16 call){t:List AV}{h:H}{slot:Nat}{o:Oper}{K:AV→H→Option R}{r:R}(hr:Q3x E call t h slot o K=some r):
  ∃ v h1,Q3x E call t h slot o (fun v h=>some (v,h))=some (v,h1)∧K v h1=some r:=by
 have e:=Qo4 E hc t h slot o (fun v h=>some (v,h)) fun p=>K p.1 p.2
 simp only[Option.bind_some]at e
 rw[hr]at e
 obtain ⟨⟨v,h1⟩,h2,h3⟩:=Z2 e
 exact ⟨v,h1,h2,h3⟩
theorem QFk(E:Env){call:Qi}(hc:Q16 call){t:List AV}{h:H}{slot:Nat}{o:Oper}{v:AV}{h1:H}(hr:Q3x E call t h slot o (fun v h=>some (v,h))=some (v,h1))(K:AV→H→Option R):
  Q3x E call t h slot o K=K v h1:=by
 have e:=Qo4 E hc t h slot o (fun v h=>some (v,h)) fun p=>K p.1 p.2
 simp only[Option.bind_some]at e
 rw[←e,hr]; rfl
end
end Go.Ev
namespace Go.Ev
theorem Q7{R:Type}{b:Bool}{x:Option R}{r:R}: sel b x none=some r↔b=true∧x=some r:=by cases b<;>simp[sel]
theorem QzB{R:Type}{b:Bool}{x:Option R}{r:R}: sel b none x=some r↔b=false∧x=some r:=by cases b<;>simp[sel]
section
variable {P : Program} {E : Env} {C : Cx} {w : World}
mutual
theorem Qwe(C:Cx):∀ (d:Nat) (v:Value),rel C (Q4S d v) v
 | d,.int k n=>by cases d<;>simp[Q4S,rel]
 | d,.bool b=>by cases d<;>simp[Q4S,rel]
 | d,.string s=>by cases d<;>simp[Q4S,rel]
 | d,.pointer none=>by cases d<;>simp[Q4S,rel]
 | d,.pointer (some _)=>by cases d<;>simp[Q4S,rel]
 | d,.slice a l c=>by
  unfold Q4S
  split<;>first|(simp_all [rel]; done)|trivial
 | d,.nilFunc=>by cases d<;>simp[Q4S,rel]
 | d,.nilIface=>by cases d<;>simp[Q4S,rel]
 | 0,.agg cs=>by simp[Q4S,rel]
 | d+1,.agg cs=>by
  rw[Q4S,rel]
  exact ⟨cs.toList,by simp,Qpf C d cs.toList⟩
 | 0,.tuple cs=>by simp[Q4S,rel]
 | d+1,.tuple cs=>by
  rw[Q4S,rel]
  exact ⟨cs.toList,by simp,Qpf C d cs.toList⟩
 | d,.float _ _=>by cases d<;>simp[Q4S,rel]
 | d,.complex _ _ _=>by cases d<;>simp[Q4S,rel]
 | d,.map _=>by cases d<;>simp[Q4S,rel]
 | d,.chan _=>by cases d<;>simp[Q4S,rel]
 | d,.func _ _ _=>by cases d<;>simp[Q4S,rel]
 | d,.iface _ _=>by cases d<;>simp[Q4S,rel]
theorem Qpf(C:Cx):∀ (d:Nat) (vs:List Value),QE C (vs.map (Q4S d)) vs
 | _,[]=>rfl
 | d,v::vs=>⟨v,vs,rfl,Qwe C d v,Qpf C d vs⟩
end
theorem QzC{xt:TypeId}(hu:P.underlying xt=some .bool)(a b:Bool)(d:Nat)(w:World):(Op.equalIn (d+1) xt (.bool a) (.bool b)).run P w = .ok (a==b) w:=by
 simp[Op.equalIn,run_underlying hu]
theorem QJG{op:BinOp}{x y z:AV}{u v:Value}{xt:TypeId}(X Y:Operand)(hE:ZY E P)(h:QC0 E op xt x y some=some z)(hx:rel C x u)(hy:rel C y v):
  (eqGuard op xt X Y u v).run P w = .ok () w∧∃ q,(binOp op xt u v).run P w = .ok q w∧rel C z q:=by
 unfold QC0 at h
 simp only[QsJ,Qxu,Qxv,QDw,Qxw,Qxx,Qxy,Qxz,QBZ,QJA,QtC]at h
 split at h
 ·rename_i k a k' b
  cases hx; cases hy
  refine ⟨by unfold eqGuard; cases op<;>rfl,?_⟩
  split at h
  ·obtain ⟨h1,h2⟩:=Q7.1 h
   cases h2
   have h1:¬b<0:=by simpa using h1
   exact ⟨_,by simp[binOp,Op.shift,h1],rfl⟩
  ·obtain ⟨h1,h2⟩:=Q7.1 h
   cases h2
   have h1:¬b<0:=by simpa using h1
   exact ⟨_,by simp[binOp,Op.shift,h1],rfl⟩
  ·rename_i n1 n2
   obtain ⟨h1,h2⟩:=Q7.1 h
   have h1:k=k':=by simpa using h1
   subst h1
   split at h2
   ·cases h2; exact ⟨_,by simp[binOp,Op.intArith],rfl⟩
   ·cases h2; exact ⟨_,by simp[binOp,Op.intArith],rfl⟩
   ·cases h2; exact ⟨_,by simp[binOp,Op.intArith],rfl⟩
   ·obtain ⟨h3,h4⟩:=QzB.1 h2
    cases h4
    have h3:¬b=0:=by simpa using h3
    exact ⟨_,by simp[binOp,Op.intDiv,h3],rfl⟩
   ·obtain ⟨h3,h4⟩:=QzB.1 h2
    cases h4
    have h3:¬b=0:=by simpa using h3
    exact ⟨_,by simp[binOp,Op.intDiv,h3],rfl⟩
   ·cases h2; exact ⟨_,by simp[binOp]; rfl,rfl⟩
   ·cases h2; exact ⟨_,by simp[binOp]; rfl,rfl⟩
   ·cases h2; exact ⟨_,by simp[binOp]; rfl,rfl⟩
   ·cases h2; exact ⟨_,by simp[binOp]; rfl,rfl⟩
   ·unfold QPK at h2
    cases op<;>simp only[]at h2<;>first
     | exact absurd rfl n1
     | (cases h2; exact ⟨_,by simp[binOp,Op.intCmp]; rfl,rfl⟩)
     | (cases h2; exact ⟨_,by simp[binOp,Op.intCmp],rfl⟩)
     | (cases h2; done)
     | (exfalso; simp_all; done)
 ·rename_i a b
  cases hx; cases hy
  refine ⟨by unfold eqGuard; cases op<;>rfl,?_⟩
  split at h
  ·rename_i ht
   have hu:=(hE _ _ ht).und_bool rfl
   have he:∀ w,(Op.equal xt (.bool a) (.bool b)).run P w = .ok (a==b) w:=fun w=>QzC hu a b 9999 w
   split at h
   ·cases h; exact ⟨_,by simp[binOp,he],rfl⟩
   ·cases h; exact ⟨_,by simp[binOp,he],rfl⟩
   ·cases h
  ·cases h
 ·cases h
theorem QC6{xt:TypeId}{ms:Array (String×TypeId)}(hu:P.underlying xt=some (.interface ms))(d:Nat)(w:World):(Op.equalIn (d+1) xt .nilIface .nilIface).run P w = .ok true w:=by
 simp[Op.equalIn,run_underlying hu]
theorem Qwf{xt:TypeId}{ms:Array (String×TypeId)}(hu:P.underlying xt=some (.interface ms))(t:TypeId)(q:Value)(d:Nat)(w:World):(Op.equalIn (d+1) xt (.iface t q) .nilIface).run P w = .ok false w∧(Op.equalIn (d+1) xt .nilIface (.iface t q)).run P w = .ok false w:=by
 constructor<;>simp[Op.equalIn,run_underlying hu]
theorem QxG{xt:TypeId}(hE:ZY E P)(h:QHy E xt=true):∃ ms,P.underlying xt=some (.interface ms):=by
 unfold QHy at h
 split at h
 ·rename_i ht
  obtain ⟨d,h1,h2⟩:=(hE _ _ ht).und
  obtain ⟨ms,rfl⟩:=h2
  exact ⟨ms,h1⟩
 ·cases h
theorem QMX{op:BinOp}{x y:AV}{u v:Value}{xt:TypeId}{b:Bool}(X Y:Operand)(hE:ZY E P)(h:ifA E op xt X Y x y=some b)(hx:rel C x u)(hy:rel C y v):
  (eqGuard op xt X Y u v).run P w = .ok () w∧(binOp op xt u v).run P w = .ok (.bool b) w:=by
 unfold ifA at h
 split at h
 ·have hx:u=_:=hx
  have hy:v=_:=hy
  subst hx; subst hy
  split at h
  ·rename_i hc
   obtain ⟨hc,hi⟩:=Bool.and_eq_true_iff.1 hc
   obtain ⟨ms,hu⟩:=QxG hE hi
   have he:(Op.equal xt .nilIface .nilIface).run P w = .ok true w:=QC6 hu 9999 w
   have hg:∀ o:BinOp,(eqGuard o xt X Y .nilIface .nilIface).run P w = .ok () w:=fun o=>by
    cases X<;>cases Y<;>first|(simp[QtE]at hc; done)|(unfold eqGuard; cases o<;>rfl)
   refine ⟨hg op,?_⟩
   split at h
   ·cases h; simp[binOp,he]
   ·cases h; simp[binOp,he]
   ·cases h
  ·cases h
 ·obtain ⟨q,hx,_⟩:=hx
  have hy:v=_:=hy
  subst hx; subst hy
  split at h
  ·rename_i hi
   obtain ⟨ms,hu⟩:=QxG hE hi
   have he:∀ t,(Op.equal xt (.iface t q) .nilIface).run P w = .ok false w:=fun t=>(Qwf hu t q 9999 w).1
   refine ⟨by unfold eqGuard; cases op<;>rfl,?_⟩
   split at h
   ·cases h; simp[binOp,he]
   ·cases h; simp[binOp,he]
   ·cases h
  ·cases h
 ·obtain ⟨q,hy,_⟩:=hy
  have hx:u=_:=hx
  subst hx; subst hy
  split at h
  ·rename_i hi
   obtain ⟨ms,hu⟩:=QxG hE hi
   have he:∀ t,(Op.equal xt .nilIface (.iface t q)).run P w = .ok false w:=fun t=>(Qwf hu t q 9999 w).2
   refine ⟨by unfold eqGuard; cases op<;>rfl,?_⟩
   split at h
   ·cases h; simp[binOp,he]
   ·cases h; simp[binOp,he]
   ·cases h
  ·cases h
 ·cases h
theorem Qdn{xt:TypeId}{e:TypeId}(hu:P.underlying xt=some (.slice e))(a:Addr)(l c:Nat)(d:Nat)(w:World):(Op.equalIn (d+1) xt (.slice (some a) l c) (.slice none 0 0)).run P w = .ok false w:=by
 simp[Op.equalIn,run_underlying hu]
theorem Qo5{C:Cx}{x:AV}{u:Value}{n:Nat}(hn:0<n)(hx:rel C x u)(h:(∃ k xs,x = .fsl (.ints k xs)∧n=xs.length)∨(∃ xs,x = .fsl (.bools xs)∧n=xs.length)∨(∃ b off sz,x = .sl b off n sz)):∃ a l c,u = .slice (some a) l c:=by
 rcases h with ⟨k,xs,rfl,rfl⟩|⟨xs,rfl,rfl⟩|⟨b,off,sz,rfl⟩
 ·obtain ⟨a,cap,us,rfl,_,hB,_,hz⟩:=hx
  have hB:us=xs.map (Value.int k):=hB
  rcases hz with rfl|⟨p,rfl,_⟩
  ·have:=congrArg List.length hB
   simp at this; omega
  ·exact ⟨_,_,_,rfl⟩
 ·obtain ⟨a,cap,us,rfl,_,hB,_,hz⟩:=hx
  have hB:us=xs.map Value.bool:=hB
  rcases hz with rfl|⟨p,rfl,_⟩
  ·have:=congrArg List.length hB
   simp at this; omega
  ·exact ⟨_,_,_,rfl⟩
 ·obtain ⟨a,cap,rfl,h1,_,hz⟩:=hx
  rcases hz with h0|⟨g,_,rfl,_⟩
  ·omega
  ·exact ⟨_,_,_,rfl⟩
theorem QMY{op:BinOp}{x:AV}{u:Value}{xt:TypeId}{n:Nat}{b:Bool}(X Y:Operand)(hE:ZY E P)(h:slA E op xt x Y=some (n,b))(hn:0<n)(hx:rel C x u):
  Y = .const (.slice none 0 0)∧(eqGuard op xt X Y u (.slice none 0 0)).run P w = .ok () w∧(binOp op xt u (.slice none 0 0)).run P w = .ok (.bool b) w:=by
 unfold slA at h
 split at h
 ·rename_i ht
  have hu:=(hE _ _ ht).und_slice rfl
  refine ⟨rfl,?_⟩
  split at h
  ·split at h
   ·cases h
    obtain ⟨a,l,c,rfl⟩:=Qo5 hn hx (.inl ⟨_,_,rfl,rfl⟩)
    have he:(Op.equal xt (.slice (some a) l c) (.slice none 0 0)).run P w = .ok false w:=Qdn hu a l c 9999 w
    exact ⟨rfl,by simp[binOp,he]⟩
   ·cases h
    obtain ⟨a,l,c,rfl⟩:=Qo5 hn hx (.inr (.inl ⟨_,rfl,rfl⟩))
    have he:(Op.equal xt (.slice (some a) l c) (.slice none 0 0)).run P w = .ok false w:=Qdn hu a l c 9999 w
    exact ⟨rfl,by simp[binOp,he]⟩
   ·cases h
    obtain ⟨a,l,c,rfl⟩:=Qo5 hn hx (.inr (.inr ⟨_,_,_,rfl⟩))
    have he:(Op.equal xt (.slice (some a) l c) (.slice none 0 0)).run P w = .ok false w:=Qdn hu a l c 9999 w
    exact ⟨rfl,by simp[binOp,he]⟩
   ·cases h
  ·split at h
   ·cases h
    obtain ⟨a,l,c,rfl⟩:=Qo5 hn hx (.inl ⟨_,_,rfl,rfl⟩)
    have he:(Op.equal xt (.slice (some a) l c) (.slice none 0 0)).run P w = .ok false w:=Qdn hu a l c 9999 w
    exact ⟨rfl,by simp[binOp,he]⟩
   ·cases h
    obtain ⟨a,l,c,rfl⟩:=Qo5 hn hx (.inr (.inl ⟨_,rfl,rfl⟩))
    have he:(Op.equal xt (.slice (some a) l c) (.slice none 0 0)).run P w = .ok false w:=Qdn hu a l c 9999 w
    exact ⟨rfl,by simp[binOp,he]⟩
   ·cases h
    obtain ⟨a,l,c,rfl⟩:=Qo5 hn hx (.inr (.inr ⟨_,_,_,rfl⟩))
    have he:(Op.equal xt (.slice (some a) l c) (.slice none 0 0)).run P w = .ok false w:=Qdn hu a l c 9999 w
    exact ⟨rfl,by simp[binOp,he]⟩
   ·cases h
  ·cases h
 ·cases h
theorem QtL{xt:TypeId}{k:IntKind}(hu:P.underlying xt=some (.int k))(a b:Int)(d:Nat)(w:World):(Op.equalIn (d+1) xt (.int k a) (.int k b)).run P w = .ok (a==b) w:=by
 simp[Op.equalIn,run_underlying hu]
theorem QpY{xt:TypeId}{k:IntKind}(hu:P.underlying xt=some (.int k))(cs:Array Value)(off:Nat){v:Value}(h:cs[off]?=some v)(w:World):(part xt cs off).run P w = .ok v w:=by
 simp[part,isAgg,run_underlying hu,h]
theorem QHC{t:TypeId}{k0 k1:IntKind}(he:Eq2 P t k0 k1)(a0 a1 b0 b1:Int)(d:Nat)(w:World):
  (Op.equalIn (d+1+1) t (.agg #[.int k0 a0,.int k1 a1]) (.agg #[.int k0 b0,.int k1 b1])).run P w = .ok (decide (a0=b0)&&decide (a1=b1)) w:=by
 obtain ⟨f0,f1,hu,n0,n1,o0,o1,u0,u1,hs,hg⟩:=he
 have p0:∀ x y,(part f0.type #[.int k0 x,.int k1 y] f0.offset).run P w = .ok (.int k0 x) w:=fun x y=>QpY u0 _ _ (by rw[o0]; rfl) w
 have p1:∀ x y,(part f1.type #[.int k0 x,.int k1 y] f1.offset).run P w = .ok (.int k1 y) w:=fun x y=>QpY u1 _ _ (by rw[o1]; rfl) w
 have q0:=fun a b=>QtL u0 a b d w
 have q1:=fun a b=>QtL u1 a b d w
 rw[Op.equalIn]
 by_cases h0:a0=b0
 ·by_cases h1:a1=b1
  ·simp[run_underlying hu,hs,n0,n1,p0,p1,q0,q1,h0,h1]
  ·simp[run_underlying hu,hs,n0,n1,p0,p1,q0,q1,h0,h1]
 ·simp[run_underlying hu,hs,n0,n1,p0,p1,q0,q1,h0]
theorem QMZ{op:BinOp}{x y:AV}{u v:Value}{xt:TypeId}{b:Bool}(X Y:Operand)(hE:ZY E P)(h:agA E op xt x y=some b)(hx:rel C x u)(hy:rel C y v):
  (eqGuard op xt X Y u v).run P w = .ok () w∧(binOp op xt u v).run P w = .ok (.bool b) w:=by
 unfold agA at h
 split at h
 ·rename_i fs0 k0 k1 ht
  have he2:=(hE _ _ ht).eqs _ k0 k1 rfl rfl
  split at h
  ·rename_i a0 n0 a1 n1 b0 m0 b1 m1
   split at h
   ·rename_i hk
    obtain ⟨rfl,rfl,rfl,rfl⟩:=of_decide_eq_true hk
    obtain ⟨us,rfl,u0,r0,rfl,h0,u1,r1,rfl,h1,h2⟩:=hx
    obtain ⟨vs,rfl,v0,s0,rfl,g0,v1,s1,rfl,g1,g2⟩:=hy
    have h0:u0=_:=h0
    have h1:u1=_:=h1
    have h2:r1=[]:=h2
    have g0:v0=_:=g0
    have g1:v1=_:=g1
    have g2:s1=[]:=g2
    subst h0 h1 h2 g0 g1 g2
    have he:(Op.equal xt (.agg [Value.int b0 n0,Value.int b1 n1].toArray) (.agg [Value.int b0 m0,Value.int b1 m1].toArray)).run P w = .ok (decide (n0=m0)&&decide (n1=m1)) w:=QHC he2 n0 n1 m0 m1 9998 w
    obtain ⟨_,_,_,_,_,_,_,_,_,_,hg⟩:=he2
    refine ⟨by unfold eqGuard; cases op<;>first|rfl|simp[hg],?_⟩
    split at h
    ·cases h; simp[binOp,he]
    ·cases h; simp[binOp,he]
    ·cases h
   ·cases h
  ·cases h
 ·cases h
theorem QN0{op:UnOp}{x z:AV}{u:Value}(h:unA op x some=some z)(hx:rel C x u):∃ q,(Op.unary op u).run P w = .ok q w∧rel C z q:=by
 unfold unA at h
 simp only[QDx,QDy]at h
 split at h
 ·cases hx; cases h; exact ⟨_,rfl,rfl⟩
 ·cases hx; cases h; exact ⟨_,rfl,rfl⟩
 ·cases hx; cases h; exact ⟨_,rfl,rfl⟩
 ·cases h
theorem QJH(hE:ZY E P){src dst:TypeId}{x z:AV}{u:Value}(h:QC3 E src dst x some=some z)(hx:rel C x u):∃ q,(convert src dst u).run P w = .ok q w∧rel C z q:=by
 unfold QC3 at h
 simp only[Qo2]at h
 split at h
 ·rename_i i k _ _ _ _ n h1 h2
  cases hx; cases h
  obtain ⟨d,hd,_⟩:=(hE _ _ h1).und
  have hu:=(hE _ _ h2).und_int rfl
  exact ⟨_,by simp[convert,run_underlying hd,run_underlying hu,Conv.intToInt],rfl⟩
 ·cases h
theorem QpZ{sz:Nat}: ∀ {rs:List (List AV)} {us:List Value} (i:Nat),QaK C sz rs us→i<rs.length→QE C (rs.getD i []) ((us.drop (i*sz)).take sz)
 | [],_,i,_,h=>by simp at h
 | r::rs,_,0,⟨u1,u2,he,hl,h1,h2⟩,_=>by
  subst he
  have hl1:u1.length=sz:=by rw[QG h1,hl]
  simp[←hl1]
  exact h1
 | r::rs,_,i+1,⟨u1,u2,he,hl,h1,h2⟩,h=>by
  subst he
  have hl1:u1.length=sz:=by rw[QG h1,hl]
  have:=QpZ i h2 (by simpa using h)
  rw[show (i+1)*sz=u1.length+i*sz from by rw[Nat.succ_mul,hl1]; omega,←List.drop_drop]
  simpa using this
theorem Qjc(cs:List Col):∀ n i j,j<n→(Uf cs i n).getD j []=cs.map fun c=>c.at (i+j)
 | 0,_,_,h=>by omega
 | n+1,i,0,_=>rfl
 | n+1,i,j+1,h=>by
  have:=Qjc cs n (i+1) j (by omega)
  rw[show i+1+j=i+(j+1) by omega]at this
  simpa[Uf]using this
theorem Qpg{C:Cx}: ∀ (us:List Value),QE C (List.replicate us.length .undef) us
 | []=>rfl
 | u::us=>⟨u,us,rfl,trivial,Qpg us⟩
theorem QzD{c:Blk}{us:List Value}{i:Nat}{v:AV}(h:c.get i some=some v)(hr:Qw C c us):∃ u,us[i]?=some u∧rel C v u:=by
 unfold Blk.get at h
 split at h
 ·rename_i k xs
  obtain ⟨h1,h2⟩:=Q7.1 h
  have h1:i<xs.length:=by simpa using h1
  have hr:us=_:=hr
  cases h2
  subst hr
  exact ⟨.int k (xs.getD i 0),by simp[List.getD_eq_getElem?_getD,h1],rfl⟩
 ·rename_i xs
  obtain ⟨h1,h2⟩:=Q7.1 h
  have h1:i<xs.length:=by simpa using h1
  have hr:us=_:=hr
  cases h2
  subst hr
  exact ⟨.bool (xs.getD i false),by simp[List.getD_eq_getElem?_getD,h1],rfl⟩
 ·rename_i cs
  split at h
  ·rename_i v' hv
   cases h
   exact QbG i _ hr hv
  ·cases h
 ·cases h
 ·rename_i c
  obtain ⟨h1,h2⟩:=Q7.1 h
  have h1:i<c.len:=of_decide_eq_true h1
  cases h2
  obtain ⟨_,_,_,u1,u2,he,h3,h4⟩:=hr
  have h4:u2=[]:=h4
  subst he h4
  have h5:=QpZ i (Ym.1 h3) (by rw[Q4U]; exact h1)
  rw[Qjc _ _ _ _ (show i<Q4R [c] from h1)]at h5
  obtain ⟨u,r,h6,h7,h8⟩:=h5
  have h8:r=[]:=h8
  subst h8
  refine ⟨u,?_,by simpa using h7⟩
  have h9:(((u1++[]).drop (i*1)).take 1)[0]?=some u:=by
   have:((u1++[]).drop (i*1)).take 1=[u]:=by simpa using h6
   rw[this]; rfl
  simpa using h9
 ·cases h
theorem Qmm{c d:Blk}{us:List Value}{off n:Nat}(h:c.sub off n some=some d)(hr:Qw C c us):off+n≤us.length∧Qw C d ((us.drop off).take n)∧d.clen=n:=by
 have hl:=Q0p hr
 unfold Blk.sub at h
 split at h
 ·obtain ⟨h1,h2⟩:=Q7.1 h
  have h1:=of_decide_eq_true h1
  have hr:us=_:=hr
  cases h2
  subst hr
  refine ⟨by simpa using h1,?_,by simp[Blk.clen]; omega⟩
  simp[Qw,List.map_take,List.map_drop]
 ·obtain ⟨h1,h2⟩:=Q7.1 h
  have h1:=of_decide_eq_true h1
  have hr:us=_:=hr
  cases h2
  subst hr
  refine ⟨by simpa using h1,?_,by simp[Blk.clen]; omega⟩
  simp[Qw,List.map_take,List.map_drop]
 ·obtain ⟨h1,h2⟩:=Q7.1 h
  have h1:=of_decide_eq_true h1
  cases h2
  refine ⟨by rw[hl]; exact h1,Q84 n (Q85 off hr),by simp[Blk.clen]; omega⟩
 ·cases h
 ·cases h
theorem QzE(hE:ZY E P){t:TypeId}{c:Blk}{us:List Value}{off:Nat}{z:AV}(h:QtF E t c off some=some z)(hr:Qw C c us):
  ∃ q,(part t us.toArray off).run P w = .ok q w∧rel C z q:=by
 unfold QtF at h
 split at h
 ·rename_i i hi
  have hT:=hE _ _ hi
  cases ha:i.isAgg with
  | true=>
   rw[ha]at h
   simp only[Q8]at h
   have e:=Blk.sub_push c off i.size some (fun d=>some (AV.agg d))
   simp only[Option.bind_some]at e
   rw[←e]at h
   obtain ⟨d,h1,h2⟩:=Z2 h
   cases h2
   obtain ⟨h3,h4,_⟩:=Qmm h1 hr
   refine ⟨.agg ((us.toArray).extract off (off+i.size)),by simp[part,hT.run_isAgg,ha,hT.run_sizeOf],(us.drop off).take i.size,?_,h4⟩
   simp
  | false=>
   rw[ha]at h
   simp only[Q5]at h
   obtain ⟨u,h1,h2⟩:=QzD h hr
   exact ⟨u,by simp[part,hT.run_isAgg,ha,h1],h2⟩
 ·cases h
theorem Q7P(g o n:Nat):(⟨g,o,none⟩:Addr).add n=⟨g,o+n,none⟩:=by unfold Addr.add; split<;>simp_all
theorem Qmn{a:Addr}(h:a.spot=none)(n:Nat):a.add n=⟨a.block,a.off+n,none⟩:=by
 obtain ⟨g,o,s⟩:=a; cases h; exact Q7P g o n
theorem Q5M{w:World}{a:Addr}{us:List Value}(hs:a.spot=none)(h:QR w a us)(n:Nat):QR w (a.add n) (us.drop n):=by
 intro i u hi
 rw[List.getElem?_drop]at hi
 have:=h (n+i) u hi
 rw[Qmn hs]at this ⊢
 rw[Q7P]
 rw[←this]; congr 2; omega
theorem Q28{w:World}{a:Addr}{us:List Value}(h:QR w a us)(n:Nat):QR w a (us.take n):=by
 intro i u hi
 exact h i u (by rw[List.getElem?_take]at hi; split at hi; exact hi; cases hi)
theorem Qq0{c:Blk}{us:List Value}(hr:Qw C c us):us.length=c.num*c.esz:=by
 rw[Q0p hr]
 cases c with
 | cols cs ds=>
  obtain ⟨hp,_,h0,_⟩:=hr
  cases ds with
  | nil=>simp[Blk.clen,Blk.num,Blk.esz,UF]
  | cons d ds=>
   simp only[Blk.clen,Blk.num,Blk.esz,UF]
   rw[Nat.add_mul,Nat.div_mul_cancel (Nat.dvd_of_mod_eq_zero h0)]
 | _=>simp[Blk.clen,Blk.num,Blk.esz,UF]
theorem QxH{c:Blk}{us:List Value}(hr:Qw C c us):0<c.esz:=by
 cases c<;>simp[Blk.esz]
 ·exact hr.1
 ·exact hr.1
theorem QzF{c:Blk}{us:List Value}{i:Nat}(hr:Qw C c us)(hi:i<c.num):Qw C (QtG c i) ((us.drop (i*c.esz)).take c.esz):=by
 cases c with
 | ints k xs=>
  have hr:us=_:=hr
  have hi:i<xs.length:=hi
  subst hr
  have e:((xs.map (Value.int k)).drop i).take 1=[.int k (xs.getD i 0)]:=by
   rw[←List.map_drop,←List.map_take,List.take_one,List.head?_drop]
   simp[hi]
  simp only[QtG,Qw,Blk.esz,Nat.mul_one,e]
  exact ⟨_,_,rfl,rfl,rfl⟩
 | bools xs=>
  have hr:us=_:=hr
  have hi:i<xs.length:=hi
  subst hr
  have e:((xs.map Value.bool).drop i).take 1=[.bool (xs.getD i false)]:=by
   rw[←List.map_drop,←List.map_take,List.take_one,List.head?_drop]
   simp[hi]
  simp only[QtG,Qw,Blk.esz,Nat.mul_one,e]
  exact ⟨_,_,rfl,rfl,rfl⟩
 | any cs=>
  have hi:i<cs.length:=hi
  have hq:cs[i]?=some (cs.getD i .undef):=by simp[hi]
  obtain ⟨u,h1,h2⟩:=QbG i _ hr hq
  have e:(us.drop i).take 1=[u]:=by
   rw[List.take_one,List.head?_drop,h1]; rfl
  simp only[QtG,Qw,Blk.esz,Nat.mul_one,e]
  exact ⟨_,_,rfl,h2,rfl⟩
 | rows sz rs=>exact QpZ i hr.2 hi
 | cols cs ds=>
  have hn:=Qq0 hr
  have hp:=QxH hr
  obtain ⟨_,_,_,u1,u2,he,h3,h4⟩:=hr
  cases ds with
  | nil=>
   have h4:u2=[]:=h4
   subst he h4
   have hi:i<Q4R cs:=hi
   have h5:=QpZ i (Ym.1 h3) (by rw[Q4U]; exact hi)
   rw[Qjc _ _ _ _ hi]at h5
   simpa[QtG,Qw,Blk.esz]using h5
  | cons d ds=>
   have hl:((us.drop (i*(Blk.cols cs (d::ds)).esz)).take (Blk.cols cs (d::ds)).esz).length=cs.length:=by
    have e:(Blk.cols cs (d::ds)).esz=cs.length:=rfl
    rw[List.length_take,List.length_drop,hn,e]
    have:i*cs.length+cs.length≤(Blk.cols cs (d::ds)).num*cs.length:=by rw[←Nat.succ_mul]; exact Nat.mul_le_mul_right _ hi
    omega
   have:=Qpg (C:=C) ((us.drop (i*(Blk.cols cs (d::ds)).esz)).take (Blk.cols cs (d::ds)).esz)
   rw[hl]at this
   exact this
theorem QxI{c:Blk}{us:List Value}(h:Qw C.z c us):Qw C c us:=QF (Step.up C) c us h
theorem QzG(hE:ZY E P){t:TypeId}{x z:AV}{u:Value}{k:IntKind}{i:Int}(h:QdL E t x i some=some z)(hx:rel C x u):
  ∃ q,(Instr.indexAt t u (.int k i)).run P C.w = .ok q C.w∧rel C z q:=by
 unfold QdL at h
 split at h
 ·rename_i e _ _ _ ht
  have hu:=(hE _ _ ht).und_slice rfl
  split at h
  ·rename_i ie he
   have hs:=fun w=>(hE _ _ he).run_sizeOf (w:=w)
   split at h
   ·rename_i b off len sz
    obtain ⟨h1,h⟩:=Q7.1 h
    obtain ⟨h2,h⟩:=Q7.1 h
    obtain ⟨h3,h⟩:=Q7.1 h
    have h1:ie.size=sz:=by simpa using h1
    have h2:0≤i:=by simpa using h2
    have h3:i<(len:Int):=by simpa using h3
    cases h
    obtain ⟨a,cap,rfl,hl,hm,hp⟩:=hx
    obtain ⟨g,hg,rfl,_⟩:=hp.resolve_left (by omega)
    refine ⟨.pointer (some ⟨g,off+i.toNat*sz,none⟩),?_,g,hg,by rw[QpX,UF]⟩
    simp[Instr.indexAt,asIntOf,run_underlying hu,h2,h3,hs,h1,Q7P]
   ·rename_i c
    obtain ⟨h1,h⟩:=Q7.1 h
    obtain ⟨h2,h⟩:=Q7.1 h
    obtain ⟨h3,h⟩:=Q7.1 h
    have h1:ie.size=c.esz:=by simpa using h1
    have h2:0≤i:=by simpa using h2
    have h3:i<(c.num:Int):=by simpa using h3
    cases h
    obtain ⟨a,cap,us,rfl,hcap,hr,hn,hp⟩:=hx
    have hpos:=QxH hr
    have hne:us≠[]:=by
     rintro rfl
     have:0<c.num*c.esz:=Nat.mul_pos (by omega) hpos
     simp at hn
     omega
    obtain ⟨p,rfl,hps,hw,hc⟩:=hp.resolve_left hne
    refine ⟨.pointer (some (p.add (i.toNat*c.esz))),?_,p.add (i.toNat*c.esz),(us.drop (i.toNat*c.esz)).take c.esz,rfl,by rw[Qmn hps],QzF hr (by omega),.inr (by rw[Q3k]; exact hw),Q28 (Q5M hps hc _) _⟩
    simp[Instr.indexAt,asIntOf,run_underlying hu,h2,h3,hs,h1]
   ·cases h
  ·cases h
 ·rename_i n e _ _ _ ht
  have hu:=(hE _ _ ht).und_array rfl
  split at h
  ·rename_i ie he
   have hs:=fun w=>(hE _ _ he).run_sizeOf (w:=w)
   split at h
   ·rename_i b off
    obtain ⟨h2,h⟩:=Q7.1 h
    obtain ⟨h3,h⟩:=Q7.1 h
    have h2:0≤i:=by simpa using h2
    have h3:i<(n:Int):=by simpa using h3
    cases h
    obtain ⟨g,hg,rfl⟩:=hx
    refine ⟨.pointer (some ⟨g,off+i.toNat*ie.size,none⟩),?_,g,hg,by rw[QpX,UF]⟩
    simp[Instr.indexAt,asIntOf,run_underlying hu,h2,h3,hs,Q7P,Instr.sureAddr]
   ·rename_i c
    obtain ⟨h1,h⟩:=Q7.1 h
    obtain ⟨h0,h⟩:=Q7.1 h
    obtain ⟨h2,h⟩:=Q7.1 h
    obtain ⟨h3,h⟩:=Q7.1 h
    have h1:ie.size=c.esz:=by simpa using h1
    have h0:n=c.num:=by simpa using h0
    have h2:0≤i:=by simpa using h2
    have h3:i<(n:Int):=by simpa using h3
    cases h
    obtain ⟨p,us,rfl,hps,hr,hw,hc⟩:=hx
    have hpos:=QxH hr
    have hne:us≠[]:=by
     rintro rfl
     have hn:=Qq0 hr
     have:0<c.num*c.esz:=Nat.mul_pos (by omega) hpos
     simp at hn
     omega
    refine ⟨.pointer (some (p.add (i.toNat*c.esz))),?_,p.add (i.toNat*c.esz),(us.drop (i.toNat*c.esz)).take c.esz,rfl,by rw[Qmn hps],QzF hr (by omega),.inr (by rw[Q3k]; exact hw.resolve_left hne),Q28 (Q5M hps hc _) _⟩
    simp[Instr.indexAt,asIntOf,run_underlying hu,h2,h3,hs,h1,Instr.sureAddr]
   ·cases h
  ·cases h
 ·cases h
end
end Go.Ev
namespace Go.Ev
section
variable {P : Program} {E : Env} {C : Cx} {w : World}
theorem QJI(hE:ZY E P){t:TypeId}{x z:AV}{u:Value}{k:IntKind}{i:Int}(h:QC1 E t x i some=some z)(hx:rel C x u):
  ∃ q,(Instr.index t u (.int k i)).run P w = .ok q w∧rel C z q:=by
 unfold QC1 at h
 split at h
 ·rename_i s
  split at h
  ·rename_i ht
   have hu:=(hE _ _ ht).und_str rfl
   obtain ⟨h2,h⟩:=Q7.1 h
   obtain ⟨h3,h⟩:=Q7.1 h
   have h2:0≤i:=by simpa using h2
   have h3:i<(s.size:Int):=by simpa using h3
   cases h; cases hx
   have hlt:i.toNat<s.size:=by omega
   have hg:s[i.toNat]?=some (s[i.toNat]'hlt):=by simp[hlt]
   refine ⟨.int .u8 ((s[i.toNat]'hlt).toNat:Int),by simp[Instr.index,asIntOf,run_underlying hu,h2,hg],?_⟩
   have e:s.data.toList.getD i.toNat 0=s[i.toNat]'hlt:=by
    rw[List.getD_eq_getElem?_getD,List.getElem?_eq_getElem (by simpa using hlt)]
    simp[ByteArray.getElem_eq_getElem_data]
   rw[e]; rfl
  ·cases h
 ·rename_i c
  split at h
  ·rename_i n e _ _ _ ht
   have hu:=(hE _ _ ht).und_array rfl
   split at h
   ·rename_i ie he
    have hs:=fun w=>(hE _ _ he).run_sizeOf (w:=w)
    obtain ⟨h2,h⟩:=Q7.1 h
    obtain ⟨h3,h⟩:=Q7.1 h
    have h2:0≤i:=by simpa using h2
    have h3:i<(n:Int):=by simpa using h3
    obtain ⟨us,rfl,hr⟩:=hx
    obtain ⟨q,h4,h5⟩:=QzE (w:=w) hE h hr
    refine ⟨q,?_,h5⟩
    rw[UF]at h4
    simp[Instr.index,asIntOf,run_underlying hu,h2,h3,hs,h4]
   ·cases h
  ·cases h
 ·cases h
theorem QzH(hE:ZY E P){s:TypeId}{x z:AV}{u:Value}{f:Nat}(h:QdM E s x f some=some z)(hx:rel C x u):
  ∃ q,(Instr.fieldAt s u f).run P C.w = .ok q C.w∧rel C z q:=by
 unfold QdM at h
 split at h
 ·rename_i fs _ _ _ ht
  obtain ⟨fields,hu,hf⟩:=(hE _ _ ht).und_struct rfl
  split at h
  ·rename_i ft o hfo
   have hfi:∃ fd,fields[f]?=some fd∧fd.type=ft∧fd.offset=o:=by
    rw[←hf,List.getElem?_map]at hfo
    cases hq:fields.toList[f]? with
    | none=>simp[hq]at hfo
    | some fd=>
     simp[hq]at hfo
     exact ⟨fd,by simpa using hq,hfo.1,hfo.2⟩
   obtain ⟨fd,h1,h2,h3⟩:=hfi
   split at h
   ·rename_i i hi
    have hs:=fun w=>(hE _ _ hi).run_sizeOf (w:=w)
    obtain ⟨h4,h⟩:=Q7.1 h
    have h4:¬i.size=0:=by have:=of_decide_eq_true h4; omega
    split at h
    ·cases h
     rename_i b off
     obtain ⟨g,hg,rfl⟩:=hx
     refine ⟨.pointer (some ⟨g,off+o,none⟩),?_,g,hg,by rw[QpX]⟩
     simp[Instr.fieldAt,run_underlying hu,h1,Instr.sureAddr,fieldPlace,h2,hs,h4,h3,Q7P]
    ·rename_i c _
     have e:=Blk.sub_push c o i.size some (fun d=>some (AV.fptr d))
     simp only[Option.bind_some]at e
     rw[←e]at h
     obtain ⟨d,h5,h6⟩:=Z2 h
     cases h6
     obtain ⟨p,us,rfl,hps,hr,hw,hc⟩:=hx
     obtain ⟨h7,h8,_⟩:=Qmm h5 hr
     have hne:us≠[]:=by rintro rfl; simp at h7; omega
     refine ⟨.pointer (some (p.add o)),?_,p.add o,(us.drop o).take i.size,rfl,by rw[Qmn hps],h8,.inr (by rw[Q3k]; exact hw.resolve_left hne),Q28 (Q5M hps hc _) _⟩
     simp[Instr.fieldAt,run_underlying hu,h1,Instr.sureAddr,fieldPlace,h2,hs,h4,h3]
    ·cases h
   ·cases h
  ·cases h
 ·cases h
theorem QJJ(hE:ZY E P){s:TypeId}{x z:AV}{u:Value}{f:Nat}(h:QC2 E s x f some=some z)(hx:rel C x u):
  ∃ q,(Instr.field s u f).run P w = .ok q w∧rel C z q:=by
 unfold QC2 at h
 split at h
 ·rename_i fs _ _ _ ht
  obtain ⟨fields,hu,hf⟩:=(hE _ _ ht).und_struct rfl
  split at h
  ·rename_i ft o hfo
   have hfi:∃ fd,fields[f]?=some fd∧fd.type=ft∧fd.offset=o:=by
    rw[←hf,List.getElem?_map]at hfo
    cases hq:fields.toList[f]? with
    | none=>simp[hq]at hfo
    | some fd=>
     simp[hq]at hfo
     exact ⟨fd,by simpa using hq,hfo.1,hfo.2⟩
   obtain ⟨fd,h1,h2,h3⟩:=hfi
   split at h
   ·rename_i c
    obtain ⟨us,rfl,hr⟩:=hx
    obtain ⟨q,h4,h5⟩:=QzE (w:=w) hE h hr
    exact ⟨q,by simp[Instr.field,run_underlying hu,h1,asAgg,h2,h3,h4],h5⟩
   ·cases h
  ·cases h
 ·cases h
theorem QJK(hE:ZY E P){t:TypeId}{x z:AV}{u:Value}{ts:Array TypeId}(ty:TypeId)(h:QC4 E t x some=some z)(hx:rel C x u)(hts:ts[0]?=some t):
  ∃ q,(Builtin.len_ ts ty #[u]).run P w = .ok q w∧rel C z q:=by
 unfold QC4 at h
 split at h
 ·rename_i ht
  have hu:=(hE _ _ ht).und_slice rfl
  split at h
  ·cases h
   obtain ⟨a,cap,rfl,_⟩:=hx
   exact ⟨_,by simp[Builtin.len_,hts,run_underlying hu]; rfl,rfl⟩
  ·cases h
   obtain ⟨a,rfl⟩:=hx
   exact ⟨_,by simp[Builtin.len_,hts,run_underlying hu]; rfl,rfl⟩
  ·cases h
   obtain ⟨a,cap,us,rfl,_⟩:=hx
   exact ⟨_,by simp[Builtin.len_,hts,run_underlying hu]; rfl,rfl⟩
  ·cases h
 ·rename_i ht
  have hu:=(hE _ _ ht).und_str rfl
  split at h
  ·cases h; cases hx
   exact ⟨_,by simp[Builtin.len_,hts,run_underlying hu]; rfl,rfl⟩
  ·cases h
 ·rename_i n e _ _ _ ht
  have hu:=(hE _ _ ht).und_array rfl
  cases h
  exact ⟨_,by simp[Builtin.len_,hts,run_underlying hu]; rfl,rfl⟩
 ·cases h
theorem QJL{xs:List AV}{z:AV}{us:List Value}(ts:Array TypeId)(ty:TypeId)(h:QJB xs=some z)(hx:QE C xs us):
  ∃ q,(Builtin.max_ ts ty us.toArray).run P w = .ok q w∧rel C z q:=by
 unfold QJB at h
 split at h
 ·cases h
  obtain ⟨_,_,rfl,h1,_,_,rfl,h2,h3⟩:=hx
  cases h1; cases h2; cases h3
  exact ⟨_,by simp[Builtin.max_,Builtin.max2]; rfl,rfl⟩
 ·cases h
  obtain ⟨_,_,rfl,h1,_,_,rfl,h2,_,_,rfl,h3,h4⟩:=hx
  cases h1; cases h2; cases h3; cases h4
  exact ⟨_,by simp[Builtin.max_,Builtin.max2]; rfl,rfl⟩
 ·cases h
theorem QJM{xs:List AV}{z:AV}{us:List Value}(ts:Array TypeId)(ty:TypeId)(h:QJC xs=some z)(hx:QE C xs us):
  ∃ q,(Builtin.min_ ts ty us.toArray).run P w = .ok q w∧rel C z q:=by
 unfold QJC at h
 split at h
 ·cases h
  obtain ⟨_,_,rfl,h1,_,_,rfl,h2,h3⟩:=hx
  cases h1; cases h2; cases h3
  exact ⟨_,by simp[Builtin.min_,Builtin.min2]; rfl,rfl⟩
 ·cases h
  obtain ⟨_,_,rfl,h1,_,_,rfl,h2,_,_,rfl,h3,h4⟩:=hx
  cases h1; cases h2; cases h3; cases h4
  exact ⟨_,by simp[Builtin.min_,Builtin.min2]; rfl,rfl⟩
 ·cases h
theorem Q86(cs:List Col):∀ n i j,(Uf cs i n)[j]?=if j<n then some (cs.map fun c=>c.at (i+j)) else none
 | 0,_,j=>by simp[Uf]
 | n+1,i,0=>by simp[Uf]
 | n+1,i,j+1=>by
  simp only[Uf,List.getElem?_cons_succ,Q86 cs n (i+1) j]
  rw[show i+1+j=i+(j+1) by omega]
  by_cases h:j<n
  ·rw[if_pos h,if_pos (by omega)]
  ·rw[if_neg h,if_neg (by omega)]
theorem QrM(c:Col)(lo hi:Nat):(c.cut lo hi).len=min hi c.len-lo:=by
 cases c<;>simp[Col.cut,Col.len]
theorem QHD{α:Type}(xs:List α)(d:α)(lo hi j:Nat)(h:j<min hi xs.length-lo):((xs.take hi).drop lo).getD j d=xs.getD (lo+j) d:=by
 simp only[List.getD_eq_getElem?_getD,List.getElem?_drop,List.getElem?_take]
 rw[if_pos (by omega)]
theorem QC7(c:Col)(lo hi j:Nat)(h:j<min hi c.len-lo):(c.cut lo hi).at j=c.at (lo+j):=by
 cases c<;>simp only[Col.cut,Col.at]<;>rw[QHD _ _ _ _ _ h]
theorem QzI{cs:List Col}{n:Nat}(hl:∀ c∈cs,c.len=n)(lo hi:Nat):((Uf cs 0 n).take hi).drop lo=Uf (cs.map (Col.cut lo hi)) 0 (min hi n-lo):=by
 apply List.ext_getElem?
 intro j
 rw[List.getElem?_drop,List.getElem?_take,Q86,Q86]
 by_cases h:j<min hi n-lo
 ·rw[if_pos (by omega),if_pos (by omega),if_pos h,List.map_map]
  congr 1
  apply List.map_congr_left
  intro c hc
  have:=hl c hc
  simp only[Function.comp,Nat.zero_add]
  rw[QC7 c lo hi j (by rw[this]; exact h)]
 ·rw[if_neg h]
  by_cases h2:lo+j<hi
  ·rw[if_pos h2,if_neg (by omega)]
  ·rw[if_neg h2]
theorem QtM{C:Cx}(sz:Nat):∀ (k:Nat) (us:List Value),us.length=k*sz→QaK C sz (List.replicate k (List.replicate sz .undef)) us
 | 0,us,h=>by
  have:us=[]:=List.eq_nil_of_length_eq_zero (by omega)
  subst this; rfl
 | k+1,us,h=>by
  rw[Nat.succ_mul]at h
  refine ⟨us.take sz,us.drop sz,(List.take_append_drop _ _).symm,by simp,?_,QtM sz k _ (by rw[List.length_drop]; omega)⟩
  have:=Qpg (C:=C) (us.take sz)
  rwa [List.length_take,Nat.min_eq_left (by omega)]at this
theorem QHE{c:Blk}{us:List Value}(lo hi:Nat)(hr:Qw C c us):Qw C (c.cut lo hi) ((us.take (hi*c.esz)).drop (lo*c.esz)):=by
 cases c with
 | ints k xs=>have hr:us=_:=hr; subst hr; simp[Blk.cut,Qw,Blk.esz,List.map_take,List.map_drop]
 | bools xs=>have hr:us=_:=hr; subst hr; simp[Blk.cut,Qw,Blk.esz,List.map_take,List.map_drop]
 | any cs=>simpa[Blk.cut,Qw,Blk.esz]using Q85 lo (Q84 hi hr)
 | rows sz rs=>exact ⟨hr.1,relR_drop lo (relR_take hi hr.2)⟩
 | cols cs ds=>
  have hn:=Qq0 hr
  obtain ⟨hp,hl,h0,u1,u2,he,h3,h4⟩:=hr
  cases ds with
  | nil=>
   have h4:u2=[]:=h4
   subst he h4
   have h5:=relR_drop lo (relR_take hi (Ym.1 h3))
   rw[QzI hl]at h5
   have hlen:∀ c∈cs.map (Col.cut lo hi),c.len=min hi (Q4R cs)-lo:=fun c hc=>by
    obtain ⟨d,hd,rfl⟩:=List.mem_map.1 hc
    rw[QrM,hl d hd]
   have hcn:Q4R (cs.map (Col.cut lo hi))=min hi (Q4R cs)-lo:=by
    cases cs with
    | nil=>simp at hp
    | cons c cs=>exact hlen _ (by simp)
   refine ⟨by simpa using hp,fun c hc=>by rw[hlen c hc,hcn],by simp,_,[],(List.append_nil _).symm,?_,rfl⟩
   rw[hcn]
   refine Ym.2 ?_
   simpa[Blk.esz]using h5
  | cons d ds=>
   have e:(Blk.cols cs (d::ds)).esz=cs.length:=rfl
   refine ⟨hp,QtM _ _ _ ?_⟩
   rw[e]at hn ⊢
   have e2:(Blk.cols cs (d::ds)).num=Q4R cs+(d::ds).length/cs.length:=rfl
   rw[e2]at hn
   rw[List.length_drop,List.length_take,hn,Nat.sub_mul]
   generalize Q4R cs+(d::ds).length/cs.length=n
   rcases Nat.le_total hi n with h|h
   ·rw[Nat.min_eq_left h,Nat.min_eq_left (Nat.mul_le_mul_right _ h)]
   ·rw[Nat.min_eq_right h,Nat.min_eq_right (Nat.mul_le_mul_right _ h)]
where
 relR_take {sz:Nat} : ∀ {rs:List (List AV)} {us:List Value} (n:Nat),QaK C sz rs us→QaK C sz (rs.take n) (us.take (n*sz))
  | [],_,n,h=>by have h:_=[]:=h; subst h; simp[QaK]
  | _::_,_,0,_=>by simp[QaK]
  | _::_,_,n+1,⟨u1,u2,he,hl,h1,h2⟩=>by
   subst he
   have hl1:u1.length=sz:=by rw[QG h1,hl]
   refine ⟨u1,u2.take (n*sz),?_,hl,h1,relR_take n h2⟩
   rw[show (n+1)*sz=u1.length+n*sz from by rw[Nat.succ_mul,hl1]; omega,List.take_length_add_append]
 relR_drop {sz:Nat} : ∀ {rs:List (List AV)} {us:List Value} (n:Nat),QaK C sz rs us→QaK C sz (rs.drop n) (us.drop (n*sz))
  | [],_,n,h=>by have h:_=[]:=h; subst h; simp[QaK]
  | _::_,_,0,h=>by simpa using h
  | _::_,_,n+1,⟨u1,u2,he,hl,h1,h2⟩=>by
   subst he
   have hl1:u1.length=sz:=by rw[QG h1,hl]
   rw[show (n+1)*sz=u1.length+n*sz from by rw[Nat.succ_mul,hl1]; omega,List.drop_length_add_append]
   exact relR_drop n h2
def QtN(C:Cx):Option AV→Option Value→Prop
 | none,none=>True
 | some a,some v=>rel C a v
 | _,_=>False
theorem QtO{f:Operand→AV}{g:Operand→Value}(h:∀ x,rel C (f x) (g x))(o:Option Operand):QtN C (o.map f) (o.map g):=by
 cases o<;>simp[QtN,h]
theorem Yd{x:Option AV}{v:Option Value}{d n:Int}(h:Qsl x d=some n)(hx:QtN C x v):(v=none∧n=d)∨∃ k,v=some (.int k n):=by
 unfold Qsl at h
 split at h
 ·cases h; cases v<;>simp[QtN]at hx ⊢
 ·cases h; cases v<;>simp[QtN]at hx ⊢
  cases hx; exact ⟨_,rfl⟩
 ·cases h
theorem QdR(b:Bool)(len cap:Nat){lo hi:Option Value}{l h:Int}(hl:(lo=none∧l=0)∨∃ k,lo=some (.int k l))(hh:(hi=none∧h=(len:Int))∨∃ k,hi=some (.int k h))
  (h0:0≤l) (h1:l≤h) (h2:h≤(cap:Int)):(Instr.sliceBounds b len cap lo hi none).run P w = .ok (l.toNat,h.toNat,cap) w:=by
 have h3:0≤h:=by omega
 obtain ⟨l,rfl⟩:=Int.eq_ofNat_of_zero_le h0
 obtain ⟨h,rfl⟩:=Int.eq_ofNat_of_zero_le h3
 have h1:l≤h:=by omega
 have h2:h≤cap:=by omega
 rcases hl with ⟨rfl,hl⟩|⟨k,rfl⟩<;>rcases hh with ⟨rfl,hh⟩|⟨k',rfl⟩
 ·have hl:l=0:=by omega
  have hh:h=len:=by omega
  subst hl hh; simp[Instr.sliceBounds]
 ·have hl:l=0:=by omega
  subst hl; simp[Instr.sliceBounds,Instr.sliceBound,asIntOf,h2]
 ·have hh:h=len:=by omega
  subst hh; simp[Instr.sliceBounds,Instr.sliceBound,asIntOf,h1]
 ·simp[Instr.sliceBounds,Instr.sliceBound,asIntOf,h1,h2]
theorem Qmo(b:Bool)(len cap:Nat){lo:Option Value}{l h m:Int}{k k':IntKind}(hl:(lo=none∧l=0)∨∃ k,lo=some (.int k l))
  (h0:0≤l) (h1:l≤h) (h2:h≤m) (h3:m≤(cap:Int)):(Instr.sliceBounds b len cap lo (some (.int k h)) (some (.int k' m))).run P w = .ok (l.toNat,h.toNat,m.toNat) w:=by
 have h4:0≤h:=by omega
 have h5:0≤m:=by omega
 obtain ⟨l,rfl⟩:=Int.eq_ofNat_of_zero_le h0
 obtain ⟨h,rfl⟩:=Int.eq_ofNat_of_zero_le h4
 obtain ⟨m,rfl⟩:=Int.eq_ofNat_of_zero_le h5
 have h1:l≤h:=by omega
 have h2:h≤m:=by omega
 have h3:m≤cap:=by omega
 rcases hl with ⟨rfl,hl⟩|⟨k,rfl⟩<;>simp[Instr.sliceBounds,Instr.sliceBound,asIntOf,h1,h2,h3]
 omega
theorem Q3l{t e:TypeId}{a:Option Addr}{len cap size l h m:Nat}{lv hv mv:Option Value}(hu:P.underlying t=some (.slice e))(hs:∀ w,(sizeOf e).run P w = .ok size w)
  (hb:(Instr.sliceBounds true len cap lv hv mv).run P w = .ok (l,h,m) w):(Instr.sliceAt t (.slice a len cap) lv hv mv).run P w = .ok (.slice (if m=l then a else a.map (·.add (l*size))) (h-l) (m-l)) w:=by
 simp[Instr.sliceAt,Instr.slice,run_underlying hu,hb,hs]
theorem QtP{w:World}{g off cap sz l m:Nat}(h:Qpe w g off (cap*sz))(hl:l≤m)(hm:m≤cap):Qpe w g (off+l*sz) ((m-l)*sz):=by
 obtain ⟨arr,T,h1,h2⟩:=h
 refine ⟨arr,T,h1,?_⟩
 have:l*sz+(m-l)*sz≤cap*sz:=by rw[←Nat.add_mul]; exact Nat.mul_le_mul_right _ (by omega)
 omega
theorem QJN{c:Blk}{l h:Nat}(hh:h≤c.num):(c.cut l h).num=h-l∧(c.cut l h).esz=c.esz:=by
 cases c with
 | cols cs ds=>
  cases ds with
  | nil=>
   have hh:h≤Q4R cs:=hh
   refine ⟨?_,by simp[Blk.cut,Blk.esz]⟩
   show Q4R (cs.map (Col.cut l h))=h-l
   cases cs with
   | nil=>simp[Q4R]at hh ⊢; omega
   | cons c cs=>
    have hh:h≤c.len:=hh
    show (c.cut l h).len=_
    rw[QrM]; omega
  | cons d ds=>
   have hh:h≤Q4R cs+(d::ds).length/cs.length:=hh
   refine ⟨?_,by simp[Blk.cut,Blk.esz]⟩
   show (List.replicate _ _).length=_
   rw[List.length_replicate,Nat.min_eq_left hh]
 | _=>simp[Blk.cut,Blk.num,Blk.esz]at hh ⊢ <;> omega
theorem QtQ{b off sz l h m:Nat}{a:Option Addr}{cap:Nat}(hc:cap≤maxLen)(hp:cap=0∨∃ g,C.m b=some g∧a=some ⟨g,off,none⟩∧Qpe C.w g off (cap*sz))
  (h1:l≤h) (h2:h≤m) (h3:m≤cap):rel C (.sl b (QxA off (Qlw l sz)) (h-l) sz) (.slice (if m=l then a else a.map (·.add (l*sz))) (h-l) (m-l)):=by
 rw[QpX,UF]
 refine ⟨_,_,rfl,by omega,by omega,?_⟩
 by_cases e:m=l
 ·exact .inl (by omega)
 ·obtain ⟨g,hg,rfl,hs⟩:=hp.resolve_left (by omega)
  refine .inr ⟨g,hg,by rw[if_neg e,Option.map_some,Q7P],QtP hs (by omega) h3⟩
theorem QrN{c:Blk}{l h m:Nat}{a:Option Addr}{us:List Value}(hr:Qw C.z c us)(hp:us=[]∨∃ p,a=some p∧p.spot=none∧¬C.Wr p.block∧QR C.w p us)
  (h1:l≤h) (h2:h≤m) (h3:h≤c.num):rel C (.fsl (c.cut l h)) (.slice (if m=l then a else a.map (·.add (l*c.esz))) (h-l) (m-l)):=by
 obtain ⟨e1,e2⟩:=QJN (c:=c) (l:=l) h3
 have hn:=Qq0 hr
 have hrc:=QHE l h hr
 refine ⟨_,_,_,by rw[e1],by omega,hrc,Qq0 hrc,?_⟩
 rcases hp with rfl|⟨p,rfl,h4,h5,h6⟩
 ·exact .inl (by simp)
 ·by_cases e:m=l
  ·refine .inl ?_
   rw[List.drop_eq_nil_iff]
   have:h=l:=by omega
   subst this
   exact List.length_take_le _ _
  ·exact .inr ⟨p.add (l*c.esz),by rw[if_neg e,Option.map_some],by rw[Qmn h4],by rw[Q3k]; exact h5,Q5M h4 (Q28 h6 _) _⟩
theorem QFl(hE:ZY E P){t:TypeId}{x z:AV}{u:Value}{lo hi mx:Option AV}{lv hv mv:Option Value}(h:Qpd E t x lo hi mx some=some z)(hx:rel C x u)(hlo:QtN C lo lv)(hhi:QtN C hi hv)(hmx:QtN C mx mv):
  ∃ q,(Instr.sliceAt t u lv hv mv).run P C.w = .ok q C.w∧rel C z q:=by
 unfold Qpd at h
 split at h
 ·rename_i e _ _ _ ht
  have hu:=(hE _ _ ht).und_slice rfl
  split at h
  ·rename_i ie he
   have hs:=fun w=>(hE _ _ he).run_sizeOf (w:=w)
   split at h
   ·rename_i b off len sz
    obtain ⟨a,cap,rfl,hl,hm,hp⟩:=hx
    split at h
    ·rename_i l g hlo' hhi'
     have e1:=Yd hlo' hlo
     have e2:=Yd hhi' hhi
     obtain ⟨h1,h⟩:=Q7.1 h
     obtain ⟨h2,h⟩:=Q7.1 h
     obtain ⟨h3,h⟩:=Q7.1 h
     obtain ⟨h4,h⟩:=Q7.1 h
     have h1:=of_decide_eq_true h1
     have h2:=of_decide_eq_true h2
     have h3:=of_decide_eq_true h3
     have h4:=of_decide_eq_true h4
     cases h
     cases mv with
     | some _=>cases hmx
     | none=>
     subst h1
     have hb:=QdR (P:=P) (w:=C.w) true len cap e1 e2 h2 h3 (by omega)
     exact ⟨_,Q3l hu hs hb,QtQ hm hp (by omega) (by omega) (by omega)⟩
    ·rename_i l g k m hv' hlo' hhi'
     have e1:=Yd hlo' hlo
     cases mv with
     | none=>cases hmx
     | some mv=>
     cases hmx
     obtain ⟨k',rfl⟩:∃ k',hv=some (.int k' g):=by
      rcases Yd hhi' hhi with ⟨rfl,_⟩|h'
      ·cases hhi
      ·exact h'
     obtain ⟨h1,h⟩:=Q7.1 h
     obtain ⟨h2,h⟩:=Q7.1 h
     obtain ⟨h3,h⟩:=Q7.1 h
     obtain ⟨h4,h⟩:=Q7.1 h
     obtain ⟨h5,h⟩:=Q7.1 h
     have h1:=of_decide_eq_true h1
     have h2:=of_decide_eq_true h2
     have h3:=of_decide_eq_true h3
     have h4:=of_decide_eq_true h4
     have h5:=of_decide_eq_true h5
     subst h1
     have hb:=Qmo (P:=P) (w:=C.w) (k:=k') (k':=k) true len cap e1 h2 h3 h4 (by omega)
     refine ⟨_,Q3l hu hs hb,?_⟩
     by_cases e:l=m
     ·subst e
      simp only[decide_true,Q8]at h
      cases h
      exact ⟨a,by rw[if_pos rfl,show g.toNat-l.toNat=0 from by omega,show l.toNat-l.toNat=0 from by omega]⟩
     ·rw[decide_eq_false e]at h
      cases h
      exact QtQ hm hp (by omega) (by omega) (by omega)
    ·cases h
   ·rename_i c
    obtain ⟨a,cap,us,rfl,hcap,hr,hn,hp⟩:=hx
    split at h
    ·rename_i l g hlo' hhi'
     have e1:=Yd hlo' hlo
     have e2:=Yd hhi' hhi
     obtain ⟨h1,h⟩:=Q7.1 h
     obtain ⟨h2,h⟩:=Q7.1 h
     obtain ⟨h3,h⟩:=Q7.1 h
     obtain ⟨h4,h⟩:=Q7.1 h
     have h1:=of_decide_eq_true h1
     have h2:=of_decide_eq_true h2
     have h3:=of_decide_eq_true h3
     have h4:=of_decide_eq_true h4
     cases h
     cases mv with
     | some _=>cases hmx
     | none=>
     have hb:=QdR (P:=P) (w:=C.w) true c.num cap e1 e2 h2 h3 (by omega)
     exact ⟨_,Q3l hu hs hb,by rw[h1]; exact QrN hr hp (by omega) (by omega) (by omega)⟩
    ·rename_i l g k m hv' hlo' hhi'
     have e1:=Yd hlo' hlo
     cases mv with
     | none=>cases hmx
     | some mv=>
     cases hmx
     obtain ⟨k',rfl⟩:∃ k',hv=some (.int k' g):=by
      rcases Yd hhi' hhi with ⟨rfl,_⟩|h'
      ·cases hhi
      ·exact h'
     obtain ⟨h1,h⟩:=Q7.1 h
     obtain ⟨h2,h⟩:=Q7.1 h
     obtain ⟨h3,h⟩:=Q7.1 h
     obtain ⟨h4,h⟩:=Q7.1 h
     obtain ⟨h5,h⟩:=Q7.1 h
     have h1:=of_decide_eq_true h1
     have h2:=of_decide_eq_true h2
     have h3:=of_decide_eq_true h3
     have h4:=of_decide_eq_true h4
     have h5:=of_decide_eq_true h5
     have hb:=Qmo (P:=P) (w:=C.w) (k:=k') (k':=k) true c.num cap e1 h2 h3 h4 (by omega)
     refine ⟨_,Q3l hu hs hb,?_⟩
     by_cases e:l=m
     ·subst e
      simp only[decide_true,Q8]at h
      cases h
      exact ⟨a,by rw[if_pos rfl,show g.toNat-l.toNat=0 from by omega,show l.toNat-l.toNat=0 from by omega]⟩
     ·rw[decide_eq_false e]at h
      cases h
      rw[h1]
      exact QrN hr hp (by omega) (by omega) (by omega)
    ·cases h
   ·obtain ⟨a,rfl⟩:=hx
    split at h
    ·rename_i l g hlo' hhi'
     have e1:=Yd hlo' hlo
     have e2:=Yd hhi' hhi
     obtain ⟨h1,h⟩:=Q7.1 h
     obtain ⟨h2,h⟩:=Q7.1 h
     have h1:=of_decide_eq_true h1
     have h2:=of_decide_eq_true h2
     subst h1; subst h2
     cases h
     cases mv with
     | some _=>cases hmx
     | none=>
     have hb:=QdR (P:=P) (w:=C.w) true 0 0 e1 e2 (by omega) (by omega) (by omega)
     exact ⟨_,Q3l hu hs hb,a,by simp⟩
    ·rename_i l g k m hv' hlo' hhi'
     have e1:=Yd hlo' hlo
     cases mv with
     | none=>cases hmx
     | some mv=>
     cases hmx
     obtain ⟨k',rfl⟩:∃ k',hv=some (.int k' g):=by
      rcases Yd hhi' hhi with ⟨rfl,_⟩|h'
      ·cases hhi
      ·exact h'
     obtain ⟨h1,h⟩:=Q7.1 h
     obtain ⟨h2,h⟩:=Q7.1 h
     obtain ⟨h3,h⟩:=Q7.1 h
     have h1:=of_decide_eq_true h1
     have h2:=of_decide_eq_true h2
     have h3:=of_decide_eq_true h3
     subst h1; subst h2; subst h3
     cases h
     have hb:=Qmo (P:=P) (w:=C.w) (h:=0) (m:=0) (k:=k') (k':=k) true 0 0 e1 (by omega) (by omega) (by omega) (by omega)
     exact ⟨_,Q3l hu hs hb,a,by simp⟩
    ·cases h
   ·cases h
  ·cases h
 ·rename_i _ _ _ ht
  have hu:=(hE _ _ ht).und_str rfl
  split at h
  ·rename_i s
   cases hx
   split at h
   ·rename_i l g hlo' hhi'
    have e1:=Yd hlo' hlo
    have e2:=Yd hhi' hhi
    obtain ⟨h2,h⟩:=Q7.1 h
    obtain ⟨h3,h⟩:=Q7.1 h
    obtain ⟨h4,h⟩:=Q7.1 h
    have h2:=of_decide_eq_true h2
    have h3:=of_decide_eq_true h3
    have h4:=of_decide_eq_true h4
    cases h
    cases mv with
    | some _=>cases hmx
    | none=>
    have hb:=QdR (P:=P) (w:=C.w) false s.size s.size e1 e2 h2 h3 (by omega)
    exact ⟨_,by simp[Instr.sliceAt,Instr.slice,run_underlying hu,hb],rfl⟩
   ·cases h
  ·cases h
 ·cases h
end
end Go.Ev
namespace Go.Ev
section
variable {E : Env} {X : Nat → Prop} {h h1 : H} {m : Nat → Option Nat} {w w1 : World}
def upd(m:Nat→Option Nat)(slot:Nat)(g:Option Nat):Nat→Option Nat:=fun b=>if b=slot then g else m b
structure Turn (E:Env) (X:Nat→Prop) (h:H) (m:Nat→Option Nat) (w:World) (slot:Nat) (c1:Blk) (g1:Option Nat) (Kd:Nat→Prop) (h1:H) (w1:World):Prop where
 good:Good E X h m w
 blk:∀ b c,Qy h1 b=some c→(b=slot∧c=c1)∨(b≠slot∧¬Kd b∧Qy h b=some c)
 live:∀ b c,h1[b]?=some (.live c)→b=slot∨(b≠slot∧h[b]?=some (.live c))
 lt:slot<h1.length
 len:h.length≤h1.length
 ms:m slot=none∨m slot=g1
 place:∀ q,g1=some q→w.heap.size≤q∨∃ b0 c0,h[b0]?=some (.live c0)∧m b0=some q∧(b0=slot∨Kd b0)
 same:∀ q,q<w.heap.size→g1≠some q→w1.heap[q]?=w.heap[q]?
 shape:∀ q,g1=some q→∀ (arr:Array Value) (T:TypeId),QH w q arr T→∃ arr':Array Value,QH w1 q arr' T∧arr'.size=arr.size
 os:w1.os=w.os
 tape:w1.tape=w.tape
 output:w1.output=w.output
 size:w.heap.size≤w1.heap.size
variable {slot : Nat} {c1 : Blk} {g1 : Option Nat} {Kd : Nat → Prop}
theorem Turn.ext(t:Turn E X h m w slot c1 g1 Kd h1 w1):∀ b g,m b=some g→upd m slot g1 b=some g:=by
 intro b g hb
 unfold upd
 split
 ·rename_i e; subst e
  rcases t.ms with h'|h'<;>rw[h']at hb
  ·cases hb
  ·exact hb
 ·exact hb
theorem Turn.L(t:Turn E X h m w slot c1 g1 Kd h1 w1):∀ g,Ev.L h1 (upd m slot g1) g→Ev.L h m g∨w.heap.size≤g:=by
 rintro q ⟨b,c,hb,hm⟩
 rcases t.live b c hb with rfl|⟨hne,hb'⟩
 ·have hm:g1=some q:=by simpa[upd]using hm
  rcases t.place q hm with h'|⟨b0,c0,h2,h3,_⟩
  ·exact .inr h'
  ·exact .inl ⟨b0,c0,h2,h3⟩
 ·exact .inl ⟨b,c,hb',by simpa[upd,hne]using hm⟩
theorem Turn.frame(t:Turn E X h m w slot c1 g1 Kd h1 w1):∀ g,g<w.heap.size→¬Ev.L h m g→w1.heap[g]?=w.heap[g]?:=by
 intro q hq hl
 refine t.same q hq fun e=>?_
 rcases t.place q e with h'|⟨b0,c0,h2,h3,_⟩
 ·omega
 ·exact hl ⟨b0,c0,h2,h3⟩
theorem Turn.shapes(t:Turn E X h m w slot c1 g1 Kd h1 w1):∀ (g:Nat) (arr:Array Value) (T:TypeId),QH w g arr T→∃ arr':Array Value,QH w1 g arr' T∧arr'.size=arr.size:=by
 intro q arr T hq
 by_cases e:g1=some q
 ·exact t.shape q e arr T hq
 ·exact ⟨arr,hq.congr (t.same q hq.lt e),rfl⟩
theorem Turn.step(t:Turn E X h m w slot c1 g1 Kd h1 w1):Step (cx X h m w) (cx X h1 (upd m slot g1) w1) where
 m:=t.ext
 wr:=fun g hg hw=>by
  rcases hw with hx|hl
  ·exact .inl hx
  ·rcases t.L g hl with h'|h'
   ·exact .inr h'
   ·exact absurd hg (by simp only[cx]; omega)
 keep:=fun g hg hw=>t.frame g hg (fun hl=>hw (.inr hl))
 shape:=t.shapes
theorem Turn.adv(t:Turn E X h m w slot c1 g1 Kd h1 w1)
  (hnew:Step (cx X h m w) (cx X h1 (upd m slot g1) w1)→∃ us,Qw (cx X h1 (upd m slot g1) w1) c1 us∧(us=[]∧g1=none∨∃ (q:Nat) (arr:Array Value) (T:TypeId),g1=some q∧QH w1 q arr T∧us.length≤arr.size∧∀ (i:Nat) u,us[i]?=some u→arr[i]?=some u)) :
  Adv E X h m w h1 (upd m slot g1) w1:=by
 have g:=t.good
 have hold:∀ b c q,b≠slot→¬Kd b→Qy h b=some c→m b=some q→g1≠some q:=by
  intro b c q hne hk hb hm e
  rcases t.place q e with h'|⟨b0,c0,h2,h3,h4⟩
  ·have:=QDA g hb hm; omega
  ·have:=g.inj b b0 c c0 q hb (QK h2) hm h3
   subst this
   rcases h4 with h4|h4
   ·exact hne h4
   ·exact hk h4
 have hgl:∀ q c,E.G q=some c→g1≠some q:=by
  intro q c hq e
  rcases t.place q e with h'|⟨b0,c0,h2,h3,_⟩
  ·have:=(g.gl q c hq).1; omega
  ·have:=(g.own b0 c0 q (QK h2) h3).2; rw[hq]at this; cases this
 refine ⟨⟨?_,?_,?_,?_,?_,?_⟩,t.ext,t.L,t.frame,t.shapes,t.os,t.tape,t.output,t.size,t.len⟩
 ·intro b c hb
  rcases t.blk b c hb with ⟨rfl,rfl⟩|⟨hne,hk,hb'⟩
  ·obtain ⟨us,h2,h3⟩:=hnew t.step
   exact ⟨us,h2,h3.imp (fun ⟨a,b⟩=>⟨a,by simp[upd,b]⟩) fun ⟨q,arr,T,h4,h5⟩=>⟨q,arr,T,by simp[upd,h4],h5⟩⟩
  ·obtain ⟨us,h2,h3⟩:=g.hp b c hb'
   refine ⟨us,QF t.step c us h2,?_⟩
   rcases h3 with ⟨h4,h5⟩|⟨q,arr,T,h4,h5,h6⟩
   ·exact .inl ⟨h4,by simp[upd,hne,h5]⟩
   ·exact .inr ⟨q,arr,T,by simp[upd,hne,h4],h5.congr (t.same q h5.lt (hold b c q hne hk hb' h4)),h6⟩
 ·intro b b' c c' q hb hb' hm hm'
  rcases t.blk b c hb with ⟨rfl,rfl⟩|⟨hne,hk,hb2⟩
  ·rcases t.blk b' c' hb' with ⟨rfl,rfl⟩|⟨hne',hk',hb2'⟩
   ·rfl
   ·exact absurd (by simpa[upd]using hm) (hold b' c' q hne' hk' hb2' (by simpa[upd,hne']using hm'))
  ·rcases t.blk b' c' hb' with ⟨rfl,rfl⟩|⟨hne',hk',hb2'⟩
   ·exact absurd (by simpa[upd]using hm') (hold b c q hne hk hb2 (by simpa[upd,hne]using hm))
   ·exact g.inj b b' c c' q hb2 hb2' (by simpa[upd,hne]using hm) (by simpa[upd,hne']using hm')
 ·intro b hb
  have h2:=t.lt
  have h3:=t.len
  simp only[upd,if_neg (show ¬b=slot by omega)]
  exact g.hi b (by omega)
 ·intro b c q hb hm
  rcases t.blk b c hb with ⟨rfl,rfl⟩|⟨hne,hk,hb'⟩
  ·rcases t.place q (by simpa[upd]using hm) with h'|⟨b0,c0,h2,h3,_⟩
   ·refine ⟨fun hx=>?_,?_⟩
    ·have:=g.xs q hx; omega
    ·cases hq:E.G q with
     | none=>rfl
     | some c=>have:=(g.gl q c hq).1; omega
   ·exact g.own b0 c0 q (QK h2) h3
  ·exact g.own b c q hb' (by simpa[upd,hne]using hm)
 ·intro q hq
  exact Nat.lt_of_lt_of_le (g.xs q hq) t.size
 ·intro q c hq
  obtain ⟨h2,h3,us,h4,h5⟩:=g.gl q c hq
  refine ⟨Nat.lt_of_lt_of_le h2 t.size,h3,us,QF t.step.z c us h4,?_⟩
  intro i u hi
  rw[←h5 i u hi]
  exact World.cell?_of_block (by rw[Q3k]; exact t.same q h2 (hgl q c hq))
theorem Q6Q{slot:Nat}{b:HB}(hs:slot≤h.length)(j:Nat):(Q27 h slot b)[j]?=if j=slot then some b else h[j]?:=by
 unfold Q27
 split
 ·rename_i hl
  rw[List.getElem?_set]
  split
  ·rename_i e; subst e; simp
  ·rename_i e; rw[if_neg (Ne.symm e)]
 ·have e:slot=h.length:=by omega
  subst e
  rw[List.getElem?_append]
  split
  ·rw[if_neg (by omega)]
  ·rename_i hj
   by_cases e:j=h.length
   ·subst e; simp
   ·rw[if_neg e,List.getElem?_eq_none (by simp; omega),List.getElem?_eq_none (by omega)]
theorem Q6R{slot:Nat}{b:HB}(hs:slot≤h.length):h.length≤(Q27 h slot b).length∧slot<(Q27 h slot b).length:=by
 unfold Q27; split
 ·simp; omega
 ·simp; omega
structure Free (h:H) (m:Nat→Option Nat) (slot:Nat):Prop where
 le:slot≤h.length
 no:m slot=none
 dead:∀ b,h[slot]?=some b→b = .dead
theorem QDB{c:Blk}{us:List Value}{arr:Array Value}{T:TypeId}(g:Good E X h m w)(f:Free h m slot)(hc:Qw (cx X h m w) c us)(ha:us.length≤arr.size∧∀ (i:Nat) u,us[i]?=some u→arr[i]?=some u)
  (hw:w1.heap=w.heap.push (.cells arr T (0,0))) (hos:w1.os=w.os) (ht:w1.tape=w.tape) (ho:w1.output=w.output) :
  Adv E X h m w (Q27 h slot (.live c)) (upd m slot (some w.heap.size)) w1:=by
 have hs:w1.heap.size=w.heap.size+1:=by rw[hw]; simp
 have t:Turn E X h m w slot c (some w.heap.size) (fun _=>False) (Q27 h slot (.live c)) w1:={
  good:=g
  blk:=fun b d hb=>by
   unfold Qy at hb
   rw[Q6Q f.le]at hb
   by_cases e:b=slot
   ·subst e; simp at hb; exact .inl ⟨rfl,hb.symm⟩
   ·rw[if_neg e]at hb; exact .inr ⟨e,id,by unfold Qy; exact hb⟩
  live:=fun b d hb=>by
   rw[Q6Q f.le]at hb
   by_cases e:b=slot
   ·exact .inl e
   ·rw[if_neg e]at hb; exact .inr ⟨e,hb⟩
  lt:=(Q6R f.le).2
  len:=(Q6R f.le).1
  ms:=.inl f.no
  place:=fun q hq=>.inl (by cases hq; exact Nat.le_refl _)
  same:=fun q hq _=>by rw[hw,Array.getElem?_push,if_neg (by omega)]
  shape:=fun q hq arr T hh=>by cases hq; exact absurd hh.lt (Nat.lt_irrefl _)
  os:=hos,tape:=ht,output:=ho,size:=by omega }
 refine t.adv fun S=>⟨us,QF S c us hc,.inr ⟨_,arr,T,rfl,?_,ha⟩⟩
 exact QH.of (by rw[hw]; simp)
theorem QxJ{b q:Nat}{c c':Blk}{us':List Value}{arr arr':Array Value}{T:TypeId}(g:Good E X h m w)(hb:h[b]?=some (.live c))(hm:m b=some q)(hq:QH w q arr T)
  (hc:Qw (cx X h m w) c' us') (ha:us'.length≤arr'.size∧∀ (i:Nat) u,us'[i]?=some u→arr'[i]?=some u) (hsz:arr'.size=arr.size)
  (hw:QH w1 q arr' T) (hf:∀ k,k≠q→w1.heap[k]?=w.heap[k]?) (hs:w1.heap.size=w.heap.size) (hos:w1.os=w.os) (ht:w1.tape=w.tape) (ho:w1.output=w.output) :
  Adv E X h m w (h.set b (.live c')) m w1:=by
 have hbl:=(List.getElem?_eq_some_iff.1 hb).1
 have hl:=hq.lt
 have t:Turn E X h m w b c' (some q) (fun _=>False) (h.set b (.live c')) w1:={
  good:=g
  blk:=fun b' d hb'=>by
   unfold Qy at hb'
   rw[List.getElem?_set]at hb'
   by_cases e:b'=b
   ·subst e; simp[hbl]at hb'; exact .inl ⟨rfl,hb'.symm⟩
   ·rw[if_neg (Ne.symm e)]at hb'; exact .inr ⟨e,id,by unfold Qy; exact hb'⟩
  live:=fun b' d hb'=>by
   rw[List.getElem?_set]at hb'
   by_cases e:b'=b
   ·exact .inl e
   ·rw[if_neg (Ne.symm e)]at hb'; exact .inr ⟨e,hb'⟩
  lt:=by simpa using hbl
  len:=by simp
  ms:=.inr hm
  place:=fun k hk=>.inr ⟨b,c,hb,by rw[hm,hk],.inl rfl⟩
  same:=fun k _ hne=>hf k (fun e=>hne (by rw[e]))
  shape:=fun k hk arr0 T0 hh=>by
   cases hk
   obtain ⟨rfl,rfl⟩:=hq.uniq hh
   exact ⟨arr',hw,hsz⟩
  os:=hos,tape:=ht,output:=ho,size:=by omega }
 have e:upd m b (some q)=m:=by funext k; unfold upd; split<;>simp_all
 have:=t.adv fun S=>⟨us',QF S c' us' hc,.inr ⟨q,arr',T,rfl,hw,ha⟩⟩
 rwa [e]at this
theorem QHF{c:Blk}(g:Good E X h m w)(f:Free h m slot)(hc:∀ C,Qw C c []):Adv E X h m w (Q27 h slot (.live c)) (upd m slot none) w:=by
 have t:Turn E X h m w slot c none (fun _=>False) (Q27 h slot (.live c)) w:={
  good:=g
  blk:=fun b d hb=>by
   unfold Qy at hb
   rw[Q6Q f.le]at hb
   by_cases e:b=slot
   ·subst e; simp at hb; exact .inl ⟨rfl,hb.symm⟩
   ·rw[if_neg e]at hb; exact .inr ⟨e,id,by unfold Qy; exact hb⟩
  live:=fun b d hb=>by
   rw[Q6Q f.le]at hb
   by_cases e:b=slot
   ·exact .inl e
   ·rw[if_neg e]at hb; exact .inr ⟨e,hb⟩
  lt:=(Q6R f.le).2
  len:=(Q6R f.le).1
  ms:=.inl f.no
  place:=fun q hq=>by cases hq
  same:=fun _ _ _=>rfl
  shape:=fun q hq=>by cases hq
  os:=rfl,tape:=rfl,output:=rfl,size:=Nat.le_refl _ }
 exact t.adv fun _=>⟨[],hc _,.inl ⟨rfl,rfl⟩⟩
theorem Qv4{b:Nat}{c c':Blk}(g:Good E X h m w)(f:Free h m slot)(hb:h[b]?=some (.live c))(hc:∀ C,Qw C c' []):Adv E X h m w (Q27 (h.set b .dead) slot (.live c')) (upd m slot none) w:=by
 have fle:slot≤(h.set b .dead).length:=by simpa using f.le
 have t:Turn E X h m w slot c' none (fun k=>k=b) (Q27 (h.set b .dead) slot (.live c')) w:={
  good:=g
  blk:=fun b' d hb'=>by
   unfold Qy at hb'
   rw[Q6Q fle]at hb'
   by_cases e:b'=slot
   ·subst e; simp at hb'; exact .inl ⟨rfl,hb'.symm⟩
   ·rw[if_neg e,List.getElem?_set]at hb'
    by_cases e2:b=b'
    ·subst e2
     rw[if_pos rfl,if_pos (List.getElem?_eq_some_iff.1 hb).1]at hb'
     cases hb'
    ·rw[if_neg e2]at hb'; exact .inr ⟨e,fun e=>e2 e.symm,by unfold Qy; exact hb'⟩
  live:=fun b' d hb'=>by
   rw[Q6Q fle]at hb'
   by_cases e:b'=slot
   ·exact .inl e
   ·rw[if_neg e,List.getElem?_set]at hb'
    by_cases e2:b=b'
    ·subst e2
     rw[if_pos rfl,if_pos (List.getElem?_eq_some_iff.1 hb).1]at hb'
     cases hb'
    ·rw[if_neg e2]at hb'; exact .inr ⟨e,hb'⟩
  lt:=(Q6R fle).2
  len:=by have:=(Q6R (b:=.live c') fle).1; simpa using this
  ms:=.inl f.no
  place:=fun q hq=>by cases hq
  same:=fun _ _ _=>rfl
  shape:=fun q hq=>by cases hq
  os:=rfl,tape:=rfl,output:=rfl,size:=Nat.le_refl _ }
 exact t.adv fun _=>⟨[],hc _,.inl ⟨rfl,rfl⟩⟩
theorem QzJ{b q:Nat}{c c':Blk}{us':List Value}{arr arr':Array Value}{T:TypeId}(g:Good E X h m w)(f:Free h m slot)(hb:h[b]?=some (.live c))(hm:m b=some q)(hq:QH w q arr T)
  (hc:Qw (cx X h m w) c' us') (ha:us'.length≤arr'.size∧∀ (i:Nat) u,us'[i]?=some u→arr'[i]?=some u) (hsz:arr'.size=arr.size)
  (hw:QH w1 q arr' T) (hf:∀ k,k≠q→w1.heap[k]?=w.heap[k]?) (hs:w1.heap.size=w.heap.size) (hos:w1.os=w.os) (ht:w1.tape=w.tape) (ho:w1.output=w.output) :
  Adv E X h m w (Q27 (h.set b .dead) slot (.live c')) (upd m slot (some q)) w1:=by
 have hl:=hq.lt
 have fle:slot≤(h.set b .dead).length:=by simpa using f.le
 have t:Turn E X h m w slot c' (some q) (fun k=>k=b) (Q27 (h.set b .dead) slot (.live c')) w1:={
  good:=g
  blk:=fun b' d hb'=>by
   unfold Qy at hb'
   rw[Q6Q fle]at hb'
   by_cases e:b'=slot
   ·subst e; simp at hb'; exact .inl ⟨rfl,hb'.symm⟩
   ·rw[if_neg e,List.getElem?_set]at hb'
    by_cases e2:b=b'
    ·subst e2
     rw[if_pos rfl,if_pos (List.getElem?_eq_some_iff.1 hb).1]at hb'
     cases hb'
    ·rw[if_neg e2]at hb'; exact .inr ⟨e,fun e=>e2 e.symm,by unfold Qy; exact hb'⟩
  live:=fun b' d hb'=>by
   rw[Q6Q fle]at hb'
   by_cases e:b'=slot
   ·exact .inl e
   ·rw[if_neg e,List.getElem?_set]at hb'
    by_cases e2:b=b'
    ·subst e2
     rw[if_pos rfl,if_pos (List.getElem?_eq_some_iff.1 hb).1]at hb'
     cases hb'
    ·rw[if_neg e2]at hb'; exact .inr ⟨e,hb'⟩
  lt:=(Q6R fle).2
  len:=by have:=(Q6R (b:=.live c') fle).1; simpa using this
  ms:=.inl f.no
  place:=fun k hk=>.inr ⟨b,c,hb,by rw[hm,hk],.inr rfl⟩
  same:=fun k _ hne=>hf k (fun e=>hne (by rw[e]))
  shape:=fun k hk arr0 T0 hh=>by
   cases hk
   obtain ⟨rfl,rfl⟩:=hq.uniq hh
   exact ⟨arr',hw,hsz⟩
  os:=hos,tape:=ht,output:=ho,size:=by omega }
 exact t.adv fun S=>⟨us',QF S c' us' hc,.inr ⟨q,arr',T,rfl,hw,ha⟩⟩
theorem QHG{b:Nat}{c c':Blk}{us':List Value}{arr':Array Value}{T:TypeId}(g:Good E X h m w)(f:Free h m slot)(hb:h[b]?=some (.live c))
  (hc:Qw (cx X h m w) c' us') (ha:us'.length≤arr'.size∧∀ (i:Nat) u,us'[i]?=some u→arr'[i]?=some u)
  (hw:w1.heap=w.heap.push (.cells arr' T (0,0))) (hos:w1.os=w.os) (ht:w1.tape=w.tape) (ho:w1.output=w.output) :
  Adv E X h m w (Q27 (h.set b .dead) slot (.live c')) (upd m slot (some w.heap.size)) w1:=by
 have fle:slot≤(h.set b .dead).length:=by simpa using f.le
 have hs:w1.heap.size=w.heap.size+1:=by rw[hw]; simp
 have t:Turn E X h m w slot c' (some w.heap.size) (fun k=>k=b) (Q27 (h.set b .dead) slot (.live c')) w1:={
  good:=g
  blk:=fun b' d hb'=>by
   unfold Qy at hb'
   rw[Q6Q fle]at hb'
   by_cases e:b'=slot
   ·subst e; simp at hb'; exact .inl ⟨rfl,hb'.symm⟩
   ·rw[if_neg e,List.getElem?_set]at hb'
    by_cases e2:b=b'
    ·subst e2
     rw[if_pos rfl,if_pos (List.getElem?_eq_some_iff.1 hb).1]at hb'
     cases hb'
    ·rw[if_neg e2]at hb'; exact .inr ⟨e,fun e=>e2 e.symm,by unfold Qy; exact hb'⟩
  live:=fun b' d hb'=>by
   rw[Q6Q fle]at hb'
   by_cases e:b'=slot
   ·exact .inl e
   ·rw[if_neg e,List.getElem?_set]at hb'
    by_cases e2:b=b'
    ·subst e2
     rw[if_pos rfl,if_pos (List.getElem?_eq_some_iff.1 hb).1]at hb'
     cases hb'
    ·rw[if_neg e2]at hb'; exact .inr ⟨e,hb'⟩
  lt:=(Q6R fle).2
  len:=by have:=(Q6R (b:=.live c') fle).1; simpa using this
  ms:=.inl f.no
  place:=fun q hq=>.inl (by cases hq; exact Nat.le_refl _)
  same:=fun q hq _=>by rw[hw,Array.getElem?_push,if_neg (by omega)]
  shape:=fun q hq arr T hh=>by cases hq; exact absurd hh.lt (Nat.lt_irrefl _)
  os:=hos,tape:=ht,output:=ho,size:=by omega }
 refine t.adv fun S=>⟨us',QF S c' us' hc,.inr ⟨_,arr',T,rfl,?_,ha⟩⟩
 exact QH.of (by rw[hw]; simp)
theorem QHH(g:Good E X h m w)(hs:w.heap.size≤w1.heap.size)(hb:∀ q,q<w.heap.size→w1.heap[q]?=w.heap[q]?)(h1:w1.os=w.os)(h2:w1.tape=w.tape)(h3:w1.output=w.output):Adv E X h m w h m w1:=by
 have hsh:∀ (q:Nat) (arr:Array Value) (T:TypeId),QH w q arr T→QH w1 q arr T:=fun q arr T hq=>by
  exact hq.congr (hb q hq.lt)
 have S:Step (cx X h m w) (cx X h m w1):=⟨fun _ _ h=>h,fun _ _ h=>h,fun q hq _=>hb q hq,fun q arr T hq=>⟨arr,hsh q arr T hq,rfl⟩⟩
 refine ⟨⟨?_,g.inj,g.hi,g.own,fun q hq=>Nat.lt_of_lt_of_le (g.xs q hq) hs,?_⟩,fun _ _ h=>h,fun _ h=>.inl h,fun q hq _=>hb q hq,fun q arr T hq=>⟨arr,hsh q arr T hq,rfl⟩,h1,h2,h3,hs,Nat.le_refl _⟩
 ·intro b c hc
  obtain ⟨us,h1,h2⟩:=g.hp b c hc
  exact ⟨us,QF S c us h1,h2.imp id fun ⟨q,arr,T,h3,h4,h5⟩=>⟨q,arr,T,h3,hsh q arr T h4,h5⟩⟩
 ·intro q c hq
  obtain ⟨h1,h2,us,h3,h4⟩:=g.gl q c hq
  exact ⟨Nat.lt_of_lt_of_le h1 hs,h2,us,QF S.z c us h3,fun i u hi=>by
   rw[←h4 i u hi]
   exact World.cell?_of_block (by rw[Q3k]; exact hb q h1)⟩
theorem Good.block{b:Nat}{c:Blk}(g:Good E X h m w)(hb:Qy h b=some c){q:Nat}(hm:m b=some q):
  ∃ (us:List Value) (arr:Array Value) (T:TypeId),Qw (cx X h m w) c us∧QH w q arr T∧us.length≤arr.size∧(∀ (i:Nat) u,us[i]?=some u→arr[i]?=some u)∧QR w ⟨q,0,none⟩ us:=by
 obtain ⟨us,h1,h2⟩:=g.hp b c hb
 rcases h2 with ⟨_,h2⟩|⟨q',arr,T,h2,h3,h4,h5⟩
 ·rw[h2]at hm; cases hm
 ·rw[h2]at hm; cases hm
  refine ⟨us,arr,T,h1,h3,h4,h5,fun i u hi=>?_⟩
  rw[Q7P,Nat.zero_add,h3.cell]
  exact h5 i u hi
end
end Go.Ev
namespace Go.Ev
section
variable {P : Program} {E : Env} {X : Nat → Prop} {h h1 : H} {m : Nat → Option Nat} {w w1 : World} {C : Cx}
theorem QrO(hE:ZY E P){t:TypeId}{i:TI}{c:Blk}{off:Nat}{z:AV}{us:List Value}{a:Addr}(ht:E.T t=some i)(h:Qj7 i c off some=some z)(hr:Qw C c us)(hs:a.spot=none)(hc:QR C.w a us):
  ∃ q,(loadVar t (a.add off)).run P C.w = .ok q C.w∧rel C z q:=by
 have hT:=hE _ _ ht
 unfold Qj7 at h
 cases ha:i.isAgg with
 | true=>
  rw[ha]at h
  simp only[Q8]at h
  have e:=Blk.sub_push c off i.size some (fun d=>some (AV.agg d))
  simp only[Option.bind_some]at e
  rw[←e]at h
  obtain ⟨d,h1,h2⟩:=Z2 h
  cases h2
  obtain ⟨h3,h4,_⟩:=Qmm h1 hr
  have hcs:=Q28 (Q5M hs hc off) i.size
  have hl:((us.drop off).take i.size).length=i.size:=by simp; omega
  have hL:=run_loadCells_list (P:=P) C.w (a.add off) _ (fun j v hj=>hcs j v hj)
  rw[hl]at hL
  exact ⟨_,by simp[loadVar,hT.run_isAgg,ha,hT.run_sizeOf,hL],_,rfl,h4⟩
 | false=>
  rw[ha]at h
  simp only[Q5]at h
  obtain ⟨u,h1,h2⟩:=QzD h hr
  exact ⟨u,by simp[loadVar,hT.run_isAgg,ha,hc off u h1],h2⟩
theorem QzK(hE:ZY E P)(g:Good E X h m w){t:TypeId}{x z:AV}{u:Value}(hl:Qmg E h t x some=some z)(hx:rel (cx X h m w) x u):
  ∃ q,(Instr.loadAt t u).run P w = .ok q w∧rel (cx X h m w) z q:=by
 unfold Qmg at hl
 split at hl
 ·rename_i i ht
  split at hl
  ·rename_i b off
   obtain ⟨q,hq,rfl⟩:=hx
   split at hl
   ·rename_i c hb
    obtain ⟨us,arr,T,h1,_,_,_,h5⟩:=g.block hb hq
    obtain ⟨v,h6,h7⟩:=QrO (C:=cx X h m w) (a:=⟨q,0,none⟩) hE ht hl h1 rfl h5
    rw[Q7P,Nat.zero_add]at h6
    have h6:(loadVar t ⟨q,off,none⟩).run P w = .ok v w:=h6
    exact ⟨v,by simpa[Instr.loadAt,Instr.sureAddr]using h6,h7⟩
   ·cases hl
  ·rename_i c _
   obtain ⟨p,us,rfl,hs,hr,_,hc⟩:=hx
   obtain ⟨v,h6,h7⟩:=QrO (C:=cx X h m w) hE ht hl (QxI hr) hs hc
   have e:p.add 0=p:=by simp[Addr.add]
   rw[e]at h6
   have h6:(loadVar t p).run P w = .ok v w:=h6
   exact ⟨v,by simpa[Instr.loadAt,Instr.sureAddr]using h6,h7⟩
  ·cases hl
 ·cases hl
theorem Qha{c d c':Blk}{us vs:List Value}{off:Nat}(h:c.put off d some=some c')(hr:Qw C c us)(hd:Qw C d vs):
  off+vs.length≤us.length∧Qw C c' (us.take off++(vs++us.drop (off+vs.length)))∧∀ v∈vs,v.oneCell'=true:=by
 unfold Blk.put at h
 split at h
 ·rename_i k xs k' ys
  obtain ⟨h0,h⟩:=Q7.1 h
  obtain ⟨h1,h⟩:=Q7.1 h
  have h0:=of_decide_eq_true h0
  have h1:=of_decide_eq_true h1
  cases h; subst h0
  have hr:us=_:=hr
  have hd:vs=_:=hd
  subst hr hd
  refine ⟨by simpa using h1,by simp[Qw,List.map_take,List.map_drop],?_⟩
  intro v hv
  obtain ⟨y,_,rfl⟩:=List.mem_map.1 hv
  rfl
 ·rename_i xs ys
  obtain ⟨h1,h⟩:=Q7.1 h
  have h1:=of_decide_eq_true h1
  cases h
  have hr:us=_:=hr
  have hd:vs=_:=hd
  subst hr hd
  refine ⟨by simpa using h1,by simp[Qw,List.map_take,List.map_drop],?_⟩
  intro v hv
  obtain ⟨y,_,rfl⟩:=List.mem_map.1 hv
  rfl
 ·rename_i cs ds
  obtain ⟨h0,h⟩:=Q7.1 h
  obtain ⟨h1,h⟩:=Q7.1 h
  have h1:=of_decide_eq_true h1
  cases h
  have hl1:=QG hr
  have hl2:=QG hd
  refine ⟨by rw[hl1,hl2]; exact h1,?_,?_⟩
  ·rw[hl2]; exact ZX (Q84 _ hr) (ZX hd (Q85 _ hr))
  ·intro v hv
   obtain ⟨i,hi,rfl⟩:=List.mem_iff_getElem.1 hv
   obtain ⟨u,h2,h3⟩:=QbG i (ds[i]'(by omega)) hd (by rw[List.getElem?_eq_getElem])
   rw[List.getElem?_eq_getElem hi]at h2
   cases h2
   exact Qmk h3 (by simpa using List.all_eq_true.1 h0 _ (List.getElem_mem (by omega)))
 ·rename_i cs k ys
  obtain ⟨h1,h⟩:=Q7.1 h
  have h1:=of_decide_eq_true h1
  cases h
  have hl1:=QG hr
  have hd:vs=_:=hd
  subst hd
  refine ⟨by rw[hl1]; simpa using h1,?_,?_⟩
  ·rw[List.length_map]; exact ZX (Q84 _ hr) (ZX (Qr1 k ys) (Q85 _ hr))
  ·intro v hv
   obtain ⟨y,_,rfl⟩:=List.mem_map.1 hv
   rfl
 ·cases h
theorem Qjd{α:Type}(us:List α)(i:Nat)(u:α)(h:i<us.length):us.set i u=us.take i++([u]++us.drop (i+1)):=by
 rw[List.set_eq_take_append_cons_drop,if_pos h]; rfl
theorem QtR{c c':Blk}{us:List Value}{off:Nat}{v:AV}{u:Value}(h:c.set off v some=some c')(hr:Qw C c us)(hv:rel C v u):
  off<us.length∧Qw C c' (us.take off++([u]++us.drop (off+1)))∧u.oneCell'=true∧v.isCell=true:=by
 unfold Blk.set at h
 split at h
 ·rename_i k xs k' n
  obtain ⟨h0,h⟩:=Q7.1 h
  obtain ⟨h1,h⟩:=Q7.1 h
  have h0:=of_decide_eq_true h0
  have h1:=of_decide_eq_true h1
  cases h; subst h0
  have hr:us=_:=hr
  subst hr
  cases hv
  refine ⟨by simpa using h1,?_,rfl,rfl⟩
  rw[←Qjd _ _ _ (by simpa using h1)]
  simp[Qw,List.map_set]
 ·rename_i xs b
  obtain ⟨h1,h⟩:=Q7.1 h
  have h1:=of_decide_eq_true h1
  cases h
  have hr:us=_:=hr
  subst hr
  cases hv
  refine ⟨by simpa using h1,?_,rfl,rfl⟩
  rw[←Qjd _ _ _ (by simpa using h1)]
  simp[Qw,List.map_set]
 ·rename_i cs
  obtain ⟨h0,h⟩:=Q7.1 h
  obtain ⟨h1,h⟩:=Q7.1 h
  have h1:=of_decide_eq_true h1
  cases h
  have hl:=QG hr
  refine ⟨by omega,?_,Qmk hv h0,h0⟩
  rw[←Qjd _ _ _ (by omega)]
  exact QtH off v u hr hv
 ·cases h
theorem QxK{us vs:List Value}{arr:Array Value}{off:Nat}(h1:us.length≤arr.size)(h2:∀ (i:Nat) u,us[i]?=some u→arr[i]?=some u)(h3:off+vs.length≤us.length):
  let arr':=(arr.toList.take off++vs++arr.toList.drop (off+vs.length)).toArray
  arr'.size=arr.size∧(us.take off++(vs++us.drop (off+vs.length))).length≤arr'.size∧∀ (i:Nat) u,(us.take off++(vs++us.drop (off+vs.length)))[i]?=some u→arr'[i]?=some u:=by
 intro arr'
 have hL:arr.toList.length=arr.size:=Array.length_toList
 have h2':∀ (i:Nat) u,us[i]?=some u→arr.toList[i]?=some u:=fun i u hi=>by simpa using h2 i u hi
 have hs:arr'.size=arr.size:=by simp only[arr',List.size_toArray,List.length_append,List.length_take,List.length_drop]; omega
 refine ⟨hs,by rw[hs]; simp only[List.length_append,List.length_take,List.length_drop]; omega,?_⟩
 intro i u hi
 simp only[arr',List.getElem?_toArray]
 generalize arr.toList=l at hL h2'
 rw[List.append_assoc]
 rw[List.getElem?_append]at hi ⊢
 rw[List.length_take,show min off l.length=off from by omega]
 rw[List.length_take,show min off us.length=off from by omega]at hi
 split at hi
 ·rename_i hlt
  rw[if_pos hlt]
  rw[List.getElem?_take]at hi ⊢
  rw[if_pos hlt]at hi ⊢
  exact h2' i u hi
 ·rename_i hlt
  rw[if_neg hlt]
  rw[List.getElem?_append]at hi ⊢
  split at hi
  ·rename_i h4; rw[if_pos h4]; exact hi
  ·rename_i h4
   rw[if_neg h4]
   rw[List.getElem?_drop]at hi ⊢
   exact h2' _ u hi
theorem Q8Z(g o:Nat)(t:TypeId)(fr:Nat×Nat):∀ (vs:List Value) (i:Nat) (cur:Array Value) (w:World),w.heap[g]?=some (.cells cur t fr)→QMU cur.size fr→o+i+vs.length≤cur.size→(∀ v∈vs,v.oneCell'=true) →
  (storeCells ⟨g,o,none⟩ vs i).run P w = .ok () (w.setRow g (cur.toList.take (o+i)++vs++cur.toList.drop (o+i+vs.length)).toArray)
 | [],i,cur,w,hg,_,_,_=>by
  simp only[storeCells,List.append_nil,List.length_nil,Nat.add_zero,List.take_append_drop,Array.toArray_toList]
  rw[setRow_self w g cur t fr hg]
  rfl
 | v::rest,i,cur,w,hg,hf,hl,h1=>by
  have hi:o+i<cur.size:=by simp at hl; omega
  have hcell:w.cell? ⟨g,o+i,none⟩=some cur[o+i]:=by simp[World.cell?,hg,hi]
  have hfro:w.frozen? ⟨g,o+i,none⟩=false:=QH.fr ⟨fr,hg,hf⟩ hi
  have hst:(store ((⟨g,o,none⟩:Addr).add i) v).run P w = .ok () (w.setRow g (cur.setIfInBounds (o+i) v)):=by
   rw[Q7P,run_store P w _ v _ (h1 v (by simp)),hcell]
   simp[hfro,setCell_eq_setRow w g (o+i) cur t fr v hg]
  have ih:=Q8Z g o t fr rest (i+1) (cur.setIfInBounds (o+i) v) (w.setRow g (cur.setIfInBounds (o+i) v)) (setRow_heap w g cur _ t _ hg) (by simpa using hf) (by simp at hl ⊢; omega) (fun x hx=>h1 x (by simp[hx]))
  simp only[storeCells,Sem.run_bind,hst,Result.andThen_ok,ih,setRow_setRow]
  congr 3
  have e:=list_seg_step cur.toList (o+i) v rest (by simp at hl ⊢; omega)
  simpa[Array.toList_setIfInBounds,Nat.add_assoc]using e
theorem QH.setRow{w:World}{g:Nat}{arr cs:Array Value}{T:TypeId}(h:QH w g arr T)(hs:cs.size=arr.size):QH (w.setRow g cs) g cs T:=by
 obtain ⟨fr,h,h2⟩:=h
 exact ⟨fr,setRow_heap w g arr cs T fr h,by rw[hs]; exact h2⟩
theorem Qmp{b q off:Nat}{c c':Blk}{vs:List Value}(g:Good E X h m w)(hb:h[b]?=some (.live c))(hm:m b=some q)
  (hp:∀ us,Qw (cx X h m w) c us→off+vs.length≤us.length∧Qw (cx X h m w) c' (us.take off++(vs++us.drop (off+vs.length)))) (h1:∀ v∈vs,v.oneCell'=true) :
  ∃ w1,(storeCells ⟨q,off,none⟩ vs).run P w = .ok () w1∧Adv E X h m w (h.set b (.live c')) m w1:=by
 obtain ⟨us,arr,T,h5,h6,h7,h8,_⟩:=g.block (QK hb) hm
 obtain ⟨h9,h10⟩:=hp us h5
 obtain ⟨h11,h12,h13⟩:=QxK h7 h8 h9
 obtain ⟨fr,h6a,h6b⟩:=id h6
 have hst:=Q8Z (P:=P) q off T fr vs 0 arr w h6a h6b (by omega) h1
 simp only[Nat.add_zero]at hst
 exact ⟨_,hst,QxJ g hb hm h6 h10 ⟨h12,h13⟩ h11 (h6.setRow h11) (fun k hk=>setRow_other w q k _ hk) (setRow_size w q _) rfl rfl rfl⟩
theorem QFm(hE:ZY E P)(g:Good E X h m w){t:TypeId}{a v:AV}{ua uv:Value}{h1:H}(hl:Qj8 E h t a v some=some h1)(ha:rel (cx X h m w) a ua)(hv:rel (cx X h m w) v uv):
  ∃ w1,(Instr.storeAt t ua uv).run P w = .ok () w1∧Adv E X h m w h1 m w1:=by
 unfold Qj8 at hl
 split at hl
 ·rename_i i ht
  have hs:=fun w=>(hE _ _ ht).run_sizeOf (w:=w)
  split at hl
  ·rename_i b off
   obtain ⟨q,hq,rfl⟩:=ha
   split at hl
   ·rename_i c hb
    split at hl
    ·rename_i d
     obtain ⟨vs,rfl,hd⟩:=hv
     obtain ⟨h0,hl⟩:=Q7.1 hl
     have h0:=of_decide_eq_true h0
     have e:=Blk.put_push c off d some (fun c'=>some (h.set b (.live c')))
     simp only[Option.bind_some]at e
     rw[←e]at hl
     obtain ⟨c',h2,h3⟩:=Z2 hl
     cases h3
     have hlen:=Q0p hd
     obtain ⟨us0,arr,T,h5,_⟩:=g.block (QK hb) hq
     obtain ⟨w1,h6,h7⟩:=Qmp (P:=P) (off:=off) (vs:=vs) g hb hq (fun us hr=>⟨(Qha h2 hr hd).1,(Qha h2 hr hd).2.1⟩) (Qha h2 h5 hd).2.2
     exact ⟨w1,by simp[Instr.storeAt,Instr.sureAddr,storeVar,hs,Value.cells,hlen,h0,h6],h7⟩
    ·obtain ⟨h0,hl⟩:=Q7.1 hl
     have h0:=of_decide_eq_true h0
     have e:=Blk.set_push c off v some (fun c'=>some (h.set b (.live c')))
     simp only[Option.bind_some]at e
     rw[←e]at hl
     obtain ⟨c',h2,h3⟩:=Z2 hl
     cases h3
     obtain ⟨us0,arr,T,h5,_⟩:=g.block (QK hb) hq
     obtain ⟨h8,_,h9,h10⟩:=QtR h2 h5 hv
     have hcs:=Qw8 hv h10
     obtain ⟨w1,h6,h7⟩:=Qmp (P:=P) (off:=off) (vs:=[uv]) g hb hq (fun us hr=>⟨(QtR h2 hr hv).1,(QtR h2 hr hv).2.1⟩) (by simpa using h9)
     exact ⟨w1,by simp[Instr.storeAt,Instr.sureAddr,storeVar,hs,hcs,h0,h6],h7⟩
   ·cases hl
  ·cases hl
 ·cases hl
end
end Go.Ev
namespace Go.Ev
section
variable {P : Program} {E : Env} {X : Nat → Prop} {h h1 : H} {m : Nat → Option Nat} {w w1 : World} {C : Cx} {slot : Nat}
theorem Qo6{v:AV}(h:isK v=true):(∃ c,v = .agg c)∨v.isCell=true:=by
 cases v<;>simp[isK,AV.isCell]at h ⊢
theorem Qo7{v:AV}{u:Value}(hr:rel C v u)(hv:(∃ c,v = .agg c)∨v.isCell=true):Qw C v.blk u.cells.toList:=by
 rcases hv with ⟨c,rfl⟩|hv
 ·obtain ⟨us,rfl,h1⟩:=hr
  simpa[AV.blk,Value.cells]using h1
 ·have h2:=Qw8 hr hv
  have:v.blk = .any [v]:=by cases v<;>first|rfl|simp[AV.isCell]at hv
  rw[this,h2]
  exact ⟨_,_,rfl,hr,rfl⟩
def QC8(P:Program)(E:Env)(X:Nat→Prop)(h:H)(m:Nat→Option Nat)(w:World)(slot:Nat)(s:Sem Value)(z:AV)(h1:H):Prop:=
 ∃ u m1 w1,s.run P w = .ok u w1∧Adv E X h m w h1 m1 w1∧rel (cx X h1 m1 w1) z u∧∀ b,b≠slot→m1 b=m b
theorem Qje{m:Nat→Option Nat}{g:Option Nat}{b:Nat}(h:b≠slot):upd m slot g b=m b:=by simp[upd,h]
theorem Qmq{m:Nat→Option Nat}{g:Option Nat}: upd m slot g slot=g:=by simp[upd]
theorem QzL{c:Blk}{t:TypeId}{u:Value}(g:Good E X h m w)(f:Free h m slot)(hr:Qw (cx X h m w) c u.cells.toList):
  QC8 P E X h m w slot (do pure (.pointer (some (←newVar t u)))) (.ptr slot 0) (Q27 h slot (.live c)):=by
 refine ⟨.pointer (some ⟨w.heap.size,0,none⟩),_,w.alloc (.cells u.cells t),by simp[newVar,newRow],QDB (arr:=u.cells) (T:=t) g f hr ⟨by simp,fun i u hi=>by simpa using hi⟩ rfl rfl rfl rfl,⟨_,Qmq,rfl⟩,fun b hb=>Qje hb⟩
theorem QHI(hE:ZY E P)(g:Good E X h m w)(f:Free h m slot){e:TypeId}{i:TI}(ht:E.T e=some i):
  QC8 P E X h m w slot (Instr.alloc e true (.tuple #[])) (.ptr slot 0) (Q27 h slot (.live i.zero.blk)):=by
 have hT:=hE _ _ ht
 have hr:=Qo7 (Qh9 (cx X h m w) i.zero hT.zk) (Qo6 hT.zk)
 obtain ⟨u,m1,w1,h1,h2⟩:=QzL (P:=P) (t:=e) g f hr
 exact ⟨u,m1,w1,by simpa[Instr.alloc,hT.run_zero]using h1,h2⟩
theorem QHJ(g:Good E X h m w)(f:Free h m slot){e:TypeId}{v:AV}{u:Value}(hr:rel (cx X h m w) v u)(hv:(∃ c,v = .agg c)∨v.isCell=true):
  QC8 P E X h m w slot (Instr.box e u) (.ptr slot 0) (Q27 h slot (.live v.blk)):=by
 obtain ⟨u,m1,w1,h1,h2⟩:=QzL (P:=P) (t:=e) g f (Qo7 hr hv)
 exact ⟨u,m1,w1,by simpa[Instr.box]using h1,h2⟩
theorem QtS{c:Blk}{e:TypeId}{us:List Value}{arr:Array Value}{len cap sz:Nat}(g:Good E X h m w)(f:Free h m slot)(hr:Qw (cx X h m w) c us)
  (ha:us.length≤arr.size∧∀ (i:Nat) u,us[i]?=some u→arr[i]?=some u) (hl:len≤cap) (hm:cap≤maxLen) (hs:cap*sz≤arr.size) (hw:w1.heap=w.heap.push (.cells arr e (0,0))) (hos:w1.os=w.os) (ht:w1.tape=w.tape) (ho:w1.output=w.output) :
  Adv E X h m w (Q27 h slot (.live c)) (upd m slot (some w.heap.size)) w1∧rel (cx X (Q27 h slot (.live c)) (upd m slot (some w.heap.size)) w1) (.sl slot 0 len sz) (.slice (some ⟨w.heap.size,0,none⟩) len cap):=by
 refine ⟨QDB g f hr ha hw hos ht ho,_,cap,rfl,hl,hm,.inr ⟨_,Qmq,rfl,arr,e,?_,by omega⟩⟩
 exact QH.of (w:=w1) (by rw[hw]; simp)
theorem QtT{α:Type}(zs:List α):∀ (l i:Nat),i<l*zs.length→(List.replicate l zs).flatten[i]?=zs[i%zs.length]?
 | 0,i,h=>by simp at h
 | l+1,i,h=>by
  rw[List.replicate_succ,List.flatten_cons,List.getElem?_append]
  split
  ·rename_i hlt; rw[Nat.mod_eq_of_lt hlt]
  ·rename_i hge
   have hz:0<zs.length:=by
    rcases Nat.eq_zero_or_pos zs.length with h0|h0
    ·rw[h0]at h; simp at h
    ·exact h0
   have h2:i-zs.length<l*zs.length:=by rw[Nat.succ_mul]at h; omega
   have h3:i%zs.length=(i-zs.length)%zs.length:=Nat.mod_eq_sub_mod (by omega)
   rw[QtT zs l (i-zs.length) h2,h3]
theorem Qv5(z:Array Value)(n l i:Nat)(u:Value)(hl:l*z.size≤n)(h:(List.replicate l z.toList).flatten[i]?=some u):(madeCells z n)[i]?=some u:=by
 have hi:i<l*z.size:=by
  have:=(List.getElem?_eq_some_iff.1 h).1
  simpa using this
 have e:=QtT z.toList l i (by simpa using hi)
 rw[e]at h
 simp only[Array.length_toList]at h
 have hz:0<z.size:=by
  rcases Nat.eq_zero_or_pos z.size with h0|h0
  ·rw[h0]at hi; simp at hi
  ·exact h0
 have hm:i%z.size<z.size:=Nat.mod_lt _ hz
 have h':z[i%z.size]?=some u:=by simpa using h
 rw[Array.getElem?_eq_getElem hm]at h'
 cases h'
 have hin:i<n:=by omega
 simp[madeCells,hin,hm]
theorem Qwg{zs:List AV}{us:List Value}(h:QE C zs us):∀ l,QE C (List.replicate l zs).flatten (List.replicate l us).flatten
 | 0=>rfl
 | l+1=>by rw[List.replicate_succ,List.replicate_succ,List.flatten_cons,List.flatten_cons]; exact ZX h (Qwg h l)
theorem Qwh(hE:ZY E P){e:TypeId}{i:TI}(he:E.T e=some i)(l:Nat):Qw C (Qzw i l) (List.replicate l (Jt i.zero).cells.toList).flatten:=by
 have hT:=hE _ _ he
 have hr:=Qh9 C i.zero hT.zk
 unfold Qzw
 split
 ·rename_i k hk
  rw[hT.zz.1 k hk]
  simp[Qw,Jt,Value.cells,List.flatten_replicate_singleton]
 ·rename_i hk
  rw[hT.zz.2 hk]
  simp[Qw,Jt,Value.cells,List.flatten_replicate_singleton]
 ·have h1:=QdQ (Qo7 hr (Qo6 hT.zk))
  exact Qwg h1 l
theorem Qr5(hE:ZY E P){e:TypeId}{i:TI}(he:E.T e=some i):(Jt i.zero).cells.size=i.size:=by
 have hT:=hE _ _ he
 have h1:=Q0p (Qo7 (Qh9 ⟨fun _=>none,fun _=>False,default⟩ i.zero hT.zk) (Qo6 hT.zk))
 rw[hT.zs]at h1
 simpa using h1
theorem QFn(hE:ZY E P)(g:Good E X h m w)(f:Free h m slot){t:TypeId}{l c z:AV}{ul uc:Value}{h1:H}(hm:Qj9 E h slot t l c (fun v h=>some (v,h))=some (z,h1))(hl:rel (cx X h m w) l ul)(hc:rel (cx X h m w) c uc):
  QC8 P E X h m w slot (Instr.makeSlice t ul uc) z h1:=by
 unfold Qj9 at hm
 split at hm
 ·rename_i e _ _ _ kl l kc c ht
  have hu:=(hE _ _ ht).und_slice rfl
  cases hl; cases hc
  split at hm
  ·rename_i ie he
   obtain ⟨h2,hm⟩:=Q7.1 hm
   obtain ⟨h3,hm⟩:=Q7.1 hm
   obtain ⟨h4,hm⟩:=Q7.1 hm
   obtain ⟨h5,hm⟩:=Q7.1 hm
   have h2:=of_decide_eq_true h2
   have h3:=of_decide_eq_true h3
   have h4:=of_decide_eq_true h4
   have h5:=of_decide_eq_true h5
   cases hm
   obtain ⟨q,hq,hz,hqs,hqb⟩:=(hE _ _ he).inf
   have hrun:=run_make (P:=P) w t e q (Jt ie.zero) hu hq hz kl kc l c h2 h3 (by rw[hqb]; exact h5) (by omega)
   have hzs:=Qr5 hE he
   have hle:l.toNat*ie.size≤c.toNat*ie.size:=Nat.mul_le_mul_right _ (by omega)
   obtain ⟨h6,h7⟩:=QtS (c:=Qzw ie l.toNat) (e:=e) (us:=(List.replicate l.toNat (Jt ie.zero).cells.toList).flatten) (arr:=madeCells (Jt ie.zero).cells (c.toNat*q.size)) (len:=l.toNat) (cap:=c.toNat) (sz:=ie.size)
    (w1:=w.alloc (.cells (madeCells (Jt ie.zero).cells (c.toNat*q.size)) e)) g f (Qwh hE he l.toNat)
    ⟨by simp[size_madeCells,hqs,hzs,hle],fun i u hi=>Qv5 _ _ l.toNat i u (by rw[hzs,hqs]; exact hle) hi⟩ (by omega) (by unfold maxLen; omega) (by rw[size_madeCells,hqs]; exact Nat.le_refl _) rfl rfl rfl rfl
   exact ⟨_,_,_,hrun,h6,h7,fun b hb=>Qje hb⟩
  ·cases hm
 ·cases hm
end
end Go.Ev
