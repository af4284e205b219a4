/- The evaluator: abstract values, a small abstract heap, and what each operation, each piece of code and each call does to them, in continuation style. Nothing here speaks of the model's worlds. -/
import Derived.Calls
import Derived.Laws.Entries
import Derived.Laws.Sem
namespace Go.Ev
noncomputable section
universe v
theorem shut_ex {α : Sort v} (a : α) : ∃ b, b = a := ⟨a, rfl⟩
/-- a thing that the kernel does not look into -/
def shut {α : Sort v} (a : α) : α := Classical.choose (shut_ex a)
theorem shut_eq {α : Sort v} (a : α) : shut a = a := Classical.choose_spec (shut_ex a)

/-! ### whole numbers: what an operator makes of them (the kernel does not look into these) -/
def addW (k : IntKind) (a b : Int) : Int := shut (k.wrap (a + b))
def subW (k : IntKind) (a b : Int) : Int := shut (k.wrap (a - b))
def mulW (k : IntKind) (a b : Int) : Int := shut (k.wrap (a * b))
def quoW (k : IntKind) (a b : Int) : Int := shut (k.wrap (a.tdiv b))
def remW (a b : Int) : Int := shut (a.tmod b)
def shlW (k : IntKind) (a b : Int) : Int := shut (k.wrap (a * 2 ^ min b.toNat k.bits))
def shrW (k : IntKind) (a b : Int) : Int := shut (a.fdiv (2 ^ min b.toNat k.bits))
def andW (k : IntKind) (a b : Int) : Int := shut (bits .and k a b)
def orW (k : IntKind) (a b : Int) : Int := shut (bits .or k a b)
def xorW (k : IntKind) (a b : Int) : Int := shut (bits .xor k a b)
def andNotW (k : IntKind) (a b : Int) : Int := shut (bits .andNot k a b)
def negW (k : IntKind) (n : Int) : Int := shut (k.wrap (0 - n))
def notW (k : IntKind) (n : Int) : Int := shut (bits .xor k (if k.signed then -1 else k.max) n)
def cvtW (k : IntKind) (n : Int) : Int := shut (k.wrap n)
theorem addW_eq (k : IntKind) (a b : Int) : addW k a b = k.wrap (a + b) := shut_eq _
theorem subW_eq (k : IntKind) (a b : Int) : subW k a b = k.wrap (a - b) := shut_eq _
theorem mulW_eq (k : IntKind) (a b : Int) : mulW k a b = k.wrap (a * b) := shut_eq _
theorem quoW_eq (k : IntKind) (a b : Int) : quoW k a b = k.wrap (a.tdiv b) := shut_eq _
theorem remW_eq (a b : Int) : remW a b = a.tmod b := shut_eq _
theorem shlW_eq (k : IntKind) (a b : Int) : shlW k a b = k.wrap (a * 2 ^ min b.toNat k.bits) := shut_eq _
theorem shrW_eq (k : IntKind) (a b : Int) : shrW k a b = a.fdiv (2 ^ min b.toNat k.bits) := shut_eq _
theorem andW_eq (k : IntKind) (a b : Int) : andW k a b = bits .and k a b := shut_eq _
theorem orW_eq (k : IntKind) (a b : Int) : orW k a b = bits .or k a b := shut_eq _
theorem xorW_eq (k : IntKind) (a b : Int) : xorW k a b = bits .xor k a b := shut_eq _
theorem andNotW_eq (k : IntKind) (a b : Int) : andNotW k a b = bits .andNot k a b := shut_eq _
theorem negW_eq (k : IntKind) (n : Int) : negW k n = k.wrap (0 - n) := shut_eq _
theorem notW_eq (k : IntKind) (n : Int) : notW k n = bits .xor k (if k.signed then -1 else k.max) n := shut_eq _
theorem cvtW_eq (k : IntKind) (n : Int) : cvtW k n = k.wrap n := shut_eq _

/-- A choice that stays closed while its test is open. -/
def sel {α : Type} (b : Bool) (x y : Option α) : Option α := match b with | true => x | false => y

mutual
/-- Abstract values. 'ptr', 'sl': into the abstract heap (block, cell). 'fptr', 'fsl': into memory that no one writes any more, told by its contents. 'esl': a slice of length and capacity 0. -/
inductive AV where
  | undef
  | int (k : IntKind) (n : Int)
  | bool (b : Bool)
  | str (s : ByteArray)
  | nilptr
  | ptr (b off : Nat)
  | fptr (c : Blk)
  | esl
  | sl (b off len sz : Nat)
  | fsl (c : Blk)
  | agg (c : Blk)
  | tup (vs : List AV)
  | fn (f : FuncId) (caps : List AV)
  | nilfn
  | nilif
  | iface (t : TypeId) (v : AV)
/-- Rows of cells. -/
inductive Blk where
  | ints (k : IntKind) (xs : List Int)
  | bools (xs : List Bool)
  | any (cs : List AV)
  | rows (sz : Nat) (rs : List (List AV))
end

instance : Inhabited AV := ⟨.undef⟩
instance : Inhabited Blk := ⟨.any []⟩

/-- A block of the abstract heap: gone, open to writes, or shut. -/
inductive HB where
  | dead
  | live (c : Blk)
  | ice (c : Blk)
instance : Inhabited HB := ⟨.dead⟩
abbrev H := List HB

structure St where
  t : List AV
  h : H

inductive Ex where
  | normal
  | exit (id : Nat)
  | goto (l : Nat)
  | ret

/-! ### types -/
inductive TK where
  | int (k : IntKind) | bool | str
  | ptr (e : TypeId) | slice (e : TypeId) | array (n : Nat) (e : TypeId)
  | struct (fs : List (TypeId × Nat)) | func | iface | other
structure TI where
  kind : TK
  size : Nat
  bytes : Nat
  zero : AV

def TI.isAgg (i : TI) : Bool := match i.kind with | .struct _ => true | .array _ _ => true | _ => false

/-- What the evaluator is told of the program: its types, its functions, the variables that no one writes, the functions that are told by what they answer, and what to forget where a region begins. -/
structure Env where
  T : TypeId → Option TI
  F : FuncId → Option Func
  G : Nat → Option Blk
  keep : FuncId → Nat → Option (List Tmp)
  rounds : Nat
  vs : FuncId → Bool

/-- A function told by what it answers. -/
abbrev Spec := List AV → (R : Type) → (AV → Option R) → Option R

/-! ### blocks -/
def nadd (a b : Nat) : Nat := match a with | 0 => b | a + 1 => (a + 1) + b
def nmul (a sz : Nat) : Nat := match sz with | 1 => a | _ => a * sz

def Blk.cells : Blk → List AV
  | .ints k xs => xs.map (.int k)
  | .bools xs => xs.map .bool
  | .any cs => cs
  | .rows _ rs => rs.flatten
/-- how many cells -/
def Blk.clen : Blk → Nat
  | .ints _ xs => xs.length
  | .bools xs => xs.length
  | .any cs => cs.length
  | .rows sz rs => nmul rs.length sz
/-- how many elements, as a slice -/
def Blk.num : Blk → Nat
  | .ints _ xs => xs.length
  | .bools xs => xs.length
  | .any cs => cs.length
  | .rows _ rs => rs.length
/-- cells an element has -/
def Blk.esz : Blk → Nat
  | .rows sz _ => sz
  | _ => 1

/-- May this stand in one cell? -/
def AV.isCell : AV → Bool
  | .undef | .agg _ | .tup _ => false
  | _ => true

/-- can all of it stand in cells? -/
def Blk.cellsOk : Blk → Bool
  | .ints _ _ | .bools _ => true
  | .any cs => cs.all AV.isCell
  | .rows _ rs => rs.flatten.all AV.isCell

section
variable {R : Type}
def Blk.get (c : Blk) (i : Nat) (K : AV → Option R) : Option R := match c with
  | .ints k xs => sel (decide (i < xs.length)) (K (.int k (xs.getD i 0))) none
  | .bools xs => sel (decide (i < xs.length)) (K (.bool (xs.getD i false))) none
  | .any cs => match cs[i]? with | some v => K v | none => none
  | .rows _ _ => none
def Blk.set (c : Blk) (i : Nat) (v : AV) (K : Blk → Option R) : Option R := match c, v with
  | .ints k xs, .int k' n => sel (decide (k = k')) (sel (decide (i < xs.length)) (K (.ints k (xs.set i n))) none) none
  | .bools xs, .bool b => sel (decide (i < xs.length)) (K (.bools (xs.set i b))) none
  | .any cs, v => sel (v.isCell) (sel (decide (i < cs.length)) (K (.any (cs.set i v))) none) none
  | _, _ => none
/-- cells from a place on -/
def Blk.sub (c : Blk) (off n : Nat) (K : Blk → Option R) : Option R := match c with
  | .ints k xs => sel (decide (off + n ≤ xs.length)) (K (.ints k ((xs.drop off).take n))) none
  | .bools xs => sel (decide (off + n ≤ xs.length)) (K (.bools ((xs.drop off).take n))) none
  | .any cs => sel (decide (off + n ≤ cs.length)) (K (.any ((cs.drop off).take n))) none
  | .rows _ _ => none
/-- cells written from a place on -/
def Blk.put (c : Blk) (off : Nat) (d : Blk) (K : Blk → Option R) : Option R := match c, d with
  | .ints k xs, .ints k' ys => sel (decide (k = k')) (sel (decide (off + ys.length ≤ xs.length)) (K (.ints k (xs.take off ++ (ys ++ xs.drop (off + ys.length))))) none) none
  | .bools xs, .bools ys => sel (decide (off + ys.length ≤ xs.length)) (K (.bools (xs.take off ++ (ys ++ xs.drop (off + ys.length))))) none
  | .any cs, .any ds => sel (ds.all AV.isCell) (sel (decide (off + ds.length ≤ cs.length)) (K (.any (cs.take off ++ (ds ++ cs.drop (off + ds.length))))) none) none
  | .any cs, .ints k ys => sel (decide (off + ys.length ≤ cs.length)) (K (.any (cs.take off ++ (ys.map (.int k) ++ cs.drop (off + ys.length))))) none
  | _, _ => none
/-- two rows of one kind, one behind the other; the first may be of no kind yet -/
def Blk.app (c d : Blk) (K : Blk → Option R) : Option R := match c, d with
  | .any [], d => K d
  | .ints k xs, .ints k' ys => sel (decide (k = k')) (K (.ints k (xs ++ ys))) none
  | .bools xs, .bools ys => K (.bools (xs ++ ys))
  | .any cs, .any ds => K (.any (cs ++ ds))
  | .ints k xs, .any [] => K (.ints k xs)
  | .bools xs, .any [] => K (.bools xs)
  | _, _ => none
end

/-- the row of cells that a value is, in memory -/
def AV.blk : AV → Blk
  | .agg c => c
  | v => .any [v]

def intsOf (k : IntKind) : List AV → Option (List Int)
  | [] => some []
  | .int k' n :: r => if k = k' then (match intsOf k r with | some l => some (n :: l) | none => none) else none
  | _ => none
def boolsOf : List AV → Option (List Bool)
  | [] => some []
  | .bool b :: r => (match boolsOf r with | some l => some (b :: l) | none => none)
  | _ => none
/-- cells of a slice's elements, by the element's kind -/
def mkRow (i : TI) (cs : List AV) : Option Blk := match i.kind with
  | .int k => (match intsOf k cs with | some l => some (.ints k l) | none => none)
  | .bool => (match boolsOf cs with | some l => some (.bools l) | none => none)
  | _ => if cs.all AV.isCell then some (.any cs) else none

/-! ### values -/
def ofVal : Nat → Value → AV
  | _, .int k n => .int k n
  | _, .bool b => .bool b
  | _, .string s => .str s
  | _, .pointer none => .nilptr
  | _, .slice none 0 0 => .esl
  | _, .nilFunc => .nilfn
  | _, .nilIface => .nilif
  | d + 1, .agg cs => .agg (.any (cs.toList.map (ofVal d)))
  | d + 1, .tuple vs => .tup (vs.toList.map (ofVal d))
  | _, _ => .undef

def val (E : Env) (t : List AV) : Operand → AV
  | .tmp i => t.getD i .undef
  | .const v => ofVal 3 v
  | .global g => match E.G g with | some c => .fptr c | none => .undef
  | .func f => .fn f []

section
variable {R : Type}
def cmpI (op : BinOp) (a b : Int) : Option Bool := match op with
  | .eql => some (decide (a = b)) | .neq => some (!decide (a = b))
  | .lss => some (decide (a < b)) | .leq => some (decide (a ≤ b))
  | .gtr => some (decide (b < a)) | .geq => some (decide (b ≤ a))
  | _ => none

/-- numbers and bools: what an operator makes of two of them -/
def binA (E : Env) (op : BinOp) (xt : TypeId) (x y : AV) (K : AV → Option R) : Option R := match x, y with
  | .int k a, .int k' b => match op with
    | .shl => sel (decide (0 ≤ b)) (K (.int k (shlW k a b))) none
    | .shr => sel (decide (0 ≤ b)) (K (.int k (shrW k a b))) none
    | op => sel (decide (k = k')) (match op with
      | .add => K (.int k (addW k a b)) | .sub => K (.int k (subW k a b)) | .mul => K (.int k (mulW k a b))
      | .quo => sel (decide (b = 0)) none (K (.int k (quoW k a b))) | .rem => sel (decide (b = 0)) none (K (.int k (remW a b)))
      | .and => K (.int k (andW k a b)) | .or => K (.int k (orW k a b)) | .xor => K (.int k (xorW k a b)) | .andNot => K (.int k (andNotW k a b))
      | op => match cmpI op a b with | some c => K (.bool c) | none => none) none
  | .bool a, .bool b => match E.T xt with
    | some { kind := .bool, .. } => (match op with
      | .eql => K (.bool (a == b)) | .neq => K (.bool (!(a == b)))
      | _ => none)
    | _ => none
  | _, _ => none

def unA (op : UnOp) (x : AV) (K : AV → Option R) : Option R := match op, x with
  | .neg, .int k n => K (.int k (negW k n))
  | .xor, .int k n => K (.int k (notW k n))
  | .not, .bool b => K (.bool (!b))
  | _, _ => none

/-- a part of a struct or an array by value -/
def partA (E : Env) (t : TypeId) (c : Blk) (off : Nat) (K : AV → Option R) : Option R := match E.T t with
  | some i => sel i.isAgg (c.sub off i.size fun d => K (.agg d)) (c.get off K)
  | none => none
/-- the element's cells, of a row told by its contents -/
def rowAt (c : Blk) (i : Nat) : Blk := match c with
  | .ints k xs => .any [.int k (xs.getD i 0)]
  | .bools xs => .any [.bool (xs.getD i false)]
  | .any cs => .any [cs.getD i .undef]
  | .rows _ rs => .any (rs.getD i [])

def idxAddrA (E : Env) (t : TypeId) (x : AV) (i : Int) (K : AV → Option R) : Option R := match E.T t with
  | some { kind := .slice e, .. } => match E.T e with
    | some ie => match x with
      | .sl b off len sz => sel (decide (ie.size = sz)) (sel (decide (0 ≤ i)) (sel (decide (i < (len : Int))) (K (.ptr b (nadd off (nmul i.toNat sz)))) none) none) none
      | .fsl c => sel (decide (ie.size = c.esz)) (sel (decide (0 ≤ i)) (sel (decide (i < (c.num : Int))) (K (.fptr (rowAt c i.toNat))) none) none) none
      | _ => none
    | none => none
  | some { kind := .array n e, .. } => match E.T e with
    | some ie => match x with
      | .ptr b off => sel (decide (0 ≤ i)) (sel (decide (i < (n : Int))) (K (.ptr b (nadd off (nmul i.toNat ie.size)))) none) none
      | .fptr c => sel (decide (ie.size = c.esz)) (sel (decide (n = c.num)) (sel (decide (0 ≤ i)) (sel (decide (i < (n : Int))) (K (.fptr (rowAt c i.toNat))) none) none) none) none
      | _ => none
    | none => none
  | _ => none

def idxA (E : Env) (t : TypeId) (x : AV) (i : Int) (K : AV → Option R) : Option R := match x with
  | .str s => match E.T t with
    | some { kind := .str, .. } => sel (decide (0 ≤ i)) (sel (decide (i < (s.size : Int))) (K (.int .u8 ((s.data.toList.getD i.toNat 0).toNat : Int))) none) none
    | _ => none
  | .agg c => match E.T t with
    | some { kind := .array n e, .. } => match E.T e with
      | some ie => sel (decide (0 ≤ i)) (sel (decide (i < (n : Int))) (partA E e c (nmul i.toNat ie.size) K) none) none
      | none => none
    | _ => none
  | _ => none

def fldAddrA (E : Env) (s : TypeId) (x : AV) (f : Nat) (K : AV → Option R) : Option R := match E.T s with
  | some { kind := .struct fs, .. } => match fs[f]? with
    | some (ft, o) => match E.T ft with
      | some i => sel (decide (0 < i.size)) (match x with
        | .ptr b off => K (.ptr b (nadd off o))
        | .fptr c => c.sub o i.size fun d => K (.fptr d)
        | _ => none) none
      | none => none
    | none => none
  | _ => none
def fldA (E : Env) (s : TypeId) (x : AV) (f : Nat) (K : AV → Option R) : Option R := match E.T s with
  | some { kind := .struct fs, .. } => match fs[f]? with
    | some (ft, o) => match x with | .agg c => partA E ft c o K | _ => none
    | none => none
  | _ => none

def oInt (x : Option AV) (d : Int) : Option Int := match x with | none => some d | some (.int _ n) => some n | _ => none

/-- x[lo:hi] of a row of cells told by its contents -/
def Blk.cut (c : Blk) (lo hi : Nat) : Blk := match c with
  | .ints k xs => .ints k ((xs.take hi).drop lo)
  | .bools xs => .bools ((xs.take hi).drop lo)
  | .any cs => .any ((cs.take hi).drop lo)
  | .rows sz rs => .rows sz ((rs.take hi).drop lo)

/-- x[lo:hi], x[lo:hi:mx] of slices and strings -/
def sliceA (E : Env) (t : TypeId) (x : AV) (lo hi mx : Option AV) (K : AV → Option R) : Option R := match E.T t with
  | some { kind := .slice e, .. } => match E.T e with
    | some ie => match x with
      | .sl b off len sz => match oInt lo 0, oInt hi len, mx, hi with
        | some l, some h, none, _ => sel (decide (ie.size = sz)) (sel (decide (0 ≤ l)) (sel (decide (l ≤ h)) (sel (decide (h ≤ (len : Int))) (K (.sl b (nadd off (nmul l.toNat sz)) (h.toNat - l.toNat) sz)) none) none) none) none
        | some l, some h, some (.int _ m), some _ => sel (decide (ie.size = sz)) (sel (decide (0 ≤ l)) (sel (decide (l ≤ h)) (sel (decide (h ≤ m)) (sel (decide (m ≤ (len : Int))) (sel (decide (l = m)) (K .esl) (K (.sl b (nadd off (nmul l.toNat sz)) (h.toNat - l.toNat) sz))) none) none) none) none) none
        | _, _, _, _ => none
      | .fsl c => match oInt lo 0, oInt hi c.num, mx, hi with
        | some l, some h, none, _ => sel (decide (ie.size = c.esz)) (sel (decide (0 ≤ l)) (sel (decide (l ≤ h)) (sel (decide (h ≤ (c.num : Int))) (K (.fsl (c.cut l.toNat h.toNat))) none) none) none) none
        | some l, some h, some (.int _ m), some _ => sel (decide (ie.size = c.esz)) (sel (decide (0 ≤ l)) (sel (decide (l ≤ h)) (sel (decide (h ≤ m)) (sel (decide (m ≤ (c.num : Int))) (sel (decide (l = m)) (K .esl) (K (.fsl (c.cut l.toNat h.toNat)))) none) none) none) none) none
        | _, _, _, _ => none
      | .esl => match oInt lo 0, oInt hi 0, mx, hi with
        | some l, some h, none, _ => sel (decide (l = 0)) (sel (decide (h = 0)) (K .esl) none) none
        | some l, some h, some (.int _ m), some _ => sel (decide (l = 0)) (sel (decide (h = 0)) (sel (decide (m = 0)) (K .esl) none) none) none
        | _, _, _, _ => none
      | _ => none
    | none => none
  | some { kind := .str, .. } => match x with
    | .str s => match oInt lo 0, oInt hi s.size, mx with
      | some l, some h, none => sel (decide (0 ≤ l)) (sel (decide (l ≤ h)) (sel (decide (h ≤ (s.size : Int))) (K (.str (s.extract l.toNat h.toNat))) none) none) none
      | _, _, _ => none
    | _ => none
  | _ => none

def cvtA (E : Env) (src dst : TypeId) (x : AV) (K : AV → Option R) : Option R := match E.T src, E.T dst, x with
  | some _, some { kind := .int k, .. }, .int _ n => K (.int k (cvtW k n))
  | _, _, _ => none

def lenA (E : Env) (t : TypeId) (x : AV) (K : AV → Option R) : Option R := match E.T t with
  | some { kind := .slice _, .. } => match x with
    | .sl _ _ len _ => K (.int .i64 (len : Int))
    | .esl => K (.int .i64 0)
    | .fsl c => K (.int .i64 (c.num : Int))
    | _ => none
  | some { kind := .str, .. } => match x with | .str s => K (.int .i64 (s.size : Int)) | _ => none
  | some { kind := .array n _, .. } => K (.int .i64 (n : Int))
  | _ => none

def max2 (x y : Int) : Int := if y > x then y else x
def min2 (x y : Int) : Int := if y < x then y else x
def maxA : List AV → Option AV
  | [.int k a, .int _ b] => some (.int k (max2 a b))
  | [.int k a, .int _ b, .int _ c] => some (.int k (max2 (max2 a b) c))
  | _ => none
def minA : List AV → Option AV
  | [.int k a, .int _ b] => some (.int k (min2 a b))
  | [.int k a, .int _ b, .int _ c] => some (.int k (min2 (min2 a b) c))
  | _ => none

/-! ### memory -/
def hput (h : H) (slot : Nat) (b : HB) : H := if slot < h.length then h.set slot b else h ++ [b]

def blkAt (h : H) (b : Nat) : Option Blk := match h[b]? with
  | some (.live c) => some c
  | some (.ice c) => some c
  | _ => none

/-- what a variable of a type holds, among a block's cells -/
def readVar (i : TI) (c : Blk) (off : Nat) (K : AV → Option R) : Option R :=
  sel i.isAgg (c.sub off i.size fun d => K (.agg d)) (c.get off K)

/-- x[lo:hi] of an array that x points to -/
def sliceArrA (E : Env) (h : H) (t : TypeId) (x : AV) (lo hi mx : Option AV) (K : AV → Option R) : Option R := match E.T t with
  | some { kind := .array n e, .. } => match E.T e with
    | some ie => match x with
      | .ptr b off => match blkAt h b with
        | some c => match oInt lo 0, oInt hi n, mx with
          | some l, some g, none => sel (decide (n ≤ 281474976710656)) (sel (decide (off + n * ie.size ≤ c.clen)) (sel (decide (0 ≤ l)) (sel (decide (l ≤ g)) (sel (decide (g ≤ (n : Int))) (K (.sl b (nadd off (nmul l.toNat ie.size)) (g.toNat - l.toNat) ie.size)) none) none) none) none) none
          | _, _, _ => none
        | none => none
      | _ => none
    | none => none
  | _ => none
def isArr (E : Env) (t : TypeId) : Bool := match E.T t with | some { kind := .array _ _, .. } => true | _ => false

def loadA (E : Env) (h : H) (t : TypeId) (a : AV) (K : AV → Option R) : Option R := match E.T t with
  | some i => match a with
    | .ptr b off => match blkAt h b with | some c => readVar i c off K | none => none
    | .fptr c => readVar i c 0 K
    | _ => none
  | none => none

def storeA (E : Env) (h : H) (t : TypeId) (a v : AV) (K : H → Option R) : Option R := match E.T t with
  | some i => match a with
    | .ptr b off => match h[b]? with
      | some (.live c) => match v with
        | .agg d => sel (decide (d.clen = i.size)) (c.put off d fun c' => K (h.set b (.live c'))) none
        | v => sel (decide (i.size = 1)) (c.set off v fun c' => K (h.set b (.live c'))) none
      | _ => none
    | _ => none
  | none => none

/-- the cells of a slice that is read -/
def readSl (h : H) (x : AV) (K : Blk → Option R) : Option R := match x with
  | .esl => K (.any [])
  | .fsl c => match c with | .rows _ rs => K (.any rs.flatten) | c => K c
  | .sl b off len sz => match blkAt h b with
    | some c => match off, c with
      | 0, .ints k xs => sel (decide (len = xs.length)) (sel (decide (sz = 1)) (K (.ints k xs)) none) (c.sub 0 (nmul len sz) K)
      | 0, .bools xs => sel (decide (len = xs.length)) (sel (decide (sz = 1)) (K (.bools xs)) none) (c.sub 0 (nmul len sz) K)
      | off, c => c.sub off (nmul len sz) K
    | none => none
  | _ => none
def slLen (x : AV) : Option Nat := match x with
  | .esl => some 0 | .fsl c => some c.num | .sl _ _ len _ => some len | _ => none

/-- is an element so many cells? -/
def slSz (x : AV) (n : Nat) : Bool := match x with
  | .esl => true | .fsl c => decide (c.esz = n) | .sl _ _ _ sz => decide (sz = n) | _ => false

/-- append of a slice's elements -/
def appendA (E : Env) (h : H) (slot : Nat) (t : TypeId) (s x : AV) (K : AV → H → Option R) : Option R := match E.T t with
  | some { kind := .slice e, .. } => match E.T e with
    | some ie => sel (decide (0 < ie.size)) (sel (decide (0 < ie.bytes)) (sel (slSz x ie.size) (match slLen x with
      | some m => readSl h x fun d => sel d.cellsOk (match s with
        | .esl => sel (decide (m * ie.bytes ≤ 140737488355328)) (K (.sl slot 0 m ie.size) (hput h slot (.live d))) none
        | .sl b 0 len sz => match h[b]? with
          | some (.live c) => sel (decide (ie.size = sz)) (sel (decide (c.clen = nmul len sz)) (sel (decide ((len + m) * ie.bytes ≤ 140737488355328))
              (c.app d fun c' => K (.sl slot 0 (len + m) sz) (hput (h.set b .dead) slot (.live c'))) none) none) none
          | _ => none
        | _ => none) none
      | none => none) none) none) none
    | none => none
  | _ => none

/-- copy -/
def copyA (E : Env) (h : H) (t : TypeId) (d x : AV) (K : AV → H → Option R) : Option R := match E.T t with
  | some { kind := .slice e, .. } => match E.T e with
    | some ie => sel (decide (ie.size = 1)) (sel (slSz x 1) (match slLen x with
      | some m => match d with
        | .sl b off len sz => match h[b]? with
          | some (.live c) => sel (decide (sz = 1)) (sel (decide (off + len ≤ c.clen)) (readSl h x fun y => sel y.cellsOk (sel (decide (m ≤ len)) (c.put off y fun c' => K (.int .i64 (m : Int)) (h.set b (.live c'))) (y.sub 0 len fun y' => c.put off y' fun c' => K (.int .i64 (len : Int)) (h.set b (.live c')))) none) none) none
          | _ => none
        | _ => none
      | none => none) none) none
    | none => none
  | _ => none

/-- a row of so many zero values -/
def zeros (i : TI) (n : Nat) : Blk := match i.kind with
  | .int k => .ints k (List.replicate n 0)
  | .bool => .bools (List.replicate n false)
  | _ => .any ((List.replicate n i.zero.blk.cells).flatten)

def makeSl (E : Env) (h : H) (slot : Nat) (t : TypeId) (l c : AV) (K : AV → H → Option R) : Option R := match E.T t, l, c with
  | some { kind := .slice e, .. }, .int _ l, .int _ c => match E.T e with
    | some ie => sel (decide (0 ≤ l)) (sel (decide (l ≤ c)) (sel (decide (c ≤ 281474976710656)) (sel (decide ((ie.bytes : Int) * c ≤ 281474976710656))
        (K (.sl slot 0 l.toNat ie.size) (hput h slot (.live (zeros ie l.toNat)))) none) none) none) none
    | none => none
  | _, _, _ => none

/-- may this be a part of a struct, an array, a slice? -/
def AV.partOk : AV → Bool
  | .agg _ => true
  | v => v.isCell
/-- parts laid into cells -/
def fillA (cs : List AV) : List (Nat × Nat × AV) → Option (List AV)
  | [] => some cs
  | (off, size, v) :: r => let d := v.blk.cells; if d.length = size ∧ off + size ≤ cs.length ∧ v.partOk = true then fillA (cs.take off ++ (d ++ cs.drop (off + size))) r else none
/-- where a struct's fields lie -/
def places (E : Env) : List (TypeId × Nat) → Option (List (Nat × Nat))
  | [] => some []
  | (ft, o) :: r => match E.T ft with
    | some k => (match places E r with | some l => some ((o, k.size) :: l) | none => none)
    | none => none
def placeParts (pl : Nat → Option (Nat × Nat)) : List (Nat × AV) → Option (List (Nat × Nat × AV))
  | [] => some []
  | (j, v) :: r => match pl j with
    | some (o, s) => (match placeParts pl r with | some l => some ((o, s, v) :: l) | none => none)
    | none => none

def buildA (E : Env) (t : TypeId) (parts : List (Nat × AV)) : Option AV := match E.T t with
  | some i => match i.kind with
    | .struct fs => (match places E fs with
      | some pl => (match placeParts (fun j => pl[j]?) parts with
        | some ps => (match fillA i.zero.blk.cells ps with | some cs => some (.agg (.any cs)) | none => none)
        | none => none)
      | none => none)
    | .array _ e => (match E.T e with
      | some k => (match placeParts (fun j => some (j * k.size, k.size)) parts with
        | some ps => (match fillA i.zero.blk.cells ps with
          | some cs => (match mkRow k cs with | some c => some (.agg c) | none => none)
          | none => none)
        | none => none)
      | none => none)
    | _ => none
  | none => none

def buildSlA (E : Env) (h : H) (slot : Nat) (t : TypeId) (len : Nat) (parts : List (Nat × AV)) (K : AV → H → Option R) : Option R := match E.T t with
  | some { kind := .slice e, .. } => match E.T e with
    | some k => sel (decide (len * k.size ≤ 16777216 ∧ len ≤ 16777216)) (match len with
      | 0 => (match parts with | [] => K .esl h | _ => none)
      | len => match placeParts (fun j => some (j * k.size, k.size)) parts with
        | some ps => (match fillA (zeros k len).cells ps with
          | some cs => (match mkRow k cs with | some c => K (.sl slot 0 len k.size) (hput h slot (.live c)) | none => none)
          | none => none)
        | none => none) none
    | none => none
  | _ => none

/-! ### calls, operations, code -/
/-- how a call of a function is told: its arguments, the heap, what goes on behind it -/
abbrev CallF := FuncId → List AV → H → Nat → (R : Type) → (AV → H → Option R) → Option R

def builtinA (E : Env) (h : H) (slot : Nat) (b : Builtin) (ts : List TypeId) (xs : List AV) (K : AV → H → Option R) : Option R := match b with
  | .len => match ts, xs with | t :: _, [x] => lenA E t x fun v => K v h | _, _ => none
  | .max => match maxA xs with | some v => K v h | none => none
  | .min => match minA xs with | some v => K v h | none => none
  | .append => match ts, xs with | [t, u], [s, x] => sel (decide (t = u)) (appendA E h slot t s x K) none | _, _ => none
  | .copy => match ts, xs with | t :: _, [d, x] => copyA E h t d x K | _, _ => none
  | _ => none

def evOp (E : Env) (call : CallF) (t : List AV) (h : H) (slot : Nat) (o : Oper) (K : AV → H → Option R) : Option R := match o.op with
  | .move x | .assign x => K (val E t x) h
  | .pick c a b => match val E t c with | .bool u => sel u (K (val E t a) h) (K (val E t b) h) | _ => none
  | .alloc e => match E.T e with | some i => K (.ptr slot 0) (hput h slot (.live i.zero.blk)) | none => none
  | .box e x => match E.T e with
    | some i => match val E t x with
      | .agg c => sel (decide (c.clen = i.size)) (K (.ptr slot 0) (hput h slot (.live c))) none
      | v => sel v.isCell (K (.ptr slot 0) (hput h slot (.live (.any [v])))) none
    | none => none
  | .build ty ps => match buildA E ty (ps.toList.map fun p => (p.1, val E t p.2)) with | some v => K v h | none => none
  | .buildSlice ty len ps => buildSlA E h slot ty len (ps.toList.map fun p => (p.1, val E t p.2)) K
  | .load ty a => loadA E h ty (val E t a) fun v => K v h
  | .store ty a x => storeA E h ty (val E t a) (val E t x) fun h' => K (.tup []) h'
  | .nilCheck x => match val E t x with | .undef | .nilptr | .nilif | .nilfn => none | v => K v h
  | .binOp op xt x y _ => binA E op xt (val E t x) (val E t y) fun v => K v h
  | .unOp op _ x => unA op (val E t x) fun v => K v h
  | .convert src dst x => cvtA E src dst (val E t x) fun v => K v h
  | .makeInterface ty x => match E.T ty with | some i => (match i.kind with | .iface => none | .other => none | _ => K (.iface ty (val E t x)) h) | none => none
  | .makeFunc (.func f) first caps => if first.isEmpty then K (.fn f (caps.toList.map (val E t))) h else none
  | .makeSlice ty l c => makeSl E h slot ty (val E t l) (val E t c) K
  | .slice ty x lo hi mx => sel (isArr E ty) (sliceArrA E h ty (val E t x) (lo.map (val E t)) (hi.map (val E t)) (mx.map (val E t)) fun v => K v h) (sliceA E ty (val E t x) (lo.map (val E t)) (hi.map (val E t)) (mx.map (val E t)) fun v => K v h)
  | .fieldAddr s x f => fldAddrA E s (val E t x) f fun v => K v h
  | .field s x f => fldA E s (val E t x) f fun v => K v h
  | .indexAddr ty x i => match val E t i with | .int _ n => idxAddrA E ty (val E t x) n fun v => K v h | _ => none
  | .index ty x i => match val E t i with | .int _ n => idxA E ty (val E t x) n fun v => K v h | _ => none
  | .extract x i => match val E t x with | .tup vs => (match vs[i]? with | some v => K v h | none => none) | _ => none
  | .call c => match c.callee with
    | .builtin b => builtinA E h slot b c.argTypes.toList (c.args.toList.map (val E t)) K
    | .value f => match val E t f with | .fn g caps => call g (c.args.toList.map (val E t) ++ caps) h slot R K | _ => none
    | _ => none
  | _ => none

def setT (t : List AV) (d : Option Tmp) (v : AV) : List AV := match d with | some i => t.set i v | none => t
end
end
end Go.Ev
