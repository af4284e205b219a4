/- Code and calls: what the evaluator tells of them. -/
import Derived.Test.YtllgdcepgelahaaDoorEv14
namespace Go.Ev
noncomputable section

/-! ### what is led to; other names for blocks -/
mutual
def refsV : AV → List Nat
  | .ptr b _ => [b]
  | .sl b _ _ _ => [b]
  | .agg c => refsB c
  | .tup vs => refsL vs
  | .fn _ caps => refsL caps
  | .iface _ v => refsV v
  | _ => []
def refsB : Blk → List Nat
  | .any cs => refsL cs
  | .rows _ rs => refsR rs
  | _ => []
def refsL : List AV → List Nat
  | [] => []
  | v :: r => refsV v ++ refsL r
def refsR : List (List AV) → List Nat
  | [] => []
  | v :: r => refsL v ++ refsR r
end
mutual
def renV (ρ : Nat → Nat) : AV → AV
  | .ptr b o => .ptr (ρ b) o
  | .sl b o l s => .sl (ρ b) o l s
  | .agg c => .agg (renB ρ c)
  | .tup vs => .tup (renL ρ vs)
  | .fn f caps => .fn f (renL ρ caps)
  | .iface t v => .iface t (renV ρ v)
  | .undef => .undef
  | .int k n => .int k n
  | .bool b => .bool b
  | .str s => .str s
  | .nilptr => .nilptr
  | .fptr c => .fptr c
  | .esl => .esl
  | .fsl c => .fsl c
  | .nilfn => .nilfn
  | .nilif => .nilif
def renB (ρ : Nat → Nat) : Blk → Blk
  | .any cs => .any (renL ρ cs)
  | .rows sz rs => .rows sz (renR ρ rs)
  | .ints k xs => .ints k xs
  | .bools xs => .bools xs
def renL (ρ : Nat → Nat) : List AV → List AV
  | [] => []
  | v :: r => renV ρ v :: renL ρ r
def renR (ρ : Nat → Nat) : List (List AV) → List (List AV)
  | [] => []
  | v :: r => renL ρ v :: renR ρ r
end
def HB.refs : HB → List Nat
  | .live c => refsB c
  | .ice c => refsB c
  | .dead => []
def HB.ren (ρ : Nat → Nat) : HB → HB
  | .live c => .live (renB ρ c)
  | .ice c => .ice (renB ρ c)
  | .dead => .dead

def memN : List Nat → Nat → Bool
  | [], _ => false
  | x :: r, b => x.beq b || memN r b
def idxN : List Nat → Nat → Nat
  | [], _ => 0
  | x :: r, b => match x.beq b with | true => 0 | false => idxN r b + 1
def nodupN : List Nat → Bool
  | [] => true
  | x :: r => !memN r x && nodupN r
/-- what is led to from some blocks -/
def reachN (h : H) : Nat → List Nat → List Nat → List Nat
  | 0, _, acc => acc
  | _ + 1, [], acc => acc
  | n + 1, b :: ws, acc => match memN acc b with
    | true => reachN h n ws acc
    | false => reachN h n ((h.getD b .dead).refs ++ ws) (acc ++ [b])

def keepT (ks : List Nat) : Nat → List AV → List AV
  | _, [] => []
  | i, v :: r => (match memN ks i with | true => v | false => .undef) :: keepT ks (i + 1) r

/-! ### blocks shut where they stand: what led to them tells their contents -/
mutual
/-- blocks that are led to otherwise than by a slice of all of them -/
def badV : AV → List Nat
  | .ptr b _ => [b]
  | .sl b o _ s => (match o with | 0 => (match s.beq 1 with | true => [] | false => [b]) | _ => [b])
  | .agg c => badB c
  | .tup vs => badL vs
  | .fn _ caps => badL caps
  | .iface _ v => badV v
  | _ => []
def badB : Blk → List Nat
  | .any cs => badL cs
  | .rows _ rs => badR rs
  | _ => []
def badL : List AV → List Nat
  | [] => []
  | v :: r => badV v ++ badL r
def badR : List (List AV) → List Nat
  | [] => []
  | v :: r => badL v ++ badR r
end
mutual
def shV (σ : Nat → Option Blk) : AV → AV
  | .sl b o l s => (match σ b with | some c => .fsl c | none => .sl b o l s)
  | .agg c => .agg (shB σ c)
  | .tup vs => .tup (shL σ vs)
  | .fn f caps => .fn f (shL σ caps)
  | .iface t v => .iface t (shV σ v)
  | .ptr b o => .ptr b o
  | .undef => .undef
  | .int k n => .int k n
  | .bool b => .bool b
  | .str s => .str s
  | .nilptr => .nilptr
  | .fptr c => .fptr c
  | .esl => .esl
  | .fsl c => .fsl c
  | .nilfn => .nilfn
  | .nilif => .nilif
def shB (σ : Nat → Option Blk) : Blk → Blk
  | .any cs => .any (shL σ cs)
  | .rows sz rs => .rows sz (shR σ rs)
  | .ints k xs => .ints k xs
  | .bools xs => .bools xs
def shL (σ : Nat → Option Blk) : List AV → List AV
  | [] => []
  | v :: r => shV σ v :: shL σ r
def shR (σ : Nat → Option Blk) : List (List AV) → List (List AV)
  | [] => []
  | v :: r => shL σ v :: shR σ r
end
mutual
/-- what is to be so for that -/
def okV (σ : Nat → Option Blk) : AV → List Bool
  | .sl b o l s => (match σ b with | some c => [o.beq 0 && s.beq 1, decide (l = c.num)] | none => [])
  | .ptr b _ => (match σ b with | some _ => [false] | none => [])
  | .agg c => okB σ c
  | .tup vs => okL σ vs
  | .fn _ caps => okL σ caps
  | .iface _ v => okV σ v
  | _ => []
def okB (σ : Nat → Option Blk) : Blk → List Bool
  | .any cs => okL σ cs
  | .rows _ rs => okR σ rs
  | _ => []
def okL (σ : Nat → Option Blk) : List AV → List Bool
  | [] => []
  | v :: r => okV σ v ++ okL σ r
def okR (σ : Nat → Option Blk) : List (List AV) → List Bool
  | [] => []
  | v :: r => okL σ v ++ okR σ r
end
def HB.bad : HB → List Nat
  | .live c => badB c
  | .ice c => badB c
  | .dead => []
def HB.sh (σ : Nat → Option Blk) : HB → HB
  | .live c => .live (shB σ c)
  | .ice c => .ice (shB σ c)
  | .dead => .dead
def HB.ok (σ : Nat → Option Blk) : HB → List Bool
  | .live c => okB σ c
  | .ice c => okB σ c
  | .dead => []
def shH (σ : Nat → Option Blk) : Nat → H → H
  | _, [] => []
  | i, x :: r => (match σ i with | some _ => .dead | none => x.sh σ) :: shH σ (i + 1) r
def okH (σ : Nat → Option Blk) : Nat → H → List Bool
  | _, [] => []
  | i, x :: r => (match σ i with | some _ => [] | none => x.ok σ) ++ okH σ (i + 1) r
def badH : H → List Nat
  | [] => []
  | x :: r => x.bad ++ badH r
/-- the blocks that are shut: rows of numbers or truths of one's own that are led to by whole slices only -/
def shutOf (base : Nat) (bad : List Nat) (h : H) (b : Nat) : Option Blk := match Nat.blt b base || memN bad b with
  | true => none
  | false => match h[b]? with
    | some (.live (.ints k xs)) => some (.ints k xs)
    | some (.live (.bools xs)) => some (.bools xs)
    | _ => none
def gds {R : Type} : List Bool → Option R → Option R
  | [], x => x
  | b :: r, x => sel b (gds r x) none
def frz {R : Type} (base : Nat) (t : List AV) (h : H) (K : List AV → H → Option R) : Option R :=
  let σ := shutOf base (badL t ++ badH h) h
  gds (okL σ t ++ okH σ 0 h) (K (shL σ t) (shH σ 0 h))
/-- are blocks shut here? -/
def frzIf {R : Type} (c : Bool) (base : Nat) (t : List AV) (h : H) (K : List AV → H → Option R) : Option R := match c with
  | true => frz base t h K
  | false => K t h
section
variable {R : Type}
/-- what the first blocks lead to -/
def refs0 (h : H) : Nat → List Nat
  | 0 => []
  | n + 1 => refs0 h n ++ (h.getD n .dead).refs
/-- the first numbers -/
def upN : Nat → List Nat
  | 0 => []
  | n + 1 => upN n ++ [n]
/-- do the first ones stay? -/
def firstN (ids : List Nat) : Nat → Bool
  | 0 => true
  | n + 1 => firstN ids n && (match ids[n]? with | some b => b.beq n | none => false)
/-- What is not kept is forgotten; blocks that nothing kept leads to, too, but for the first ones; the others have new names. -/
def norm (ks : Option (List Nat)) (base : Nat) (st : St) (K : St → Option R) : Option R := match ks with
  | none => K st
  | some ks =>
    frzIf (memN ks 999999) base (keepT ks 0 st.t) st.h fun t h =>
    let ids := reachN h 100000 (refs0 h base ++ refsL t) (upN base)
    sel (nodupN ids && (refsL t).all (memN ids) && ids.all (fun b => ((h.getD b .dead).refs).all (memN ids)) && firstN ids base)
      (K ⟨renL (idxN ids) t, ids.map fun b => (h.getD b .dead).ren (idxN ids)⟩) none

/-- does an operation come up? -/
def guardA (all : List Oper) (t : List AV) (o : Oper) : Option Bool := match o.guard with
  | none => some true
  | some (j, want) => match (all[j]?).bind (·.dst) with
    | none => some false
    | some d => match t.getD d .undef with
      | .bool b => some (match want with | true => b | false => !b)
      | .tup _ => some false
      | .int _ _ => some false
      | _ => none

/-- what stands behind a 'and' is told of as if it came up ('tr'), or both ways -/
def evSeq (E : Env) (call : CallF) (tr : Bool) (all : List Oper) : List Oper → List AV → H → (List AV → H → Option R) → Option R
  | [], t, h, K => K t h
  | o :: rest, t, h, K => match o.guard with
    | none => evOp E call t h h.length o fun v h1 => evSeq E call tr all rest (setT t o.dst v) h1 K
    | some (j, want) => match (all[j]?).bind (·.dst) with
      | none => evSeq E call tr all rest (setT t o.dst (.tup [])) h K
      | some d => match t.getD d .undef with
        | .bool b => sel b
          (match want with
            | true => evOp E call (t.set d (.bool true)) h h.length o fun v h1 => evSeq E call tr all rest (setT (t.set d (.bool true)) o.dst v) h1 K
            | false => evSeq E call tr all rest (setT (t.set d (.bool true)) o.dst (.tup [])) h K)
          (match want with
            | true => (match tr with | true => none | false => evSeq E call tr all rest (setT (t.set d (.bool false)) o.dst (.tup [])) h K)
            | false => evOp E call (t.set d (.bool false)) h h.length o fun v h1 => evSeq E call tr all rest (setT (t.set d (.bool false)) o.dst v) h1 K)
        | .tup _ => evSeq E call tr all rest (setT t o.dst (.tup [])) h K
        | .int _ _ => evSeq E call tr all rest (setT t o.dst (.tup [])) h K
        | _ => none

/-! ### regions that draw their order -/
def opTmps (o : Oper) : List Nat := o.op.operands.toList.filterMap fun x => match x with | .tmp u => some u | _ => none
def refFree (vs : List AV) : Bool := (refsL vs).isEmpty
/-- whether an operation may change blocks, and which it may look into -/
def touch (E : Env) (t : List AV) (h : H) (o : Oper) : Bool × List Nat := match o.op with
  | .load _ a => (false, refsV (val E t a))
  | .slice _ x _ _ _ => (false, refsV (val E t x))
  | .store _ a _ => (true, refsV (val E t a))
  | .alloc _ => (true, [])
  | .box _ _ => (true, [])
  | .makeSlice _ _ _ => (true, [])
  | .buildSlice _ _ _ => (true, [])
  | .call c => match c.callee with
    | .builtin .append => (true, refsL (c.args.toList.map (val E t)))
    | .builtin .copy => (true, refsL (c.args.toList.map (val E t)))
    | .value f => match val E t f with
      | .fn g caps => match E.vs g && refFree (c.args.toList.map (val E t) ++ caps) with
        | true => (false, [])
        | false => (true, reachN h 100000 (refsL (c.args.toList.map (val E t) ++ caps)) [])
      | _ => (false, [])
    | _ => (false, [])
  | _ => (false, [])
def overlap : List Nat → List Nat → Bool
  | [], _ => false
  | x :: r, l => memN l x || overlap r l
def edgesOf (o : Oper) : List Nat := o.after.toList.filterMap fun e => match Region.binds .any e with | true => some e.on | false => none
def nubN : List Nat → List Nat
  | [] => []
  | x :: r => (match memN r x with | true => nubN r | false => x :: nubN r)
/-- what comes ahead of each operation, whatever the order -/
def befs : List Oper → List (List Nat) → List (List Nat)
  | [], acc => acc
  | o :: r, acc => befs r (acc ++ [nubN (edgesOf o ++ ((edgesOf o).map fun j => acc.getD j []).flatten)])
def usesOf (all : List Oper) (o : Oper) : List Nat := opTmps o ++ (match o.guard with
  | some (j, _) => (match (all[j]?).bind (·.dst) with | some d => [d] | none => [])
  | none => [])
def chkUse (bs : List (List Nat)) (i u : Nat) : Nat → List Oper → Bool
  | _, [] => true
  | j, o :: r => (match o.dst with
    | some d => !(d.beq u) || (j.beq i || (memN (bs.getD i []) j || memN (bs.getD j []) i))
    | none => true) && chkUse bs i u (j + 1) r
def chkOps (all : List Oper) (bs : List (List Nat)) : Nat → List Oper → Bool
  | _, [] => true
  | i, o :: r => (edgesOf o).all (fun j => Nat.blt j i) && ((usesOf all o).all (fun u => chkUse bs i u 0 all) && chkOps all bs (i + 1) r)
def regOk (ops : List Oper) : Bool := chkOps ops (befs ops []) 0 ops && nodupN (ops.filterMap (·.dst))
def noIce : H → Bool
  | [] => true
  | .ice _ :: _ => false
  | _ :: r => noIce r
def conf (a b : Bool × List Nat) : Bool := (a.1 || b.1) && overlap a.2 b.2
def chkAcc (bi : List Nat) (me : Bool × List Nat) : List (Nat × Bool × List Nat) → Bool
  | [] => true
  | e :: r => (!(conf e.2 me) || memN bi e.1) && chkAcc bi me r
/-- what an operation looks into lay there before, or an earlier one of the region has made it -/
def chkNew (s : Nat) (acc : List (Nat × Bool × List Nat)) : List Nat → Bool
  | [] => true
  | b :: r => (Nat.blt b s || acc.any fun e => e.2.1 && (s + e.1).beq b) && chkNew s acc r
def mine (s : Nat) (tc : Bool × List Nat) : Bool × List Nat := match tc.1 with | true => (true, s :: tc.2) | false => (false, tc.2)
/-- one operation of such a region, and what follows -/
def anyOp (E : Env) (call : CallF) (bi : List Nat) (s0 i s : Nat) (o : Oper) (t : List AV) (h : H) (acc : List (Nat × Bool × List Nat)) (next : List AV → H → List (Nat × Bool × List Nat) → Option R) : Option R :=
  sel (chkAcc bi (mine s (touch E t h o)) acc && chkNew s0 acc (touch E t h o).2) (evOp E call t h s o fun v h1 => sel (h1.length.beq h.length && noIce h1) (next (setT t o.dst v) h1 ((i, mine s (touch E t h o)) :: acc)) none) none
def evAny (E : Env) (call : CallF) (all : List Oper) (bs : List (List Nat)) (s : Nat) : Nat → List Oper → List AV → H → List (Nat × Bool × List Nat) → (List AV → H → Option R) → Option R
  | _, [], t, h, _, K => K t h
  | i, o :: rest, t, h, acc, K => match o.guard with
    | none => anyOp E call (bs.getD i []) s i (s + i) o t h acc fun t h acc => evAny E call all bs s (i + 1) rest t h acc K
    | some (j, want) => match (all[j]?).bind (·.dst) with
      | none => evAny E call all bs s (i + 1) rest (setT t o.dst (.tup [])) h acc K
      | some d => match t.getD d .undef with
        | .bool b => sel b
          (match want with
            | true => anyOp E call (bs.getD i []) s i (s + i) o (t.set d (.bool true)) h acc fun t h acc => evAny E call all bs s (i + 1) rest t h acc K
            | false => evAny E call all bs s (i + 1) rest (setT (t.set d (.bool true)) o.dst (.tup [])) h acc K)
          (match want with
            | true => evAny E call all bs s (i + 1) rest (setT (t.set d (.bool false)) o.dst (.tup [])) h acc K
            | false => anyOp E call (bs.getD i []) s i (s + i) o (t.set d (.bool false)) h acc fun t h acc => evAny E call all bs s (i + 1) rest t h acc K)
        | .tup _ => evAny E call all bs s (i + 1) rest (setT t o.dst (.tup [])) h acc K
        | .int _ _ => evAny E call all bs s (i + 1) rest (setT t o.dst (.tup [])) h acc K
        | _ => none
def evDraw (E : Env) (call : CallF) (ops : List Oper) (t : List AV) (h : H) (K : List AV → H → Option R) : Option R :=
  sel (regOk ops && noIce h) (evAny E call ops (befs ops []) h.length 0 ops t (h ++ List.replicate ops.length .dead) [] K) none

def exIn (id : Nat) : Ex → Ex
  | .exit j => (match j.beq id with | true => .normal | false => .exit j)
  | e => e

/-- a piece of code's key: its first region -/
def keyOf : Code → Nat
  | .region id _ _ => id + 1
  | .seq a b => (match keyOf a with | 0 => keyOf b | k => k)
  | .cond _ a b => (match keyOf a with | 0 => keyOf b | k => k)
  | .block _ c => keyOf c
  | .loop c => keyOf c
  | .scope c => keyOf c
  | _ => 0
/-- a scope's label, counted from 1 -/
def labOf : Code → Nat
  | .label l => l + 1
  | .seq a b => (match labOf a with | 0 => labOf b | k => k)
  | _ => 0
def kindOf : Ex → Nat
  | .normal => 0
  | .ret => 1
  | .exit id => 2 + id
  | .goto l => 200 + l
/-- what is kept where a piece is left -/
def kOut (E : Env) (fid base key : Nat) (K : Ex → St → Option R) : Ex → St → Option R := fun ex st => norm (E.keep fid (key + kindOf ex)) base st (K ex)

def evLoop (nin : St → (St → Option R) → Option R) (f : St → (Ex → St → Option R) → Option R) : Nat → St → (Ex → St → Option R) → Option R
  | 0, _, _ => none
  | n + 1, st, K => f st fun ex st' => match ex with | .normal => nin st' (fun st'' => evLoop nin f n st'' K) | ex => K ex st'

def evJump (nin : St → (St → Option R) → Option R) (f : St → (Ex → St → Option R) → Option R) (l : Nat) : Nat → St → (Ex → St → Option R) → Option R
  | 0, _, _ => none
  | n + 1, st, K => f st fun ex st' => match ex with | .goto l' => (match l'.beq l with | true => nin st' (fun st'' => evJump nin f l n st'' K) | false => none) | ex => K ex st'

/-- A piece of code told by what it comes to: where a state stands as it says. -/
abbrev PSpec := St → (R : Type) → (Ex → St → Option R) → Option R
def orcOr (o : Option PSpec) (f : St → (Ex → St → Option R) → Option R) (out : (Ex → St → Option R) → Ex → St → Option R) (st : St) (K : Ex → St → Option R) : Option R := match o with
  | some sp => sp st R K
  | none => f st (out K)

def isS {α : Type} : Option α → Bool
  | some _ => true
  | none => false
def evCode (E : Env) (call : CallF) (O : Nat → Option PSpec) (fid base : Nat) : Nat → Code → St → (Ex → St → Option R) → Option R
  | 0, _, _, _ => none
  | n + 1, c, st, K => match c with
    | .skip => K .normal st
    | .label _ => K .normal st
    | .region _ ops draw => match draw with
      | false => evSeq E call (isS (E.keep fid 999999999)) ops.toList ops.toList st.t st.h fun t h => K .normal ⟨t, h⟩
      | true => evDraw E call ops.toList st.t st.h fun t h => K .normal ⟨t, h⟩
    | .seq a b => evCode E call O fid base n a st fun ex st' => match ex with
      | .normal => norm (E.keep fid (keyOf b * 1000)) base st' fun st'' => orcOr (O (keyOf b * 1000)) (evCode E call O fid base n b) (kOut E fid base (keyOf b * 1000 + 1)) st'' K
      | ex => K ex st'
    | .cond c a b => match val E st.t c with | .bool u => sel u (evCode E call O fid base n a st K) (evCode E call O fid base n b st K) | _ => none
    | .block id c => evCode E call O fid base n c st fun ex st' => K (exIn id ex) st'
    | .loop c => norm (E.keep fid (keyOf c * 1000 + 400)) base st fun st' => orcOr (O (keyOf c * 1000 + 400)) (evLoop (norm (E.keep fid (keyOf c * 1000 + 400)) base) (evCode E call O fid base n c) E.rounds) (kOut E fid base (keyOf c * 1000 + 401)) st' K
    | .exit id => K (.exit id) st
    | .goto l => K (.goto l) st
    | .ret => K .ret st
    | .scope c => evCode E call O fid base n c st fun ex st' => match ex with
      | .goto l => (match (labOf c).beq (l + 1) with
        | true => (match findLabel c l with
          | some rest => norm (E.keep fid (keyOf rest * 1000 + 700)) base st' fun st'' => orcOr (O (keyOf rest * 1000 + 700)) (evJump (norm (E.keep fid (keyOf rest * 1000 + 700)) base) (evCode E call O fid base n rest) l E.rounds) (kOut E fid base (keyOf rest * 1000 + 701)) st'' K
          | none => none)
        | false => none)
      | ex => K ex st'
    | _ => none

def resA (E : Env) (st : St) : List ResultVar → (List AV → Option R) → Option R
  | [], K => K []
  | .tmp i :: r, K => resA E st r fun vs => K (st.t.getD i .undef :: vs)
  | .cell a ty :: r, K => loadA E st.h ty (st.t.getD a .undef) fun v => resA E st r fun vs => K (v :: vs)

def one (vs : List AV) : AV := match vs with | [v] => v | vs => .tup vs

def evBody (E : Env) (call : CallF) (O : Nat → Option PSpec) (f : FuncId) (args : List AV) (h : H) (K : AV → H → Option R) : Option R := match E.F f with
  | some fn => match fn.body with
    | some c => evCode E call O f h.length 4000 c ⟨args ++ List.replicate (fn.ntmps - args.length) (.tup []), h⟩ fun ex st => match ex with
      | .normal => resA E st fn.results.toList fun vs => K (one vs) st.h
      | .ret => resA E st fn.results.toList fun vs => K (one vs) st.h
      | _ => none
    | none => none
  | none => none
end

/-! ### empty rows, by their types -/
/-- A cell of an argument: a whole number, a truth, a text, a slice of them, a slice of structs of such cells. -/
inductive Sh where
  | int (k : IntKind) | bool | str
  | ints (k : IntKind) | bools
  | rows (cs : List Sh)

/-- a struct's cells, its fields one behind the other -/
def shF (T : TypeId → Option TI) (f : TypeId → Option (List Sh)) : Nat → List (TypeId × Nat) → Option (List Sh)
  | _, [] => some []
  | o, (t, off) :: r => match f t, T t with
    | some c1, some i => match off.beq o && c1.length.beq i.size with
      | true => (match shF T f (o + c1.length) r with | some c2 => some (c1 ++ c2) | none => none)
      | false => none
    | _, _ => none
/-- a type's cells -/
def shs (T : TypeId → Option TI) : Nat → TypeId → Option (List Sh)
  | 0, _ => none
  | n + 1, t => match T t with
    | none => none
    | some i => match i.kind with
      | .int k => some [.int k]
      | .bool => some [.bool]
      | .str => some [.str]
      | .struct fs => (match shF T (shs T n) 0 fs with | some cs => (match cs.length.beq i.size with | true => some cs | false => none) | none => none)
      | .slice e => match T e with
        | none => none
        | some ie => match ie.kind with
          | .int k => (match ie.size.beq 1 with | true => some [.ints k] | false => none)
          | .bool => (match ie.size.beq 1 with | true => some [.bools] | false => none)
          | .struct _ => (match shs T n e with | some cs => (match cs.length.beq ie.size && Nat.blt 0 cs.length with | true => some [.rows cs] | false => none) | none => none)
          | _ => none
      | _ => none


def canC : Sh → AV → AV
  | .ints k, .esl => .fsl (.ints k [])
  | .ints k, .fsl (.any []) => .fsl (.ints k [])
  | .bools, .esl => .fsl (.bools [])
  | .bools, .fsl (.any []) => .fsl (.bools [])
  | .rows (_ :: cs), .esl => .fsl (.rows (cs.length + 1) [])
  | .rows (_ :: cs), .fsl (.any []) => .fsl (.rows (cs.length + 1) [])
  | _, v => v
def canL : List Sh → List AV → List AV
  | c :: cs, v :: vs => canC c v :: canL cs vs
  | _, vs => vs
def canV (T : TypeId → Option TI) (t : TypeId) (v : AV) : AV := match v with
  | .agg (.any vs) => (match shs T 20 t with | some cs => .agg (.any (canL cs vs)) | none => v)
  | v => (match shs T 20 t with | some [c] => canC c v | _ => v)
def canA (T : TypeId → Option TI) : List TypeId → List AV → List AV
  | t :: ts, v :: vs => canV T t v :: canA T ts vs
  | _, vs => vs
def canR (T : TypeId → Option TI) (ts : List TypeId) (z : AV) : AV := match ts, z with
  | [t], z => canV T t z
  | ts, .tup vs => .tup (canA T ts vs)
  | _, z => z
def parsOf (E : Env) (f : FuncId) : List TypeId := match E.F f with | some fn => fn.params.toList | none => []
def ressOf (E : Env) (f : FuncId) : List TypeId := match E.F f with | some fn => fn.resultTypes.toList | none => []

/-- A function told by what it answers, and makes of the blocks that it is handed. -/
abbrev HSpec := List AV → H → (R : Type) → (AV → H → Option R) → Option R
/-- a callee's block, among the caller's; the first new one has a place of its own -/
def backN (ids : List Nat) (n slot : Nat) (j : Nat) : Nat := match ids[j]? with
  | some b => b
  | none => match j - ids.length with
    | 0 => slot
    | k + 1 => n + (k + 1)
/-- the caller's blocks, those that were handed over as they have become -/
def putBack (ids : List Nat) (ρ : Nat → Nat) (h1 : H) : Nat → H → H
  | _, [] => []
  | b, x :: r => (match memN ids b with | true => (h1.getD (idxN ids b) .dead).ren ρ | false => x) :: putBack ids ρ h1 (b + 1) r
def mergeH (h : H) (ids : List Nat) (slot : Nat) (h1 : H) : H := match Nat.blt slot h.length with
  | true => match h1[ids.length]? with
    | some x => (putBack ids (backN ids h.length slot) h1 0 h).set slot (x.ren (backN ids h.length slot))
    | none => putBack ids (backN ids h.length slot) h1 0 h
  | false => putBack ids (backN ids h.length slot) h1 0 h ++ (h1.drop ids.length).map (HB.ren (backN ids h.length slot))
/-- in a place that is there already, one new block and no more -/
def oneNew (h : H) (ids : List Nat) (slot : Nat) (h1 : H) : Bool := match Nat.blt slot h.length with
  | true => Nat.ble h1.length (ids.length + 1)
  | false => true
/-- a call by what is told of it and of the blocks that its arguments lead to -/
def viaRef (hs : HSpec) (args : List AV) (h : H) (slot : Nat) (R : Type) (K : AV → H → Option R) : Option R :=
  let ids := reachN h 100000 (refsL args) []
  sel (nodupN ids && (refsL args).all (memN ids) && ids.all (fun b => ((h.getD b .dead).refs).all (memN ids)) && ids.all (fun b => Nat.blt b h.length) && noIce h && !memN ids slot)
    (hs (renL (idxN ids) args) (ids.map fun b => (h.getD b .dead).ren (idxN ids)) R fun z h1 => sel (oneNew h ids slot h1) (K (renV (backN ids h.length slot) z) (mergeH h ids slot h1)) none) none

/-- calls: by what is told of the function: of its answer alone where nothing of the abstract heap is handed over and it is one of those told so, else of its blocks, too -/
def evFun (E : Env) (S : FuncId → Option Spec) (T : FuncId → Option HSpec) (_ : Nat) : CallF := fun f args h slot R K => match E.vs f && refFree args with
  | true => (match S f with | some sp => sp (canA E.T (parsOf E f) args) R fun v => K v h | none => none)
  | false => (match T f with | some hs => viaRef hs (canA E.T (parsOf E f) args) h slot R K | none => none)

/-! ### what a function hands back is shut -/
section
variable {R : Type}
def seqK (f : AV → (AV → Option R) → Option R) : List AV → (List AV → Option R) → Option R
  | [], K => K []
  | v :: r, K => f v fun v' => seqK f r fun r' => K (v' :: r')
def chunksN (sz : Nat) : Nat → List AV → List (List AV)
  | 0, _ => []
  | n + 1, l => l.take sz :: chunksN sz n (l.drop sz)
def frzV : Nat → H → AV → (AV → Option R) → Option R
  | 0, _, _, _ => none
  | n + 1, h, v, K => match v with
    | .undef | .ptr _ _ | .fn _ _ => none
    | .sl _ _ len sz => readSl h v fun c => match c with
      | .ints k xs => sel (decide (sz = 1)) (K (.fsl (.ints k xs))) none
      | .bools xs => sel (decide (sz = 1)) (K (.fsl (.bools xs))) none
      | .any cs => seqK (frzV n h) cs fun cs' => match sz with
        | 0 => none
        | 1 => K (.fsl (.any cs'))
        | sz => K (.fsl (.rows sz (chunksN sz len cs')))
      | .rows _ _ => none
    | .agg c => match c with
      | .any cs => seqK (frzV n h) cs fun cs' => K (.agg (.any cs'))
      | .rows _ _ => none
      | c => K (.agg c)
    | .tup vs => seqK (frzV n h) vs fun vs' => K (.tup vs')
    | .iface t x => frzV n h x fun x' => K (.iface t x')
    | v => K v
end
/-- a function by its text, as one that is told of -/
def evSpec (E : Env) (S : FuncId → Option Spec) (T : FuncId → Option HSpec) (O : Nat → Option PSpec) (d : Nat) (f : FuncId) : Spec := fun args _ K => evBody E (evFun E S T d) O f args [] fun v h => frzV 20 h v fun z => K (canR E.T (ressOf E f) z)
/-- a function by its text, as one that is told of with its blocks -/
def evH (E : Env) (S : FuncId → Option Spec) (T : FuncId → Option HSpec) (O : Nat → Option PSpec) (d : Nat) (f : FuncId) : HSpec := fun args h _ K => evBody E (evFun E S T d) O f args h fun v h1 => norm (some [0]) h.length ⟨[v], h1⟩ fun st => K (st.t.getD 0 .undef) st.h
end
end Go.Ev
