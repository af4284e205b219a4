/-
  NARROWER THAN 'FOR EVERY INPUT', by the rows' own cells (each row's printed sentence says how): FanoCounts: laid · FanoSizes: laid · FanoBuilds: laid · FanoTells: laid · FanoBack: laid · RrrCounts: laid · RrrSizes: laid · RrrBack: laid.
  DERIVED. THE GIVEN ROWS OF THIS SEAT. 8 by the template 'for every input the law returns true; each argument reads behind the call as it read before'; 0 by the template 'total and deterministic' (their statements: YtdojekdcdoaccaaDoorTotals.lean).
  GIVEN WITH THE SEED: the statements are not yours to turn. If you find one false, say at which input.
  Laid BY PROGRAM, IN A SANDBOX (cutbox-rows.mjs): the forced cells as the released guide's own fill.sh prints them over the translation 7a0f2f36a20db50c… (all of the seat's roots in one cut). By AI agents, Wed Nov 11 2026. No macro, syntax, notation, axiom, sorry.
-/
import Derived.Test.YtdojekdcdoaccaaDoorChecked
import GoSem.Claim
import GoSem.ClaimJoined
import GoSem.ClaimMapViews
import Derived.JoinedTies
import Derived.KernelRfl
namespace Go.Proofs.YtdojekdcdoaccaaDoor
/- THE CELL 'sum', in the pinned program and in every row, IS THE sha256 OF THE DUMP (.gsa) THAT YtdojekdcdoaccaaDoorProg.lean LOADS. Nothing in Lean hashes anything: it is a label: what it is worth is what the hold of that sum in a sandbox is worth. -/
noncomputable def Tryd.pinned : Pinned := { name := "ytdojekdcdoaccaadoor", sum := "7a0f2f36a20db50c59ba4c61755c6cb07c149971bfa775c579d875fe1b094695", checked := Tryd.checked }
namespace Rows
def none {H : Type} : Left H := { results := [], args := [] }

/- WHAT THE LISTED PACKAGE-LEVEL VARIABLES READ AS WHEN THE CALL BEGINS. Each datum BY PROGRAM (the guide's laid-datum.mjs) off the statement by which the dump's own 'gosem.cut.vars' lays the variable. In a bare row this is a premise. The card (YtdojekdcdoaccaaDoorCards.lean) ties it to the program's text. -/
def laid_math_bits_deBruijn64tab {H : Type} : DataW H := .agg [.lit (.int .u8 0), .lit (.int .u8 1), .lit (.int .u8 56), .lit (.int .u8 2), .lit (.int .u8 57), .lit (.int .u8 49), .lit (.int .u8 28), .lit (.int .u8 3), .lit (.int .u8 61), .lit (.int .u8 58), .lit (.int .u8 42), .lit (.int .u8 50), .lit (.int .u8 38), .lit (.int .u8 29), .lit (.int .u8 17), .lit (.int .u8 4), .lit (.int .u8 62), .lit (.int .u8 47), .lit (.int .u8 59), .lit (.int .u8 36), .lit (.int .u8 45), .lit (.int .u8 43), .lit (.int .u8 51), .lit (.int .u8 22), .lit (.int .u8 53), .lit (.int .u8 39), .lit (.int .u8 33), .lit (.int .u8 30), .lit (.int .u8 24), .lit (.int .u8 18), .lit (.int .u8 12), .lit (.int .u8 5), .lit (.int .u8 63), .lit (.int .u8 55), .lit (.int .u8 48), .lit (.int .u8 27), .lit (.int .u8 60), .lit (.int .u8 41), .lit (.int .u8 37), .lit (.int .u8 16), .lit (.int .u8 46), .lit (.int .u8 35), .lit (.int .u8 44), .lit (.int .u8 21), .lit (.int .u8 52), .lit (.int .u8 32), .lit (.int .u8 23), .lit (.int .u8 11), .lit (.int .u8 54), .lit (.int .u8 26), .lit (.int .u8 40), .lit (.int .u8 15), .lit (.int .u8 34), .lit (.int .u8 20), .lit (.int .u8 31), .lit (.int .u8 10), .lit (.int .u8 25), .lit (.int .u8 14), .lit (.int .u8 19), .lit (.int .u8 9), .lit (.int .u8 13), .lit (.int .u8 8), .lit (.int .u8 7), .lit (.int .u8 6)]
def laid_errors_errorType {H : Type} : DataW H := .iface "internal/reflectlite.rtype" (.agg [.ptr (.lit (.string [101, 114, 114, 111, 114]))])

/-- 'haystacklaw09.FanoCounts': WHATEVER THE INPUT: true; the input reads as it did. -/
def fanoCountsSpec : ChangeSpec := { name := "fanoCounts", fn := fun _ => fun
  | [d1, d2] => { results := [.lit (.bool true)], args := [d1, d2] }
  | _ => none }
def fanoCountsRow : OpenClaim := { program := "ytdojekdcdoaccaadoor", sum := "7a0f2f36a20db50c59ba4c61755c6cb07c149971bfa775c579d875fe1b094695", func := "haystack/haystacklaw09.FanoCounts", spec := "fanoCounts", inPlace := ["internal/reflectlite.ValueOf", "(internal/reflectlite.Value).Type", "(internal/reflectlite.Value).IsNil", "internal/reflectlite.TypeOf", "(internal/reflectlite.Value).Elem", "(internal/reflectlite.Value).Set"], unfollowed := true, recurses := true, named := ["math/bits.deBruijn64tab", "errors.errorType"], apart := false, laid := [("math/bits.deBruijn64tab", laid_math_bits_deBruijn64tab), ("errors.errorType", laid_errors_errorType)] }
def FanoCountsSaid : Prop := fanoCountsRow.holds Tryd.pinned (OpenSpec.ofChange fanoCountsSpec)

/-- ITS FALSE NEIGHBOUR: 'it returns false'. Refute it at one input. -/
def fanoCountsWrong : ChangeSpec := { name := "fanoCounts", fn := fun _ => fun
  | [d1, d2] => { results := [.lit (.bool false)], args := [d1, d2] }
  | _ => none }
def FanoCountsWrongFalsely : Prop := fanoCountsRow.holds Tryd.pinned (OpenSpec.ofChange fanoCountsWrong)

/-- 'haystacklaw09.FanoSizes': WHATEVER THE INPUT: true; the input reads as it did. -/
def fanoSizesSpec : ChangeSpec := { name := "fanoSizes", fn := fun _ => fun
  | [d] => { results := [.lit (.bool true)], args := [d] }
  | _ => none }
def fanoSizesRow : OpenClaim := { program := "ytdojekdcdoaccaadoor", sum := "7a0f2f36a20db50c59ba4c61755c6cb07c149971bfa775c579d875fe1b094695", func := "haystack/haystacklaw09.FanoSizes", spec := "fanoSizes", inPlace := ["internal/reflectlite.ValueOf", "(internal/reflectlite.Value).Type", "(internal/reflectlite.Value).IsNil", "internal/reflectlite.TypeOf", "(internal/reflectlite.Value).Elem", "(internal/reflectlite.Value).Set"], unfollowed := true, recurses := true, named := ["math/bits.deBruijn64tab", "errors.errorType"], apart := false, laid := [("math/bits.deBruijn64tab", laid_math_bits_deBruijn64tab), ("errors.errorType", laid_errors_errorType)] }
def FanoSizesSaid : Prop := fanoSizesRow.holds Tryd.pinned (OpenSpec.ofChange fanoSizesSpec)

/-- ITS FALSE NEIGHBOUR: 'it returns false'. Refute it at one input. -/
def fanoSizesWrong : ChangeSpec := { name := "fanoSizes", fn := fun _ => fun
  | [d] => { results := [.lit (.bool false)], args := [d] }
  | _ => none }
def FanoSizesWrongFalsely : Prop := fanoSizesRow.holds Tryd.pinned (OpenSpec.ofChange fanoSizesWrong)

/-- 'haystacklaw09.FanoBuilds': WHATEVER THE INPUT: true; the input reads as it did. -/
def fanoBuildsSpec : ChangeSpec := { name := "fanoBuilds", fn := fun _ => fun
  | [d] => { results := [.lit (.bool true)], args := [d] }
  | _ => none }
def fanoBuildsRow : OpenClaim := { program := "ytdojekdcdoaccaadoor", sum := "7a0f2f36a20db50c59ba4c61755c6cb07c149971bfa775c579d875fe1b094695", func := "haystack/haystacklaw09.FanoBuilds", spec := "fanoBuilds", inPlace := ["internal/reflectlite.ValueOf", "(internal/reflectlite.Value).Type", "(internal/reflectlite.Value).IsNil", "internal/reflectlite.TypeOf", "(internal/reflectlite.Value).Elem", "(internal/reflectlite.Value).Set"], unfollowed := true, recurses := true, named := ["math/bits.deBruijn64tab", "errors.errorType"], apart := false, laid := [("math/bits.deBruijn64tab", laid_math_bits_deBruijn64tab), ("errors.errorType", laid_errors_errorType)] }
def FanoBuildsSaid : Prop := fanoBuildsRow.holds Tryd.pinned (OpenSpec.ofChange fanoBuildsSpec)

/-- ITS FALSE NEIGHBOUR: 'it returns false'. Refute it at one input. -/
def fanoBuildsWrong : ChangeSpec := { name := "fanoBuilds", fn := fun _ => fun
  | [d] => { results := [.lit (.bool false)], args := [d] }
  | _ => none }
def FanoBuildsWrongFalsely : Prop := fanoBuildsRow.holds Tryd.pinned (OpenSpec.ofChange fanoBuildsWrong)

/-- 'haystacklaw09.FanoTells': WHATEVER THE INPUT: true; the input reads as it did. -/
def fanoTellsSpec : ChangeSpec := { name := "fanoTells", fn := fun _ => fun
  | [d1, d2, d3] => { results := [.lit (.bool true)], args := [d1, d2, d3] }
  | _ => none }
def fanoTellsRow : OpenClaim := { program := "ytdojekdcdoaccaadoor", sum := "7a0f2f36a20db50c59ba4c61755c6cb07c149971bfa775c579d875fe1b094695", func := "haystack/haystacklaw09.FanoTells", spec := "fanoTells", inPlace := ["internal/reflectlite.ValueOf", "(internal/reflectlite.Value).Type", "(internal/reflectlite.Value).IsNil", "internal/reflectlite.TypeOf", "(internal/reflectlite.Value).Elem", "(internal/reflectlite.Value).Set"], unfollowed := true, recurses := true, named := ["math/bits.deBruijn64tab", "errors.errorType"], apart := false, laid := [("math/bits.deBruijn64tab", laid_math_bits_deBruijn64tab), ("errors.errorType", laid_errors_errorType)] }
def FanoTellsSaid : Prop := fanoTellsRow.holds Tryd.pinned (OpenSpec.ofChange fanoTellsSpec)

/-- ITS FALSE NEIGHBOUR: 'it returns false'. Refute it at one input. -/
def fanoTellsWrong : ChangeSpec := { name := "fanoTells", fn := fun _ => fun
  | [d1, d2, d3] => { results := [.lit (.bool false)], args := [d1, d2, d3] }
  | _ => none }
def FanoTellsWrongFalsely : Prop := fanoTellsRow.holds Tryd.pinned (OpenSpec.ofChange fanoTellsWrong)

/-- 'haystacklaw09.FanoBack': WHATEVER THE INPUT: true; the input reads as it did. -/
def fanoBackSpec : ChangeSpec := { name := "fanoBack", fn := fun _ => fun
  | [d1, d2, d3] => { results := [.lit (.bool true)], args := [d1, d2, d3] }
  | _ => none }
def fanoBackRow : OpenClaim := { program := "ytdojekdcdoaccaadoor", sum := "7a0f2f36a20db50c59ba4c61755c6cb07c149971bfa775c579d875fe1b094695", func := "haystack/haystacklaw09.FanoBack", spec := "fanoBack", inPlace := ["internal/reflectlite.ValueOf", "(internal/reflectlite.Value).Type", "(internal/reflectlite.Value).IsNil", "internal/reflectlite.TypeOf", "(internal/reflectlite.Value).Elem", "(internal/reflectlite.Value).Set"], unfollowed := true, recurses := true, named := ["math/bits.deBruijn64tab", "errors.errorType"], apart := false, laid := [("math/bits.deBruijn64tab", laid_math_bits_deBruijn64tab), ("errors.errorType", laid_errors_errorType)] }
def FanoBackSaid : Prop := fanoBackRow.holds Tryd.pinned (OpenSpec.ofChange fanoBackSpec)

/-- ITS FALSE NEIGHBOUR: 'it returns false'. Refute it at one input. -/
def fanoBackWrong : ChangeSpec := { name := "fanoBack", fn := fun _ => fun
  | [d1, d2, d3] => { results := [.lit (.bool false)], args := [d1, d2, d3] }
  | _ => none }
def FanoBackWrongFalsely : Prop := fanoBackRow.holds Tryd.pinned (OpenSpec.ofChange fanoBackWrong)

/-- 'haystacklaw08.RrrCounts': WHATEVER THE INPUT: true; the input reads as it did. -/
def rrrCountsSpec : ChangeSpec := { name := "rrrCounts", fn := fun _ => fun
  | [d1, d2] => { results := [.lit (.bool true)], args := [d1, d2] }
  | _ => none }
def rrrCountsRow : OpenClaim := { program := "ytdojekdcdoaccaadoor", sum := "7a0f2f36a20db50c59ba4c61755c6cb07c149971bfa775c579d875fe1b094695", func := "haystack/haystacklaw08.RrrCounts", spec := "rrrCounts", inPlace := ["internal/reflectlite.ValueOf", "(internal/reflectlite.Value).Type", "(internal/reflectlite.Value).IsNil", "internal/reflectlite.TypeOf", "(internal/reflectlite.Value).Elem", "(internal/reflectlite.Value).Set"], unfollowed := true, recurses := true, named := ["errors.errorType", "math/bits.deBruijn64tab"], apart := false, laid := [("math/bits.deBruijn64tab", laid_math_bits_deBruijn64tab), ("errors.errorType", laid_errors_errorType)] }
def RrrCountsSaid : Prop := rrrCountsRow.holds Tryd.pinned (OpenSpec.ofChange rrrCountsSpec)

/-- ITS FALSE NEIGHBOUR: 'it returns false'. Refute it at one input. -/
def rrrCountsWrong : ChangeSpec := { name := "rrrCounts", fn := fun _ => fun
  | [d1, d2] => { results := [.lit (.bool false)], args := [d1, d2] }
  | _ => none }
def RrrCountsWrongFalsely : Prop := rrrCountsRow.holds Tryd.pinned (OpenSpec.ofChange rrrCountsWrong)

/-- 'haystacklaw08.RrrSizes': WHATEVER THE INPUT: true; the input reads as it did. -/
def rrrSizesSpec : ChangeSpec := { name := "rrrSizes", fn := fun _ => fun
  | [d] => { results := [.lit (.bool true)], args := [d] }
  | _ => none }
def rrrSizesRow : OpenClaim := { program := "ytdojekdcdoaccaadoor", sum := "7a0f2f36a20db50c59ba4c61755c6cb07c149971bfa775c579d875fe1b094695", func := "haystack/haystacklaw08.RrrSizes", spec := "rrrSizes", inPlace := ["internal/reflectlite.ValueOf", "(internal/reflectlite.Value).Type", "(internal/reflectlite.Value).IsNil", "internal/reflectlite.TypeOf", "(internal/reflectlite.Value).Elem", "(internal/reflectlite.Value).Set"], unfollowed := true, recurses := true, named := ["errors.errorType", "math/bits.deBruijn64tab"], apart := false, laid := [("math/bits.deBruijn64tab", laid_math_bits_deBruijn64tab), ("errors.errorType", laid_errors_errorType)] }
def RrrSizesSaid : Prop := rrrSizesRow.holds Tryd.pinned (OpenSpec.ofChange rrrSizesSpec)

/-- ITS FALSE NEIGHBOUR: 'it returns false'. Refute it at one input. -/
def rrrSizesWrong : ChangeSpec := { name := "rrrSizes", fn := fun _ => fun
  | [d] => { results := [.lit (.bool false)], args := [d] }
  | _ => none }
def RrrSizesWrongFalsely : Prop := rrrSizesRow.holds Tryd.pinned (OpenSpec.ofChange rrrSizesWrong)

/-- 'haystacklaw08.RrrBack': WHATEVER THE INPUT: true; the input reads as it did. -/
def rrrBackSpec : ChangeSpec := { name := "rrrBack", fn := fun _ => fun
  | [d1, d2, d3] => { results := [.lit (.bool true)], args := [d1, d2, d3] }
  | _ => none }
def rrrBackRow : OpenClaim := { program := "ytdojekdcdoaccaadoor", sum := "7a0f2f36a20db50c59ba4c61755c6cb07c149971bfa775c579d875fe1b094695", func := "haystack/haystacklaw08.RrrBack", spec := "rrrBack", inPlace := ["internal/reflectlite.ValueOf", "(internal/reflectlite.Value).Type", "(internal/reflectlite.Value).IsNil", "internal/reflectlite.TypeOf", "(internal/reflectlite.Value).Elem", "(internal/reflectlite.Value).Set"], unfollowed := true, recurses := true, named := ["errors.errorType", "math/bits.deBruijn64tab"], apart := false, laid := [("math/bits.deBruijn64tab", laid_math_bits_deBruijn64tab), ("errors.errorType", laid_errors_errorType)] }
def RrrBackSaid : Prop := rrrBackRow.holds Tryd.pinned (OpenSpec.ofChange rrrBackSpec)

/-- ITS FALSE NEIGHBOUR: 'it returns false'. Refute it at one input. -/
def rrrBackWrong : ChangeSpec := { name := "rrrBack", fn := fun _ => fun
  | [d1, d2, d3] => { results := [.lit (.bool false)], args := [d1, d2, d3] }
  | _ => none }
def RrrBackWrongFalsely : Prop := rrrBackRow.holds Tryd.pinned (OpenSpec.ofChange rrrBackWrong)

/- THE SECOND FORM. 'bulk': how many values and letters a reading holds, each counted each time it is reached (what is shared counts as often as it is met; a slice's spare places count too). A statement '..UptoSaid' is the law's where the arguments, and the package variables that the reading takes, are together of bulk at most 1048576: NARROWER than '..Said'. Prove '..Said' where nothing that the law and all that it calls make is longer than what came in: it says more and counts as full. Else prove '..UptoSaid'. A law counts once. -/
mutual
def uptoBulk {H : Type} : DataW H → Nat
  | .lit (.string bytes) => bytes.length + 1
  | .lit _ => 1
  | .nil => 1
  | .ptr d => uptoBulk d + 1
  | .slice elems spare => uptoBulkAll elems + uptoBulkAll spare + 1
  | .agg parts => uptoBulkAll parts + 1
  | .iface _ d => uptoBulk d + 1
  | .map entries => uptoBulkEntries entries + 1
  | .held _ => 1
def uptoBulkAll {H : Type} : List (DataW H) → Nat
  | [] => 0
  | d :: r => uptoBulk d + uptoBulkAll r
def uptoBulkEntries {H : Type} : List (Lit × DataW H) → Nat
  | [] => 0
  | x :: r => uptoBulkEntry x + uptoBulkEntries r
def uptoBulkEntry {H : Type} : Lit × DataW H → Nat
  | (.string bytes, d) => bytes.length + uptoBulk d + 1
  | (_, d) => uptoBulk d + 1
 end
def uptoSmall : (H : Type) → List (DataW H) → Bool := fun _ ds => decide (uptoBulkAll ds ≤ 1048576)
def OpenSpec.upto (s : _root_.Go.ChangeSpec) : _root_.Go.OpenSpec := { _root_.Go.OpenSpec.ofChange s with cond := some uptoSmall }

/-- 'haystacklaw09.FanoCounts', WHERE WHAT IT READS IS OF BULK AT MOST 1048576: true; the input reads as it did. -/
def fanoCountsUptoRow : OpenClaim := { program := "ytdojekdcdoaccaadoor", sum := "7a0f2f36a20db50c59ba4c61755c6cb07c149971bfa775c579d875fe1b094695", func := "haystack/haystacklaw09.FanoCounts", spec := "fanoCounts", inPlace := ["internal/reflectlite.ValueOf", "(internal/reflectlite.Value).Type", "(internal/reflectlite.Value).IsNil", "internal/reflectlite.TypeOf", "(internal/reflectlite.Value).Elem", "(internal/reflectlite.Value).Set"], unfollowed := true, recurses := true, named := ["math/bits.deBruijn64tab", "errors.errorType"], apart := false, laid := [("math/bits.deBruijn64tab", laid_math_bits_deBruijn64tab), ("errors.errorType", laid_errors_errorType)], narrowed := true }
def FanoCountsUptoSaid : Prop := fanoCountsUptoRow.holds Tryd.pinned (OpenSpec.upto fanoCountsSpec)

/-- 'haystacklaw09.FanoSizes', WHERE WHAT IT READS IS OF BULK AT MOST 1048576: true; the input reads as it did. -/
def fanoSizesUptoRow : OpenClaim := { program := "ytdojekdcdoaccaadoor", sum := "7a0f2f36a20db50c59ba4c61755c6cb07c149971bfa775c579d875fe1b094695", func := "haystack/haystacklaw09.FanoSizes", spec := "fanoSizes", inPlace := ["internal/reflectlite.ValueOf", "(internal/reflectlite.Value).Type", "(internal/reflectlite.Value).IsNil", "internal/reflectlite.TypeOf", "(internal/reflectlite.Value).Elem", "(internal/reflectlite.Value).Set"], unfollowed := true, recurses := true, named := ["math/bits.deBruijn64tab", "errors.errorType"], apart := false, laid := [("math/bits.deBruijn64tab", laid_math_bits_deBruijn64tab), ("errors.errorType", laid_errors_errorType)], narrowed := true }
def FanoSizesUptoSaid : Prop := fanoSizesUptoRow.holds Tryd.pinned (OpenSpec.upto fanoSizesSpec)

/-- 'haystacklaw09.FanoBuilds', WHERE WHAT IT READS IS OF BULK AT MOST 1048576: true; the input reads as it did. -/
def fanoBuildsUptoRow : OpenClaim := { program := "ytdojekdcdoaccaadoor", sum := "7a0f2f36a20db50c59ba4c61755c6cb07c149971bfa775c579d875fe1b094695", func := "haystack/haystacklaw09.FanoBuilds", spec := "fanoBuilds", inPlace := ["internal/reflectlite.ValueOf", "(internal/reflectlite.Value).Type", "(internal/reflectlite.Value).IsNil", "internal/reflectlite.TypeOf", "(internal/reflectlite.Value).Elem", "(internal/reflectlite.Value).Set"], unfollowed := true, recurses := true, named := ["math/bits.deBruijn64tab", "errors.errorType"], apart := false, laid := [("math/bits.deBruijn64tab", laid_math_bits_deBruijn64tab), ("errors.errorType", laid_errors_errorType)], narrowed := true }
def FanoBuildsUptoSaid : Prop := fanoBuildsUptoRow.holds Tryd.pinned (OpenSpec.upto fanoBuildsSpec)

/-- 'haystacklaw09.FanoTells', WHERE WHAT IT READS IS OF BULK AT MOST 1048576: true; the input reads as it did. -/
def fanoTellsUptoRow : OpenClaim := { program := "ytdojekdcdoaccaadoor", sum := "7a0f2f36a20db50c59ba4c61755c6cb07c149971bfa775c579d875fe1b094695", func := "haystack/haystacklaw09.FanoTells", spec := "fanoTells", inPlace := ["internal/reflectlite.ValueOf", "(internal/reflectlite.Value).Type", "(internal/reflectlite.Value).IsNil", "internal/reflectlite.TypeOf", "(internal/reflectlite.Value).Elem", "(internal/reflectlite.Value).Set"], unfollowed := true, recurses := true, named := ["math/bits.deBruijn64tab", "errors.errorType"], apart := false, laid := [("math/bits.deBruijn64tab", laid_math_bits_deBruijn64tab), ("errors.errorType", laid_errors_errorType)], narrowed := true }
def FanoTellsUptoSaid : Prop := fanoTellsUptoRow.holds Tryd.pinned (OpenSpec.upto fanoTellsSpec)

/-- 'haystacklaw09.FanoBack', WHERE WHAT IT READS IS OF BULK AT MOST 1048576: true; the input reads as it did. -/
def fanoBackUptoRow : OpenClaim := { program := "ytdojekdcdoaccaadoor", sum := "7a0f2f36a20db50c59ba4c61755c6cb07c149971bfa775c579d875fe1b094695", func := "haystack/haystacklaw09.FanoBack", spec := "fanoBack", inPlace := ["internal/reflectlite.ValueOf", "(internal/reflectlite.Value).Type", "(internal/reflectlite.Value).IsNil", "internal/reflectlite.TypeOf", "(internal/reflectlite.Value).Elem", "(internal/reflectlite.Value).Set"], unfollowed := true, recurses := true, named := ["math/bits.deBruijn64tab", "errors.errorType"], apart := false, laid := [("math/bits.deBruijn64tab", laid_math_bits_deBruijn64tab), ("errors.errorType", laid_errors_errorType)], narrowed := true }
def FanoBackUptoSaid : Prop := fanoBackUptoRow.holds Tryd.pinned (OpenSpec.upto fanoBackSpec)

/-- 'haystacklaw08.RrrCounts', WHERE WHAT IT READS IS OF BULK AT MOST 1048576: true; the input reads as it did. -/
def rrrCountsUptoRow : OpenClaim := { program := "ytdojekdcdoaccaadoor", sum := "7a0f2f36a20db50c59ba4c61755c6cb07c149971bfa775c579d875fe1b094695", func := "haystack/haystacklaw08.RrrCounts", spec := "rrrCounts", inPlace := ["internal/reflectlite.ValueOf", "(internal/reflectlite.Value).Type", "(internal/reflectlite.Value).IsNil", "internal/reflectlite.TypeOf", "(internal/reflectlite.Value).Elem", "(internal/reflectlite.Value).Set"], unfollowed := true, recurses := true, named := ["errors.errorType", "math/bits.deBruijn64tab"], apart := false, laid := [("math/bits.deBruijn64tab", laid_math_bits_deBruijn64tab), ("errors.errorType", laid_errors_errorType)], narrowed := true }
def RrrCountsUptoSaid : Prop := rrrCountsUptoRow.holds Tryd.pinned (OpenSpec.upto rrrCountsSpec)

/-- 'haystacklaw08.RrrSizes', WHERE WHAT IT READS IS OF BULK AT MOST 1048576: true; the input reads as it did. -/
def rrrSizesUptoRow : OpenClaim := { program := "ytdojekdcdoaccaadoor", sum := "7a0f2f36a20db50c59ba4c61755c6cb07c149971bfa775c579d875fe1b094695", func := "haystack/haystacklaw08.RrrSizes", spec := "rrrSizes", inPlace := ["internal/reflectlite.ValueOf", "(internal/reflectlite.Value).Type", "(internal/reflectlite.Value).IsNil", "internal/reflectlite.TypeOf", "(internal/reflectlite.Value).Elem", "(internal/reflectlite.Value).Set"], unfollowed := true, recurses := true, named := ["errors.errorType", "math/bits.deBruijn64tab"], apart := false, laid := [("math/bits.deBruijn64tab", laid_math_bits_deBruijn64tab), ("errors.errorType", laid_errors_errorType)], narrowed := true }
def RrrSizesUptoSaid : Prop := rrrSizesUptoRow.holds Tryd.pinned (OpenSpec.upto rrrSizesSpec)

/-- 'haystacklaw08.RrrBack', WHERE WHAT IT READS IS OF BULK AT MOST 1048576: true; the input reads as it did. -/
def rrrBackUptoRow : OpenClaim := { program := "ytdojekdcdoaccaadoor", sum := "7a0f2f36a20db50c59ba4c61755c6cb07c149971bfa775c579d875fe1b094695", func := "haystack/haystacklaw08.RrrBack", spec := "rrrBack", inPlace := ["internal/reflectlite.ValueOf", "(internal/reflectlite.Value).Type", "(internal/reflectlite.Value).IsNil", "internal/reflectlite.TypeOf", "(internal/reflectlite.Value).Elem", "(internal/reflectlite.Value).Set"], unfollowed := true, recurses := true, named := ["errors.errorType", "math/bits.deBruijn64tab"], apart := false, laid := [("math/bits.deBruijn64tab", laid_math_bits_deBruijn64tab), ("errors.errorType", laid_errors_errorType)], narrowed := true }
def RrrBackUptoSaid : Prop := rrrBackUptoRow.holds Tryd.pinned (OpenSpec.upto rrrBackSpec)

end Rows
end Go.Proofs.YtdojekdcdoaccaaDoor
