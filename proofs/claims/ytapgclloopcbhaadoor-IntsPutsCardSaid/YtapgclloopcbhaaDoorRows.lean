/-
  NARROWER THAN 'FOR EVERY INPUT', by the rows' own cells (each row's printed sentence says how): PlainCounts: laid · PlainBuilds: laid · PlainTells: laid · PlainBack: laid · IntsLeast: laid · IntsTell: laid · IntsBack: laid · IntsPuts: laid · ConfigBack: laid · ConfigApart: laid · ConfigTells: laid · ConfigAll: laid.
  DERIVED. THE GIVEN ROWS OF THIS SEAT. 12 by the template 'for every input the law returns true; each argument reads behind the call as it read before'; 0 by the template 'total and deterministic' (their statements: YtapgclloopcbhaaDoorTotals.lean).
  GIVEN WITH THE SEED: the statements are not yours to turn. If you find one false, say at which input.
  Laid BY PROGRAM, IN A SANDBOX (cutbox-rows.mjs): the forced cells as the released guide's own fill.sh prints them over the translation 57b4e19dfc31cb11… (all of the seat's roots in one cut). By AI agents, Wed Nov 11 2026. No macro, syntax, notation, axiom, sorry.
-/
import Derived.Test.YtapgclloopcbhaaDoorChecked
import GoSem.Claim
import GoSem.ClaimJoined
import GoSem.ClaimMapViews
import Derived.JoinedTies
import Derived.KernelRfl
namespace Go.Proofs.YtapgclloopcbhaaDoor
/- THE CELL 'sum', in the pinned program and in every row, IS THE sha256 OF THE DUMP (.gsa) THAT YtapgclloopcbhaaDoorProg.lean LOADS. Nothing in Lean hashes anything: it is a label: what it is worth is what the hold of that sum in a sandbox is worth. -/
noncomputable def Tryd.pinned : Pinned := { name := "ytapgclloopcbhaadoor", sum := "57b4e19dfc31cb11bdcf46c028f3acdb40f64edaeb8a1ff8e48ae1cfce964c48", checked := Tryd.checked }
namespace Rows
def none {H : Type} : Left H := { results := [], args := [] }

/- WHAT THE LISTED PACKAGE-LEVEL VARIABLES READ AS WHEN THE CALL BEGINS. Each datum BY PROGRAM (the guide's laid-datum.mjs) off the statement by which the dump's own 'gosem.cut.vars' lays the variable. In a bare row this is a premise. The card (YtapgclloopcbhaaDoorCards.lean) ties it to the program's text. -/
def laid_math_bits_deBruijn64tab {H : Type} : DataW H := .agg [.lit (.int .u8 0), .lit (.int .u8 1), .lit (.int .u8 56), .lit (.int .u8 2), .lit (.int .u8 57), .lit (.int .u8 49), .lit (.int .u8 28), .lit (.int .u8 3), .lit (.int .u8 61), .lit (.int .u8 58), .lit (.int .u8 42), .lit (.int .u8 50), .lit (.int .u8 38), .lit (.int .u8 29), .lit (.int .u8 17), .lit (.int .u8 4), .lit (.int .u8 62), .lit (.int .u8 47), .lit (.int .u8 59), .lit (.int .u8 36), .lit (.int .u8 45), .lit (.int .u8 43), .lit (.int .u8 51), .lit (.int .u8 22), .lit (.int .u8 53), .lit (.int .u8 39), .lit (.int .u8 33), .lit (.int .u8 30), .lit (.int .u8 24), .lit (.int .u8 18), .lit (.int .u8 12), .lit (.int .u8 5), .lit (.int .u8 63), .lit (.int .u8 55), .lit (.int .u8 48), .lit (.int .u8 27), .lit (.int .u8 60), .lit (.int .u8 41), .lit (.int .u8 37), .lit (.int .u8 16), .lit (.int .u8 46), .lit (.int .u8 35), .lit (.int .u8 44), .lit (.int .u8 21), .lit (.int .u8 52), .lit (.int .u8 32), .lit (.int .u8 23), .lit (.int .u8 11), .lit (.int .u8 54), .lit (.int .u8 26), .lit (.int .u8 40), .lit (.int .u8 15), .lit (.int .u8 34), .lit (.int .u8 20), .lit (.int .u8 31), .lit (.int .u8 10), .lit (.int .u8 25), .lit (.int .u8 14), .lit (.int .u8 19), .lit (.int .u8 9), .lit (.int .u8 13), .lit (.int .u8 8), .lit (.int .u8 7), .lit (.int .u8 6)]
def laid_errors_errorType {H : Type} : DataW H := .iface "internal/reflectlite.rtype" (.agg [.ptr (.lit (.string [101, 114, 114, 111, 114]))])
def laid_math_bits_deBruijn32tab {H : Type} : DataW H := .agg [.lit (.int .u8 0), .lit (.int .u8 1), .lit (.int .u8 28), .lit (.int .u8 2), .lit (.int .u8 29), .lit (.int .u8 14), .lit (.int .u8 24), .lit (.int .u8 3), .lit (.int .u8 30), .lit (.int .u8 22), .lit (.int .u8 20), .lit (.int .u8 15), .lit (.int .u8 25), .lit (.int .u8 17), .lit (.int .u8 4), .lit (.int .u8 8), .lit (.int .u8 31), .lit (.int .u8 27), .lit (.int .u8 13), .lit (.int .u8 23), .lit (.int .u8 21), .lit (.int .u8 19), .lit (.int .u8 16), .lit (.int .u8 7), .lit (.int .u8 26), .lit (.int .u8 12), .lit (.int .u8 18), .lit (.int .u8 6), .lit (.int .u8 11), .lit (.int .u8 5), .lit (.int .u8 10), .lit (.int .u8 9)]
def laid_internal_strconv_uint64pow10 {H : Type} : DataW H := .agg [.lit (.int .u64 1), .lit (.int .u64 10), .lit (.int .u64 100), .lit (.int .u64 1000), .lit (.int .u64 10000), .lit (.int .u64 100000), .lit (.int .u64 1000000), .lit (.int .u64 10000000), .lit (.int .u64 100000000), .lit (.int .u64 1000000000), .lit (.int .u64 10000000000), .lit (.int .u64 100000000000), .lit (.int .u64 1000000000000), .lit (.int .u64 10000000000000), .lit (.int .u64 100000000000000), .lit (.int .u64 1000000000000000), .lit (.int .u64 10000000000000000), .lit (.int .u64 100000000000000000), .lit (.int .u64 1000000000000000000), .lit (.int .u64 10000000000000000000)]

/-- 'haystacklaw07.PlainCounts': WHATEVER THE INPUT: true; the input reads as it did. -/
def plainCountsSpec : ChangeSpec := { name := "plainCounts", fn := fun _ => fun
  | [d1, d2] => { results := [.lit (.bool true)], args := [d1, d2] }
  | _ => none }
def plainCountsRow : OpenClaim := { program := "ytapgclloopcbhaadoor", sum := "57b4e19dfc31cb11bdcf46c028f3acdb40f64edaeb8a1ff8e48ae1cfce964c48", func := "haystack/haystacklaw07.PlainCounts", spec := "plainCounts", named := ["math/bits.deBruijn64tab"], apart := false, laid := [("math/bits.deBruijn64tab", laid_math_bits_deBruijn64tab)] }
def PlainCountsSaid : Prop := plainCountsRow.holds Tryd.pinned (OpenSpec.ofChange plainCountsSpec)

/-- ITS FALSE NEIGHBOUR: 'it returns false'. Refute it at one input. -/
def plainCountsWrong : ChangeSpec := { name := "plainCounts", fn := fun _ => fun
  | [d1, d2] => { results := [.lit (.bool false)], args := [d1, d2] }
  | _ => none }
def PlainCountsWrongFalsely : Prop := plainCountsRow.holds Tryd.pinned (OpenSpec.ofChange plainCountsWrong)

/-- 'haystacklaw07.PlainBuilds': WHATEVER THE INPUT: true; the input reads as it did. -/
def plainBuildsSpec : ChangeSpec := { name := "plainBuilds", fn := fun _ => fun
  | [d] => { results := [.lit (.bool true)], args := [d] }
  | _ => none }
def plainBuildsRow : OpenClaim := { program := "ytapgclloopcbhaadoor", sum := "57b4e19dfc31cb11bdcf46c028f3acdb40f64edaeb8a1ff8e48ae1cfce964c48", func := "haystack/haystacklaw07.PlainBuilds", spec := "plainBuilds", named := ["math/bits.deBruijn64tab"], apart := false, laid := [("math/bits.deBruijn64tab", laid_math_bits_deBruijn64tab)] }
def PlainBuildsSaid : Prop := plainBuildsRow.holds Tryd.pinned (OpenSpec.ofChange plainBuildsSpec)

/-- ITS FALSE NEIGHBOUR: 'it returns false'. Refute it at one input. -/
def plainBuildsWrong : ChangeSpec := { name := "plainBuilds", fn := fun _ => fun
  | [d] => { results := [.lit (.bool false)], args := [d] }
  | _ => none }
def PlainBuildsWrongFalsely : Prop := plainBuildsRow.holds Tryd.pinned (OpenSpec.ofChange plainBuildsWrong)

/-- 'haystacklaw07.PlainTells': WHATEVER THE INPUT: true; the input reads as it did. -/
def plainTellsSpec : ChangeSpec := { name := "plainTells", fn := fun _ => fun
  | [d1, d2, d3] => { results := [.lit (.bool true)], args := [d1, d2, d3] }
  | _ => none }
def plainTellsRow : OpenClaim := { program := "ytapgclloopcbhaadoor", sum := "57b4e19dfc31cb11bdcf46c028f3acdb40f64edaeb8a1ff8e48ae1cfce964c48", func := "haystack/haystacklaw07.PlainTells", spec := "plainTells", named := ["math/bits.deBruijn64tab"], apart := false, laid := [("math/bits.deBruijn64tab", laid_math_bits_deBruijn64tab)] }
def PlainTellsSaid : Prop := plainTellsRow.holds Tryd.pinned (OpenSpec.ofChange plainTellsSpec)

/-- ITS FALSE NEIGHBOUR: 'it returns false'. Refute it at one input. -/
def plainTellsWrong : ChangeSpec := { name := "plainTells", fn := fun _ => fun
  | [d1, d2, d3] => { results := [.lit (.bool false)], args := [d1, d2, d3] }
  | _ => none }
def PlainTellsWrongFalsely : Prop := plainTellsRow.holds Tryd.pinned (OpenSpec.ofChange plainTellsWrong)

/-- 'haystacklaw07.PlainBack': WHATEVER THE INPUT: true; the input reads as it did. -/
def plainBackSpec : ChangeSpec := { name := "plainBack", fn := fun _ => fun
  | [d1, d2, d3] => { results := [.lit (.bool true)], args := [d1, d2, d3] }
  | _ => none }
def plainBackRow : OpenClaim := { program := "ytapgclloopcbhaadoor", sum := "57b4e19dfc31cb11bdcf46c028f3acdb40f64edaeb8a1ff8e48ae1cfce964c48", func := "haystack/haystacklaw07.PlainBack", spec := "plainBack", named := ["math/bits.deBruijn64tab"], apart := false, laid := [("math/bits.deBruijn64tab", laid_math_bits_deBruijn64tab)] }
def PlainBackSaid : Prop := plainBackRow.holds Tryd.pinned (OpenSpec.ofChange plainBackSpec)

/-- ITS FALSE NEIGHBOUR: 'it returns false'. Refute it at one input. -/
def plainBackWrong : ChangeSpec := { name := "plainBack", fn := fun _ => fun
  | [d1, d2, d3] => { results := [.lit (.bool false)], args := [d1, d2, d3] }
  | _ => none }
def PlainBackWrongFalsely : Prop := plainBackRow.holds Tryd.pinned (OpenSpec.ofChange plainBackWrong)

/-- 'haystacklaw03.IntsLeast': WHATEVER THE INPUT: true; the input reads as it did. -/
def intsLeastSpec : ChangeSpec := { name := "intsLeast", fn := fun _ => fun
  | [d] => { results := [.lit (.bool true)], args := [d] }
  | _ => none }
def intsLeastRow : OpenClaim := { program := "ytapgclloopcbhaadoor", sum := "57b4e19dfc31cb11bdcf46c028f3acdb40f64edaeb8a1ff8e48ae1cfce964c48", func := "haystack/haystacklaw03.IntsLeast", spec := "intsLeast", inPlace := ["internal/reflectlite.ValueOf", "(internal/reflectlite.Value).Type", "(internal/reflectlite.Value).IsNil", "internal/reflectlite.TypeOf", "(internal/reflectlite.Value).Elem", "(internal/reflectlite.Value).Set"], unfollowed := true, recurses := true, named := ["errors.errorType"], apart := false, laid := [("errors.errorType", laid_errors_errorType)] }
def IntsLeastSaid : Prop := intsLeastRow.holds Tryd.pinned (OpenSpec.ofChange intsLeastSpec)

/-- ITS FALSE NEIGHBOUR: 'it returns false'. Refute it at one input. -/
def intsLeastWrong : ChangeSpec := { name := "intsLeast", fn := fun _ => fun
  | [d] => { results := [.lit (.bool false)], args := [d] }
  | _ => none }
def IntsLeastWrongFalsely : Prop := intsLeastRow.holds Tryd.pinned (OpenSpec.ofChange intsLeastWrong)

/-- 'haystacklaw03.IntsTell': WHATEVER THE INPUT: true; the input reads as it did. -/
def intsTellSpec : ChangeSpec := { name := "intsTell", fn := fun _ => fun
  | [d1, d2, d3, d4, d5] => { results := [.lit (.bool true)], args := [d1, d2, d3, d4, d5] }
  | _ => none }
def intsTellRow : OpenClaim := { program := "ytapgclloopcbhaadoor", sum := "57b4e19dfc31cb11bdcf46c028f3acdb40f64edaeb8a1ff8e48ae1cfce964c48", func := "haystack/haystacklaw03.IntsTell", spec := "intsTell", inPlace := ["internal/reflectlite.ValueOf", "(internal/reflectlite.Value).Type", "(internal/reflectlite.Value).IsNil", "internal/reflectlite.TypeOf", "(internal/reflectlite.Value).Elem", "(internal/reflectlite.Value).Set"], unfollowed := true, recurses := true, named := ["errors.errorType"], apart := false, laid := [("errors.errorType", laid_errors_errorType)] }
def IntsTellSaid : Prop := intsTellRow.holds Tryd.pinned (OpenSpec.ofChange intsTellSpec)

/-- ITS FALSE NEIGHBOUR: 'it returns false'. Refute it at one input. -/
def intsTellWrong : ChangeSpec := { name := "intsTell", fn := fun _ => fun
  | [d1, d2, d3, d4, d5] => { results := [.lit (.bool false)], args := [d1, d2, d3, d4, d5] }
  | _ => none }
def IntsTellWrongFalsely : Prop := intsTellRow.holds Tryd.pinned (OpenSpec.ofChange intsTellWrong)

/-- 'haystacklaw03.IntsBack': WHATEVER THE INPUT: true; the input reads as it did. -/
def intsBackSpec : ChangeSpec := { name := "intsBack", fn := fun _ => fun
  | [d1, d2] => { results := [.lit (.bool true)], args := [d1, d2] }
  | _ => none }
def intsBackRow : OpenClaim := { program := "ytapgclloopcbhaadoor", sum := "57b4e19dfc31cb11bdcf46c028f3acdb40f64edaeb8a1ff8e48ae1cfce964c48", func := "haystack/haystacklaw03.IntsBack", spec := "intsBack", inPlace := ["internal/reflectlite.ValueOf", "(internal/reflectlite.Value).Type", "(internal/reflectlite.Value).IsNil", "internal/reflectlite.TypeOf", "(internal/reflectlite.Value).Elem", "(internal/reflectlite.Value).Set"], unfollowed := true, recurses := true, named := ["errors.errorType"], apart := false, laid := [("errors.errorType", laid_errors_errorType)] }
def IntsBackSaid : Prop := intsBackRow.holds Tryd.pinned (OpenSpec.ofChange intsBackSpec)

/-- ITS FALSE NEIGHBOUR: 'it returns false'. Refute it at one input. -/
def intsBackWrong : ChangeSpec := { name := "intsBack", fn := fun _ => fun
  | [d1, d2] => { results := [.lit (.bool false)], args := [d1, d2] }
  | _ => none }
def IntsBackWrongFalsely : Prop := intsBackRow.holds Tryd.pinned (OpenSpec.ofChange intsBackWrong)

/-- 'haystacklaw03.IntsPuts': WHATEVER THE INPUT: true; the input reads as it did. -/
def intsPutsSpec : ChangeSpec := { name := "intsPuts", fn := fun _ => fun
  | [d1, d2, d3, d4] => { results := [.lit (.bool true)], args := [d1, d2, d3, d4] }
  | _ => none }
def intsPutsRow : OpenClaim := { program := "ytapgclloopcbhaadoor", sum := "57b4e19dfc31cb11bdcf46c028f3acdb40f64edaeb8a1ff8e48ae1cfce964c48", func := "haystack/haystacklaw03.IntsPuts", spec := "intsPuts", inPlace := ["internal/reflectlite.ValueOf", "(internal/reflectlite.Value).Type", "(internal/reflectlite.Value).IsNil", "internal/reflectlite.TypeOf", "(internal/reflectlite.Value).Elem", "(internal/reflectlite.Value).Set"], unfollowed := true, recurses := true, named := ["errors.errorType"], apart := false, laid := [("errors.errorType", laid_errors_errorType)] }
def IntsPutsSaid : Prop := intsPutsRow.holds Tryd.pinned (OpenSpec.ofChange intsPutsSpec)

/-- ITS FALSE NEIGHBOUR: 'it returns false'. Refute it at one input. -/
def intsPutsWrong : ChangeSpec := { name := "intsPuts", fn := fun _ => fun
  | [d1, d2, d3, d4] => { results := [.lit (.bool false)], args := [d1, d2, d3, d4] }
  | _ => none }
def IntsPutsWrongFalsely : Prop := intsPutsRow.holds Tryd.pinned (OpenSpec.ofChange intsPutsWrong)

/-- 'haystacklaw20.ConfigBack': WHATEVER THE INPUT: true; the input reads as it did. -/
def configBackSpec : ChangeSpec := { name := "configBack", fn := fun _ => fun
  | [d1, d2] => { results := [.lit (.bool true)], args := [d1, d2] }
  | _ => none }
def configBackRow : OpenClaim := { program := "ytapgclloopcbhaadoor", sum := "57b4e19dfc31cb11bdcf46c028f3acdb40f64edaeb8a1ff8e48ae1cfce964c48", func := "haystack/haystacklaw20.ConfigBack", spec := "configBack", inPlace := ["internal/abi.NoEscape", "internal/bytealg.MakeNoZero"], unfollowed := true, recurses := true, named := ["internal/strconv.uint64pow10", "math/bits.deBruijn32tab", "math/bits.deBruijn64tab"], apart := false, laid := [("math/bits.deBruijn32tab", laid_math_bits_deBruijn32tab), ("math/bits.deBruijn64tab", laid_math_bits_deBruijn64tab), ("internal/strconv.uint64pow10", laid_internal_strconv_uint64pow10)] }
def ConfigBackSaid : Prop := configBackRow.holds Tryd.pinned (OpenSpec.ofChange configBackSpec)

/-- ITS FALSE NEIGHBOUR: 'it returns false'. Refute it at one input. -/
def configBackWrong : ChangeSpec := { name := "configBack", fn := fun _ => fun
  | [d1, d2] => { results := [.lit (.bool false)], args := [d1, d2] }
  | _ => none }
def ConfigBackWrongFalsely : Prop := configBackRow.holds Tryd.pinned (OpenSpec.ofChange configBackWrong)

/-- 'haystacklaw20.ConfigApart': WHATEVER THE INPUT: true; the input reads as it did. -/
def configApartSpec : ChangeSpec := { name := "configApart", fn := fun _ => fun
  | [d1, d2] => { results := [.lit (.bool true)], args := [d1, d2] }
  | _ => none }
def configApartRow : OpenClaim := { program := "ytapgclloopcbhaadoor", sum := "57b4e19dfc31cb11bdcf46c028f3acdb40f64edaeb8a1ff8e48ae1cfce964c48", func := "haystack/haystacklaw20.ConfigApart", spec := "configApart", inPlace := ["internal/abi.NoEscape", "internal/bytealg.MakeNoZero"], unfollowed := true, recurses := true, named := ["internal/strconv.uint64pow10", "math/bits.deBruijn32tab", "math/bits.deBruijn64tab"], apart := false, laid := [("math/bits.deBruijn32tab", laid_math_bits_deBruijn32tab), ("math/bits.deBruijn64tab", laid_math_bits_deBruijn64tab), ("internal/strconv.uint64pow10", laid_internal_strconv_uint64pow10)] }
def ConfigApartSaid : Prop := configApartRow.holds Tryd.pinned (OpenSpec.ofChange configApartSpec)

/-- ITS FALSE NEIGHBOUR: 'it returns false'. Refute it at one input. -/
def configApartWrong : ChangeSpec := { name := "configApart", fn := fun _ => fun
  | [d1, d2] => { results := [.lit (.bool false)], args := [d1, d2] }
  | _ => none }
def ConfigApartWrongFalsely : Prop := configApartRow.holds Tryd.pinned (OpenSpec.ofChange configApartWrong)

/-- 'haystacklaw20.ConfigTells': WHATEVER THE INPUT: true; the input reads as it did. -/
def configTellsSpec : ChangeSpec := { name := "configTells", fn := fun _ => fun
  | [d1, d2] => { results := [.lit (.bool true)], args := [d1, d2] }
  | _ => none }
def configTellsRow : OpenClaim := { program := "ytapgclloopcbhaadoor", sum := "57b4e19dfc31cb11bdcf46c028f3acdb40f64edaeb8a1ff8e48ae1cfce964c48", func := "haystack/haystacklaw20.ConfigTells", spec := "configTells", inPlace := ["internal/abi.NoEscape", "internal/bytealg.MakeNoZero"], unfollowed := true, recurses := true, named := ["internal/strconv.uint64pow10", "math/bits.deBruijn32tab", "math/bits.deBruijn64tab"], apart := false, laid := [("math/bits.deBruijn32tab", laid_math_bits_deBruijn32tab), ("math/bits.deBruijn64tab", laid_math_bits_deBruijn64tab), ("internal/strconv.uint64pow10", laid_internal_strconv_uint64pow10)] }
def ConfigTellsSaid : Prop := configTellsRow.holds Tryd.pinned (OpenSpec.ofChange configTellsSpec)

/-- ITS FALSE NEIGHBOUR: 'it returns false'. Refute it at one input. -/
def configTellsWrong : ChangeSpec := { name := "configTells", fn := fun _ => fun
  | [d1, d2] => { results := [.lit (.bool false)], args := [d1, d2] }
  | _ => none }
def ConfigTellsWrongFalsely : Prop := configTellsRow.holds Tryd.pinned (OpenSpec.ofChange configTellsWrong)

/-- 'haystacklaw20.ConfigAll': WHATEVER THE INPUT: true; the input reads as it did. -/
def configAllSpec : ChangeSpec := { name := "configAll", fn := fun _ => fun
  | [d] => { results := [.lit (.bool true)], args := [d] }
  | _ => none }
def configAllRow : OpenClaim := { program := "ytapgclloopcbhaadoor", sum := "57b4e19dfc31cb11bdcf46c028f3acdb40f64edaeb8a1ff8e48ae1cfce964c48", func := "haystack/haystacklaw20.ConfigAll", spec := "configAll", inPlace := ["internal/abi.NoEscape", "internal/bytealg.MakeNoZero"], unfollowed := true, recurses := true, named := ["internal/strconv.uint64pow10", "math/bits.deBruijn32tab", "math/bits.deBruijn64tab"], apart := false, laid := [("math/bits.deBruijn32tab", laid_math_bits_deBruijn32tab), ("math/bits.deBruijn64tab", laid_math_bits_deBruijn64tab), ("internal/strconv.uint64pow10", laid_internal_strconv_uint64pow10)] }
def ConfigAllSaid : Prop := configAllRow.holds Tryd.pinned (OpenSpec.ofChange configAllSpec)

/-- ITS FALSE NEIGHBOUR: 'it returns false'. Refute it at one input. -/
def configAllWrong : ChangeSpec := { name := "configAll", fn := fun _ => fun
  | [d] => { results := [.lit (.bool false)], args := [d] }
  | _ => none }
def ConfigAllWrongFalsely : Prop := configAllRow.holds Tryd.pinned (OpenSpec.ofChange configAllWrong)

/- THE SECOND FORM. 'bulk': how many values and letters a reading holds, each counted each time it is reached (what is shared counts as often as it is met; a slice's spare places count too). A statement '..UptoSaid' is the law's where the arguments, and the package variables that the reading takes, are together of bulk at most 1048576: NARROWER than '..Said'. Prove '..Said' where nothing that the law and all that it calls make is longer than what came in: it says more and counts as full. Else prove '..UptoSaid'. A law counts once. -/
mutual
def uptoBulk {H : Type} : DataW H → Nat
  | .lit (.string bytes) => bytes.length + 1
  | .lit _ => 1
  | .nil => 1
  | .ptr d => uptoBulk d + 1
  | .slice elems spare => uptoBulkAll elems + uptoBulkAll spare + 1
  | .agg parts => uptoBulkAll parts + 1
  | .iface _ d => uptoBulk d + 1
  | .map entries => uptoBulkEntries entries + 1
  | .held _ => 1
def uptoBulkAll {H : Type} : List (DataW H) → Nat
  | [] => 0
  | d :: r => uptoBulk d + uptoBulkAll r
def uptoBulkEntries {H : Type} : List (Lit × DataW H) → Nat
  | [] => 0
  | x :: r => uptoBulkEntry x + uptoBulkEntries r
def uptoBulkEntry {H : Type} : Lit × DataW H → Nat
  | (.string bytes, d) => bytes.length + uptoBulk d + 1
  | (_, d) => uptoBulk d + 1
 end
def uptoSmall : (H : Type) → List (DataW H) → Bool := fun _ ds => decide (uptoBulkAll ds ≤ 1048576)
def OpenSpec.upto (s : _root_.Go.ChangeSpec) : _root_.Go.OpenSpec := { _root_.Go.OpenSpec.ofChange s with cond := some uptoSmall }

/-- 'haystacklaw07.PlainCounts', WHERE WHAT IT READS IS OF BULK AT MOST 1048576: true; the input reads as it did. -/
def plainCountsUptoRow : OpenClaim := { program := "ytapgclloopcbhaadoor", sum := "57b4e19dfc31cb11bdcf46c028f3acdb40f64edaeb8a1ff8e48ae1cfce964c48", func := "haystack/haystacklaw07.PlainCounts", spec := "plainCounts", named := ["math/bits.deBruijn64tab"], apart := false, laid := [("math/bits.deBruijn64tab", laid_math_bits_deBruijn64tab)], narrowed := true }
def PlainCountsUptoSaid : Prop := plainCountsUptoRow.holds Tryd.pinned (OpenSpec.upto plainCountsSpec)

/-- 'haystacklaw07.PlainBuilds', WHERE WHAT IT READS IS OF BULK AT MOST 1048576: true; the input reads as it did. -/
def plainBuildsUptoRow : OpenClaim := { program := "ytapgclloopcbhaadoor", sum := "57b4e19dfc31cb11bdcf46c028f3acdb40f64edaeb8a1ff8e48ae1cfce964c48", func := "haystack/haystacklaw07.PlainBuilds", spec := "plainBuilds", named := ["math/bits.deBruijn64tab"], apart := false, laid := [("math/bits.deBruijn64tab", laid_math_bits_deBruijn64tab)], narrowed := true }
def PlainBuildsUptoSaid : Prop := plainBuildsUptoRow.holds Tryd.pinned (OpenSpec.upto plainBuildsSpec)

/-- 'haystacklaw07.PlainTells', WHERE WHAT IT READS IS OF BULK AT MOST 1048576: true; the input reads as it did. -/
def plainTellsUptoRow : OpenClaim := { program := "ytapgclloopcbhaadoor", sum := "57b4e19dfc31cb11bdcf46c028f3acdb40f64edaeb8a1ff8e48ae1cfce964c48", func := "haystack/haystacklaw07.PlainTells", spec := "plainTells", named := ["math/bits.deBruijn64tab"], apart := false, laid := [("math/bits.deBruijn64tab", laid_math_bits_deBruijn64tab)], narrowed := true }
def PlainTellsUptoSaid : Prop := plainTellsUptoRow.holds Tryd.pinned (OpenSpec.upto plainTellsSpec)

/-- 'haystacklaw07.PlainBack', WHERE WHAT IT READS IS OF BULK AT MOST 1048576: true; the input reads as it did. -/
def plainBackUptoRow : OpenClaim := { program := "ytapgclloopcbhaadoor", sum := "57b4e19dfc31cb11bdcf46c028f3acdb40f64edaeb8a1ff8e48ae1cfce964c48", func := "haystack/haystacklaw07.PlainBack", spec := "plainBack", named := ["math/bits.deBruijn64tab"], apart := false, laid := [("math/bits.deBruijn64tab", laid_math_bits_deBruijn64tab)], narrowed := true }
def PlainBackUptoSaid : Prop := plainBackUptoRow.holds Tryd.pinned (OpenSpec.upto plainBackSpec)

/-- 'haystacklaw03.IntsLeast', WHERE WHAT IT READS IS OF BULK AT MOST 1048576: true; the input reads as it did. -/
def intsLeastUptoRow : OpenClaim := { program := "ytapgclloopcbhaadoor", sum := "57b4e19dfc31cb11bdcf46c028f3acdb40f64edaeb8a1ff8e48ae1cfce964c48", func := "haystack/haystacklaw03.IntsLeast", spec := "intsLeast", inPlace := ["internal/reflectlite.ValueOf", "(internal/reflectlite.Value).Type", "(internal/reflectlite.Value).IsNil", "internal/reflectlite.TypeOf", "(internal/reflectlite.Value).Elem", "(internal/reflectlite.Value).Set"], unfollowed := true, recurses := true, named := ["errors.errorType"], apart := false, laid := [("errors.errorType", laid_errors_errorType)], narrowed := true }
def IntsLeastUptoSaid : Prop := intsLeastUptoRow.holds Tryd.pinned (OpenSpec.upto intsLeastSpec)

/-- 'haystacklaw03.IntsTell', WHERE WHAT IT READS IS OF BULK AT MOST 1048576: true; the input reads as it did. -/
def intsTellUptoRow : OpenClaim := { program := "ytapgclloopcbhaadoor", sum := "57b4e19dfc31cb11bdcf46c028f3acdb40f64edaeb8a1ff8e48ae1cfce964c48", func := "haystack/haystacklaw03.IntsTell", spec := "intsTell", inPlace := ["internal/reflectlite.ValueOf", "(internal/reflectlite.Value).Type", "(internal/reflectlite.Value).IsNil", "internal/reflectlite.TypeOf", "(internal/reflectlite.Value).Elem", "(internal/reflectlite.Value).Set"], unfollowed := true, recurses := true, named := ["errors.errorType"], apart := false, laid := [("errors.errorType", laid_errors_errorType)], narrowed := true }
def IntsTellUptoSaid : Prop := intsTellUptoRow.holds Tryd.pinned (OpenSpec.upto intsTellSpec)

/-- 'haystacklaw03.IntsBack', WHERE WHAT IT READS IS OF BULK AT MOST 1048576: true; the input reads as it did. -/
def intsBackUptoRow : OpenClaim := { program := "ytapgclloopcbhaadoor", sum := "57b4e19dfc31cb11bdcf46c028f3acdb40f64edaeb8a1ff8e48ae1cfce964c48", func := "haystack/haystacklaw03.IntsBack", spec := "intsBack", inPlace := ["internal/reflectlite.ValueOf", "(internal/reflectlite.Value).Type", "(internal/reflectlite.Value).IsNil", "internal/reflectlite.TypeOf", "(internal/reflectlite.Value).Elem", "(internal/reflectlite.Value).Set"], unfollowed := true, recurses := true, named := ["errors.errorType"], apart := false, laid := [("errors.errorType", laid_errors_errorType)], narrowed := true }
def IntsBackUptoSaid : Prop := intsBackUptoRow.holds Tryd.pinned (OpenSpec.upto intsBackSpec)

/-- 'haystacklaw03.IntsPuts', WHERE WHAT IT READS IS OF BULK AT MOST 1048576: true; the input reads as it did. -/
def intsPutsUptoRow : OpenClaim := { program := "ytapgclloopcbhaadoor", sum := "57b4e19dfc31cb11bdcf46c028f3acdb40f64edaeb8a1ff8e48ae1cfce964c48", func := "haystack/haystacklaw03.IntsPuts", spec := "intsPuts", inPlace := ["internal/reflectlite.ValueOf", "(internal/reflectlite.Value).Type", "(internal/reflectlite.Value).IsNil", "internal/reflectlite.TypeOf", "(internal/reflectlite.Value).Elem", "(internal/reflectlite.Value).Set"], unfollowed := true, recurses := true, named := ["errors.errorType"], apart := false, laid := [("errors.errorType", laid_errors_errorType)], narrowed := true }
def IntsPutsUptoSaid : Prop := intsPutsUptoRow.holds Tryd.pinned (OpenSpec.upto intsPutsSpec)

/-- 'haystacklaw20.ConfigBack', WHERE WHAT IT READS IS OF BULK AT MOST 1048576: true; the input reads as it did. -/
def configBackUptoRow : OpenClaim := { program := "ytapgclloopcbhaadoor", sum := "57b4e19dfc31cb11bdcf46c028f3acdb40f64edaeb8a1ff8e48ae1cfce964c48", func := "haystack/haystacklaw20.ConfigBack", spec := "configBack", inPlace := ["internal/abi.NoEscape", "internal/bytealg.MakeNoZero"], unfollowed := true, recurses := true, named := ["internal/strconv.uint64pow10", "math/bits.deBruijn32tab", "math/bits.deBruijn64tab"], apart := false, laid := [("math/bits.deBruijn32tab", laid_math_bits_deBruijn32tab), ("math/bits.deBruijn64tab", laid_math_bits_deBruijn64tab), ("internal/strconv.uint64pow10", laid_internal_strconv_uint64pow10)], narrowed := true }
def ConfigBackUptoSaid : Prop := configBackUptoRow.holds Tryd.pinned (OpenSpec.upto configBackSpec)

/-- 'haystacklaw20.ConfigApart', WHERE WHAT IT READS IS OF BULK AT MOST 1048576: true; the input reads as it did. -/
def configApartUptoRow : OpenClaim := { program := "ytapgclloopcbhaadoor", sum := "57b4e19dfc31cb11bdcf46c028f3acdb40f64edaeb8a1ff8e48ae1cfce964c48", func := "haystack/haystacklaw20.ConfigApart", spec := "configApart", inPlace := ["internal/abi.NoEscape", "internal/bytealg.MakeNoZero"], unfollowed := true, recurses := true, named := ["internal/strconv.uint64pow10", "math/bits.deBruijn32tab", "math/bits.deBruijn64tab"], apart := false, laid := [("math/bits.deBruijn32tab", laid_math_bits_deBruijn32tab), ("math/bits.deBruijn64tab", laid_math_bits_deBruijn64tab), ("internal/strconv.uint64pow10", laid_internal_strconv_uint64pow10)], narrowed := true }
def ConfigApartUptoSaid : Prop := configApartUptoRow.holds Tryd.pinned (OpenSpec.upto configApartSpec)

/-- 'haystacklaw20.ConfigTells', WHERE WHAT IT READS IS OF BULK AT MOST 1048576: true; the input reads as it did. -/
def configTellsUptoRow : OpenClaim := { program := "ytapgclloopcbhaadoor", sum := "57b4e19dfc31cb11bdcf46c028f3acdb40f64edaeb8a1ff8e48ae1cfce964c48", func := "haystack/haystacklaw20.ConfigTells", spec := "configTells", inPlace := ["internal/abi.NoEscape", "internal/bytealg.MakeNoZero"], unfollowed := true, recurses := true, named := ["internal/strconv.uint64pow10", "math/bits.deBruijn32tab", "math/bits.deBruijn64tab"], apart := false, laid := [("math/bits.deBruijn32tab", laid_math_bits_deBruijn32tab), ("math/bits.deBruijn64tab", laid_math_bits_deBruijn64tab), ("internal/strconv.uint64pow10", laid_internal_strconv_uint64pow10)], narrowed := true }
def ConfigTellsUptoSaid : Prop := configTellsUptoRow.holds Tryd.pinned (OpenSpec.upto configTellsSpec)

/-- 'haystacklaw20.ConfigAll', WHERE WHAT IT READS IS OF BULK AT MOST 1048576: true; the input reads as it did. -/
def configAllUptoRow : OpenClaim := { program := "ytapgclloopcbhaadoor", sum := "57b4e19dfc31cb11bdcf46c028f3acdb40f64edaeb8a1ff8e48ae1cfce964c48", func := "haystack/haystacklaw20.ConfigAll", spec := "configAll", inPlace := ["internal/abi.NoEscape", "internal/bytealg.MakeNoZero"], unfollowed := true, recurses := true, named := ["internal/strconv.uint64pow10", "math/bits.deBruijn32tab", "math/bits.deBruijn64tab"], apart := false, laid := [("math/bits.deBruijn32tab", laid_math_bits_deBruijn32tab), ("math/bits.deBruijn64tab", laid_math_bits_deBruijn64tab), ("internal/strconv.uint64pow10", laid_internal_strconv_uint64pow10)], narrowed := true }
def ConfigAllUptoSaid : Prop := configAllUptoRow.holds Tryd.pinned (OpenSpec.upto configAllSpec)

end Rows
end Go.Proofs.YtapgclloopcbhaaDoor
