/-
  No cell of these rows narrows 'for every input' (looked for: loops, veiled, ifaces, maps, wideKeys, modest, calm, conditions, laid).
  DERIVED. THE GIVEN ROWS OF THIS SEAT. 4 by the template 'for every input the law returns true; each argument reads behind the call as it read before'; 0 by the template 'total and deterministic' (their statements: YtblpggndekhebaaTotals.lean).
  GIVEN WITH THE SEED: the statements are not yours to turn. If you find one false, say at which input.
  Laid BY PROGRAM, IN A SANDBOX (cutbox-rows.mjs): the forced cells as the released guide's own fill.sh prints them over the translation 6eb60713d50f2204… (all of the seat's roots in one cut). By AI agents, Wed Nov 11 2026. No macro, syntax, notation, axiom, sorry.
-/
import Derived.Test.YtblpggndekhebaaChecked
import GoSem.Claim
import GoSem.ClaimJoined
import GoSem.ClaimMapViews
import Derived.JoinedTies
import Derived.KernelRfl
namespace Go.Proofs.Ytblpggndekhebaa
/- THE CELL 'sum', in the pinned program and in every row, IS THE sha256 OF THE DUMP (.gsa) THAT YtblpggndekhebaaProg.lean LOADS. Nothing in Lean hashes anything: it is a label: what it is worth is what the hold of that sum in a sandbox is worth. -/
noncomputable def Try.pinned : Pinned := { name := "ytblpggndekhebaa", sum := "6eb60713d50f22044f864553e2a5deda608d44cbac50e82cd394400881403890", checked := Try.checked }
namespace Rows
def none {H : Type} : Left H := { results := [], args := [] }

/-- 'haystacklaw19.StatsContext': WHATEVER THE INPUT: true; the input reads as it did. -/
def statsContextSpec : ChangeSpec := { name := "statsContext", fn := fun _ => fun
  | [d] => { results := [.lit (.bool true)], args := [d] }
  | _ => none }
def statsContextRow : OpenClaim := { program := "ytblpggndekhebaa", sum := "6eb60713d50f22044f864553e2a5deda608d44cbac50e82cd394400881403890", func := "haystack/haystacklaw19.StatsContext", spec := "statsContext", apart := false }
def StatsContextSaid : Prop := statsContextRow.holds Try.pinned (OpenSpec.ofChange statsContextSpec)

/-- ITS FALSE NEIGHBOUR: 'it returns false'. Refute it at one input. -/
def statsContextWrong : ChangeSpec := { name := "statsContext", fn := fun _ => fun
  | [d] => { results := [.lit (.bool false)], args := [d] }
  | _ => none }
def StatsContextWrongFalsely : Prop := statsContextRow.holds Try.pinned (OpenSpec.ofChange statsContextWrong)

/-- 'haystacklaw19.StatsTell': WHATEVER THE INPUT: true; the input reads as it did. -/
def statsTellSpec : ChangeSpec := { name := "statsTell", fn := fun _ => fun
  | [d1, d2, d3] => { results := [.lit (.bool true)], args := [d1, d2, d3] }
  | _ => none }
def statsTellRow : OpenClaim := { program := "ytblpggndekhebaa", sum := "6eb60713d50f22044f864553e2a5deda608d44cbac50e82cd394400881403890", func := "haystack/haystacklaw19.StatsTell", spec := "statsTell", apart := false }
def StatsTellSaid : Prop := statsTellRow.holds Try.pinned (OpenSpec.ofChange statsTellSpec)

/-- ITS FALSE NEIGHBOUR: 'it returns false'. Refute it at one input. -/
def statsTellWrong : ChangeSpec := { name := "statsTell", fn := fun _ => fun
  | [d1, d2, d3] => { results := [.lit (.bool false)], args := [d1, d2, d3] }
  | _ => none }
def StatsTellWrongFalsely : Prop := statsTellRow.holds Try.pinned (OpenSpec.ofChange statsTellWrong)

/-- 'haystacklaw19.StatsRise': WHATEVER THE INPUT: true; the input reads as it did. -/
def statsRiseSpec : ChangeSpec := { name := "statsRise", fn := fun _ => fun
  | [d1, d2] => { results := [.lit (.bool true)], args := [d1, d2] }
  | _ => none }
def statsRiseRow : OpenClaim := { program := "ytblpggndekhebaa", sum := "6eb60713d50f22044f864553e2a5deda608d44cbac50e82cd394400881403890", func := "haystack/haystacklaw19.StatsRise", spec := "statsRise", apart := false }
def StatsRiseSaid : Prop := statsRiseRow.holds Try.pinned (OpenSpec.ofChange statsRiseSpec)

/-- ITS FALSE NEIGHBOUR: 'it returns false'. Refute it at one input. -/
def statsRiseWrong : ChangeSpec := { name := "statsRise", fn := fun _ => fun
  | [d1, d2] => { results := [.lit (.bool false)], args := [d1, d2] }
  | _ => none }
def StatsRiseWrongFalsely : Prop := statsRiseRow.holds Try.pinned (OpenSpec.ofChange statsRiseWrong)

/-- 'haystacklaw19.StatsNeed': WHATEVER THE INPUT: true; the input reads as it did. -/
def statsNeedSpec : ChangeSpec := { name := "statsNeed", fn := fun _ => fun
  | [d] => { results := [.lit (.bool true)], args := [d] }
  | _ => none }
def statsNeedRow : OpenClaim := { program := "ytblpggndekhebaa", sum := "6eb60713d50f22044f864553e2a5deda608d44cbac50e82cd394400881403890", func := "haystack/haystacklaw19.StatsNeed", spec := "statsNeed", apart := false }
def StatsNeedSaid : Prop := statsNeedRow.holds Try.pinned (OpenSpec.ofChange statsNeedSpec)

/-- ITS FALSE NEIGHBOUR: 'it returns false'. Refute it at one input. -/
def statsNeedWrong : ChangeSpec := { name := "statsNeed", fn := fun _ => fun
  | [d] => { results := [.lit (.bool false)], args := [d] }
  | _ => none }
def StatsNeedWrongFalsely : Prop := statsNeedRow.holds Try.pinned (OpenSpec.ofChange statsNeedWrong)

/- THE SECOND FORM. 'bulk': how many values and letters a reading holds, each counted each time it is reached (what is shared counts as often as it is met; a slice's spare places count too). A statement '..UptoSaid' is the law's where the arguments, and the package variables that the reading takes, are together of bulk at most 1048576: NARROWER than '..Said'. Prove '..Said' where nothing that the law and all that it calls make is longer than what came in: it says more and counts as full. Else prove '..UptoSaid'. A law counts once. -/
mutual
def uptoBulk {H : Type} : DataW H → Nat
  | .lit (.string bytes) => bytes.length + 1
  | .lit _ => 1
  | .nil => 1
  | .ptr d => uptoBulk d + 1
  | .slice elems spare => uptoBulkAll elems + uptoBulkAll spare + 1
  | .agg parts => uptoBulkAll parts + 1
  | .iface _ d => uptoBulk d + 1
  | .map entries => uptoBulkEntries entries + 1
  | .held _ => 1
def uptoBulkAll {H : Type} : List (DataW H) → Nat
  | [] => 0
  | d :: r => uptoBulk d + uptoBulkAll r
def uptoBulkEntries {H : Type} : List (Lit × DataW H) → Nat
  | [] => 0
  | x :: r => uptoBulkEntry x + uptoBulkEntries r
def uptoBulkEntry {H : Type} : Lit × DataW H → Nat
  | (.string bytes, d) => bytes.length + uptoBulk d + 1
  | (_, d) => uptoBulk d + 1
 end
def uptoSmall : (H : Type) → List (DataW H) → Bool := fun _ ds => decide (uptoBulkAll ds ≤ 1048576)
def OpenSpec.upto (s : _root_.Go.ChangeSpec) : _root_.Go.OpenSpec := { _root_.Go.OpenSpec.ofChange s with cond := some uptoSmall }

/-- 'haystacklaw19.StatsContext', WHERE WHAT IT READS IS OF BULK AT MOST 1048576: true; the input reads as it did. -/
def statsContextUptoRow : OpenClaim := { program := "ytblpggndekhebaa", sum := "6eb60713d50f22044f864553e2a5deda608d44cbac50e82cd394400881403890", func := "haystack/haystacklaw19.StatsContext", spec := "statsContext", apart := false, narrowed := true }
def StatsContextUptoSaid : Prop := statsContextUptoRow.holds Try.pinned (OpenSpec.upto statsContextSpec)

/-- 'haystacklaw19.StatsTell', WHERE WHAT IT READS IS OF BULK AT MOST 1048576: true; the input reads as it did. -/
def statsTellUptoRow : OpenClaim := { program := "ytblpggndekhebaa", sum := "6eb60713d50f22044f864553e2a5deda608d44cbac50e82cd394400881403890", func := "haystack/haystacklaw19.StatsTell", spec := "statsTell", apart := false, narrowed := true }
def StatsTellUptoSaid : Prop := statsTellUptoRow.holds Try.pinned (OpenSpec.upto statsTellSpec)

/-- 'haystacklaw19.StatsRise', WHERE WHAT IT READS IS OF BULK AT MOST 1048576: true; the input reads as it did. -/
def statsRiseUptoRow : OpenClaim := { program := "ytblpggndekhebaa", sum := "6eb60713d50f22044f864553e2a5deda608d44cbac50e82cd394400881403890", func := "haystack/haystacklaw19.StatsRise", spec := "statsRise", apart := false, narrowed := true }
def StatsRiseUptoSaid : Prop := statsRiseUptoRow.holds Try.pinned (OpenSpec.upto statsRiseSpec)

/-- 'haystacklaw19.StatsNeed', WHERE WHAT IT READS IS OF BULK AT MOST 1048576: true; the input reads as it did. -/
def statsNeedUptoRow : OpenClaim := { program := "ytblpggndekhebaa", sum := "6eb60713d50f22044f864553e2a5deda608d44cbac50e82cd394400881403890", func := "haystack/haystacklaw19.StatsNeed", spec := "statsNeed", apart := false, narrowed := true }
def StatsNeedUptoSaid : Prop := statsNeedUptoRow.holds Try.pinned (OpenSpec.upto statsNeedSpec)

end Rows
end Go.Proofs.Ytblpggndekhebaa
