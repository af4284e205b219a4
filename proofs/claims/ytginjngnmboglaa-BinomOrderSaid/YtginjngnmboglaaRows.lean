/-
  No cell of these rows narrows 'for every input' (looked for: loops, veiled, ifaces, maps, wideKeys, modest, calm, conditions, laid).
  DERIVED. THE GIVEN ROWS OF THIS SEAT. 6 by the template 'for every input the law returns true; each argument reads behind the call as it read before'; 0 by the template 'total and deterministic' (their statements: YtginjngnmboglaaTotals.lean).
  GIVEN WITH THE SEED: the statements are not yours to turn. If you find one false, say at which input.
  Laid BY PROGRAM, IN A SANDBOX (cutbox-rows.mjs): the forced cells as the released guide's own fill.sh prints them over the translation 8aa650150c65ab0b… (all of the seat's roots in one cut). By AI agents, Wed Nov 11 2026. No macro, syntax, notation, axiom, sorry.
-/
import Derived.Test.YtginjngnmboglaaChecked
import GoSem.Claim
import GoSem.ClaimJoined
import GoSem.ClaimMapViews
import Derived.JoinedTies
import Derived.KernelRfl
namespace Go.Proofs.Ytginjngnmboglaa
/- THE CELL 'sum', in the pinned program and in every row, IS THE sha256 OF THE DUMP (.gsa) THAT YtginjngnmboglaaProg.lean LOADS. Nothing in Lean hashes anything: it is a label: what it is worth is what the hold of that sum in a sandbox is worth. -/
noncomputable def Try.pinned : Pinned := { name := "ytginjngnmboglaa", sum := "8aa650150c65ab0bf8f2cd99e7c15c307378a2a7c0d441a0acc465583187567c", checked := Try.checked }
namespace Rows
def none {H : Type} : Left H := { results := [], args := [] }

/-- 'haystacklaw06.BinomAll': WHATEVER THE INPUT: true; the input reads as it did. -/
def binomAllSpec : ChangeSpec := { name := "binomAll", fn := fun _ => fun
  | [d] => { results := [.lit (.bool true)], args := [d] }
  | _ => none }
def binomAllRow : OpenClaim := { program := "ytginjngnmboglaa", sum := "8aa650150c65ab0bf8f2cd99e7c15c307378a2a7c0d441a0acc465583187567c", func := "haystack/haystacklaw06.BinomAll", spec := "binomAll", apart := false }
def BinomAllSaid : Prop := binomAllRow.holds Try.pinned (OpenSpec.ofChange binomAllSpec)

/-- ITS FALSE NEIGHBOUR: 'it returns false'. Refute it at one input. -/
def binomAllWrong : ChangeSpec := { name := "binomAll", fn := fun _ => fun
  | [d] => { results := [.lit (.bool false)], args := [d] }
  | _ => none }
def BinomAllWrongFalsely : Prop := binomAllRow.holds Try.pinned (OpenSpec.ofChange binomAllWrong)

/-- 'haystacklaw06.BinomEnds': WHATEVER THE INPUT: true; the input reads as it did. -/
def binomEndsSpec : ChangeSpec := { name := "binomEnds", fn := fun _ => fun
  | [d1, d2] => { results := [.lit (.bool true)], args := [d1, d2] }
  | _ => none }
def binomEndsRow : OpenClaim := { program := "ytginjngnmboglaa", sum := "8aa650150c65ab0bf8f2cd99e7c15c307378a2a7c0d441a0acc465583187567c", func := "haystack/haystacklaw06.BinomEnds", spec := "binomEnds", apart := false }
def BinomEndsSaid : Prop := binomEndsRow.holds Try.pinned (OpenSpec.ofChange binomEndsSpec)

/-- ITS FALSE NEIGHBOUR: 'it returns false'. Refute it at one input. -/
def binomEndsWrong : ChangeSpec := { name := "binomEnds", fn := fun _ => fun
  | [d1, d2] => { results := [.lit (.bool false)], args := [d1, d2] }
  | _ => none }
def BinomEndsWrongFalsely : Prop := binomEndsRow.holds Try.pinned (OpenSpec.ofChange binomEndsWrong)

/-- 'haystacklaw06.BinomTells': WHATEVER THE INPUT: true; the input reads as it did. -/
def binomTellsSpec : ChangeSpec := { name := "binomTells", fn := fun _ => fun
  | [d1, d2, d3, d4] => { results := [.lit (.bool true)], args := [d1, d2, d3, d4] }
  | _ => none }
def binomTellsRow : OpenClaim := { program := "ytginjngnmboglaa", sum := "8aa650150c65ab0bf8f2cd99e7c15c307378a2a7c0d441a0acc465583187567c", func := "haystack/haystacklaw06.BinomTells", spec := "binomTells", apart := false }
def BinomTellsSaid : Prop := binomTellsRow.holds Try.pinned (OpenSpec.ofChange binomTellsSpec)

/-- ITS FALSE NEIGHBOUR: 'it returns false'. Refute it at one input. -/
def binomTellsWrong : ChangeSpec := { name := "binomTells", fn := fun _ => fun
  | [d1, d2, d3, d4] => { results := [.lit (.bool false)], args := [d1, d2, d3, d4] }
  | _ => none }
def BinomTellsWrongFalsely : Prop := binomTellsRow.holds Try.pinned (OpenSpec.ofChange binomTellsWrong)

/-- 'haystacklaw06.BinomBack': WHATEVER THE INPUT: true; the input reads as it did. -/
def binomBackSpec : ChangeSpec := { name := "binomBack", fn := fun _ => fun
  | [d1, d2] => { results := [.lit (.bool true)], args := [d1, d2] }
  | _ => none }
def binomBackRow : OpenClaim := { program := "ytginjngnmboglaa", sum := "8aa650150c65ab0bf8f2cd99e7c15c307378a2a7c0d441a0acc465583187567c", func := "haystack/haystacklaw06.BinomBack", spec := "binomBack", apart := false }
def BinomBackSaid : Prop := binomBackRow.holds Try.pinned (OpenSpec.ofChange binomBackSpec)

/-- ITS FALSE NEIGHBOUR: 'it returns false'. Refute it at one input. -/
def binomBackWrong : ChangeSpec := { name := "binomBack", fn := fun _ => fun
  | [d1, d2] => { results := [.lit (.bool false)], args := [d1, d2] }
  | _ => none }
def BinomBackWrongFalsely : Prop := binomBackRow.holds Try.pinned (OpenSpec.ofChange binomBackWrong)

/-- 'haystacklaw06.BinomOrder': WHATEVER THE INPUT: true; the input reads as it did. -/
def binomOrderSpec : ChangeSpec := { name := "binomOrder", fn := fun _ => fun
  | [d1, d2, d3] => { results := [.lit (.bool true)], args := [d1, d2, d3] }
  | _ => none }
def binomOrderRow : OpenClaim := { program := "ytginjngnmboglaa", sum := "8aa650150c65ab0bf8f2cd99e7c15c307378a2a7c0d441a0acc465583187567c", func := "haystack/haystacklaw06.BinomOrder", spec := "binomOrder", apart := false }
def BinomOrderSaid : Prop := binomOrderRow.holds Try.pinned (OpenSpec.ofChange binomOrderSpec)

/-- ITS FALSE NEIGHBOUR: 'it returns false'. Refute it at one input. -/
def binomOrderWrong : ChangeSpec := { name := "binomOrder", fn := fun _ => fun
  | [d1, d2, d3] => { results := [.lit (.bool false)], args := [d1, d2, d3] }
  | _ => none }
def BinomOrderWrongFalsely : Prop := binomOrderRow.holds Try.pinned (OpenSpec.ofChange binomOrderWrong)

/-- 'haystacklaw06.BinomSums': WHATEVER THE INPUT: true; the input reads as it did. -/
def binomSumsSpec : ChangeSpec := { name := "binomSums", fn := fun _ => fun
  | [d1, d2] => { results := [.lit (.bool true)], args := [d1, d2] }
  | _ => none }
def binomSumsRow : OpenClaim := { program := "ytginjngnmboglaa", sum := "8aa650150c65ab0bf8f2cd99e7c15c307378a2a7c0d441a0acc465583187567c", func := "haystack/haystacklaw06.BinomSums", spec := "binomSums", apart := false }
def BinomSumsSaid : Prop := binomSumsRow.holds Try.pinned (OpenSpec.ofChange binomSumsSpec)

/-- ITS FALSE NEIGHBOUR: 'it returns false'. Refute it at one input. -/
def binomSumsWrong : ChangeSpec := { name := "binomSums", fn := fun _ => fun
  | [d1, d2] => { results := [.lit (.bool false)], args := [d1, d2] }
  | _ => none }
def BinomSumsWrongFalsely : Prop := binomSumsRow.holds Try.pinned (OpenSpec.ofChange binomSumsWrong)

/- THE SECOND FORM. 'bulk': how many values and letters a reading holds, each counted each time it is reached (what is shared counts as often as it is met; a slice's spare places count too). A statement '..UptoSaid' is the law's where the arguments, and the package variables that the reading takes, are together of bulk at most 1048576: NARROWER than '..Said'. Prove '..Said' where nothing that the law and all that it calls make is longer than what came in: it says more and counts as full. Else prove '..UptoSaid'. A law counts once. -/
mutual
def uptoBulk {H : Type} : DataW H → Nat
  | .lit (.string bytes) => bytes.length + 1
  | .lit _ => 1
  | .nil => 1
  | .ptr d => uptoBulk d + 1
  | .slice elems spare => uptoBulkAll elems + uptoBulkAll spare + 1
  | .agg parts => uptoBulkAll parts + 1
  | .iface _ d => uptoBulk d + 1
  | .map entries => uptoBulkEntries entries + 1
  | .held _ => 1
def uptoBulkAll {H : Type} : List (DataW H) → Nat
  | [] => 0
  | d :: r => uptoBulk d + uptoBulkAll r
def uptoBulkEntries {H : Type} : List (Lit × DataW H) → Nat
  | [] => 0
  | x :: r => uptoBulkEntry x + uptoBulkEntries r
def uptoBulkEntry {H : Type} : Lit × DataW H → Nat
  | (.string bytes, d) => bytes.length + uptoBulk d + 1
  | (_, d) => uptoBulk d + 1
 end
def uptoSmall : (H : Type) → List (DataW H) → Bool := fun _ ds => decide (uptoBulkAll ds ≤ 1048576)
def OpenSpec.upto (s : _root_.Go.ChangeSpec) : _root_.Go.OpenSpec := { _root_.Go.OpenSpec.ofChange s with cond := some uptoSmall }

/-- 'haystacklaw06.BinomAll', WHERE WHAT IT READS IS OF BULK AT MOST 1048576: true; the input reads as it did. -/
def binomAllUptoRow : OpenClaim := { program := "ytginjngnmboglaa", sum := "8aa650150c65ab0bf8f2cd99e7c15c307378a2a7c0d441a0acc465583187567c", func := "haystack/haystacklaw06.BinomAll", spec := "binomAll", apart := false, narrowed := true }
def BinomAllUptoSaid : Prop := binomAllUptoRow.holds Try.pinned (OpenSpec.upto binomAllSpec)

/-- 'haystacklaw06.BinomEnds', WHERE WHAT IT READS IS OF BULK AT MOST 1048576: true; the input reads as it did. -/
def binomEndsUptoRow : OpenClaim := { program := "ytginjngnmboglaa", sum := "8aa650150c65ab0bf8f2cd99e7c15c307378a2a7c0d441a0acc465583187567c", func := "haystack/haystacklaw06.BinomEnds", spec := "binomEnds", apart := false, narrowed := true }
def BinomEndsUptoSaid : Prop := binomEndsUptoRow.holds Try.pinned (OpenSpec.upto binomEndsSpec)

/-- 'haystacklaw06.BinomTells', WHERE WHAT IT READS IS OF BULK AT MOST 1048576: true; the input reads as it did. -/
def binomTellsUptoRow : OpenClaim := { program := "ytginjngnmboglaa", sum := "8aa650150c65ab0bf8f2cd99e7c15c307378a2a7c0d441a0acc465583187567c", func := "haystack/haystacklaw06.BinomTells", spec := "binomTells", apart := false, narrowed := true }
def BinomTellsUptoSaid : Prop := binomTellsUptoRow.holds Try.pinned (OpenSpec.upto binomTellsSpec)

/-- 'haystacklaw06.BinomBack', WHERE WHAT IT READS IS OF BULK AT MOST 1048576: true; the input reads as it did. -/
def binomBackUptoRow : OpenClaim := { program := "ytginjngnmboglaa", sum := "8aa650150c65ab0bf8f2cd99e7c15c307378a2a7c0d441a0acc465583187567c", func := "haystack/haystacklaw06.BinomBack", spec := "binomBack", apart := false, narrowed := true }
def BinomBackUptoSaid : Prop := binomBackUptoRow.holds Try.pinned (OpenSpec.upto binomBackSpec)

/-- 'haystacklaw06.BinomOrder', WHERE WHAT IT READS IS OF BULK AT MOST 1048576: true; the input reads as it did. -/
def binomOrderUptoRow : OpenClaim := { program := "ytginjngnmboglaa", sum := "8aa650150c65ab0bf8f2cd99e7c15c307378a2a7c0d441a0acc465583187567c", func := "haystack/haystacklaw06.BinomOrder", spec := "binomOrder", apart := false, narrowed := true }
def BinomOrderUptoSaid : Prop := binomOrderUptoRow.holds Try.pinned (OpenSpec.upto binomOrderSpec)

/-- 'haystacklaw06.BinomSums', WHERE WHAT IT READS IS OF BULK AT MOST 1048576: true; the input reads as it did. -/
def binomSumsUptoRow : OpenClaim := { program := "ytginjngnmboglaa", sum := "8aa650150c65ab0bf8f2cd99e7c15c307378a2a7c0d441a0acc465583187567c", func := "haystack/haystacklaw06.BinomSums", spec := "binomSums", apart := false, narrowed := true }
def BinomSumsUptoSaid : Prop := binomSumsUptoRow.holds Try.pinned (OpenSpec.upto binomSumsSpec)

end Rows
end Go.Proofs.Ytginjngnmboglaa
