/-
  No cell of these rows narrows 'for every input' (looked for: loops, veiled, ifaces, maps, wideKeys, modest, calm, conditions, laid).
  DERIVED. THE GIVEN ROWS OF THIS SEAT. 6 by the template 'for every input the law returns true; each argument reads behind the call as it read before'; 0 by the template 'total and deterministic' (their statements: YtbpnidmhbflgfaaTotals.lean).
  GIVEN WITH THE SEED: the statements are not yours to turn. If you find one false, say at which input.
  Laid BY PROGRAM, IN A SANDBOX (cutbox-rows.mjs): the forced cells as the released guide's own fill.sh prints them over the translation 469697acaa787825… (all of the seat's roots in one cut). By AI agents, Wed Nov 11 2026. No macro, syntax, notation, axiom, sorry.
-/
import Derived.Test.YtbpnidmhbflgfaaChecked
import GoSem.Claim
import GoSem.ClaimJoined
import GoSem.ClaimMapViews
import Derived.JoinedTies
import Derived.KernelRfl
namespace Go.Proofs.Ytbpnidmhbflgfaa
/- THE CELL 'sum', in the pinned program and in every row, IS THE sha256 OF THE DUMP (.gsa) THAT YtbpnidmhbflgfaaProg.lean LOADS. Nothing in Lean hashes anything: it is a label: what it is worth is what the hold of that sum in a sandbox is worth. -/
noncomputable def Try.pinned : Pinned := { name := "ytbpnidmhbflgfaa", sum := "469697acaa787825ba35f183c1f4603306aa73399a3f0b5c616d10740f7c2f27", checked := Try.checked }
namespace Rows
def none {H : Type} : Left H := { results := [], args := [] }

/-- 'haystacklaw3.PackedPacks': WHATEVER THE INPUT: true; the input reads as it did. -/
def packedPacksSpec : ChangeSpec := { name := "packedPacks", fn := fun _ => fun
  | [d] => { results := [.lit (.bool true)], args := [d] }
  | _ => none }
def packedPacksRow : OpenClaim := { program := "ytbpnidmhbflgfaa", sum := "469697acaa787825ba35f183c1f4603306aa73399a3f0b5c616d10740f7c2f27", func := "haystack/haystacklaw3.PackedPacks", spec := "packedPacks", apart := false }
def PackedPacksSaid : Prop := packedPacksRow.holds Try.pinned (OpenSpec.ofChange packedPacksSpec)

/-- ITS FALSE NEIGHBOUR: 'it returns false'. Refute it at one input. -/
def packedPacksWrong : ChangeSpec := { name := "packedPacks", fn := fun _ => fun
  | [d] => { results := [.lit (.bool false)], args := [d] }
  | _ => none }
def PackedPacksWrongFalsely : Prop := packedPacksRow.holds Try.pinned (OpenSpec.ofChange packedPacksWrong)

/-- 'haystacklaw3.PackedSets': WHATEVER THE INPUT: true; the input reads as it did. -/
def packedSetsSpec : ChangeSpec := { name := "packedSets", fn := fun _ => fun
  | [d1, d2, d3] => { results := [.lit (.bool true)], args := [d1, d2, d3] }
  | _ => none }
def packedSetsRow : OpenClaim := { program := "ytbpnidmhbflgfaa", sum := "469697acaa787825ba35f183c1f4603306aa73399a3f0b5c616d10740f7c2f27", func := "haystack/haystacklaw3.PackedSets", spec := "packedSets", apart := false }
def PackedSetsSaid : Prop := packedSetsRow.holds Try.pinned (OpenSpec.ofChange packedSetsSpec)

/-- ITS FALSE NEIGHBOUR: 'it returns false'. Refute it at one input. -/
def packedSetsWrong : ChangeSpec := { name := "packedSets", fn := fun _ => fun
  | [d1, d2, d3] => { results := [.lit (.bool false)], args := [d1, d2, d3] }
  | _ => none }
def PackedSetsWrongFalsely : Prop := packedSetsRow.holds Try.pinned (OpenSpec.ofChange packedSetsWrong)

/-- 'haystacklaw3.PackedOfNothing': WHATEVER THE INPUT: true; the input reads as it did. -/
def packedOfNothingSpec : ChangeSpec := { name := "packedOfNothing", fn := fun _ => fun
  | [d1, d2] => { results := [.lit (.bool true)], args := [d1, d2] }
  | _ => none }
def packedOfNothingRow : OpenClaim := { program := "ytbpnidmhbflgfaa", sum := "469697acaa787825ba35f183c1f4603306aa73399a3f0b5c616d10740f7c2f27", func := "haystack/haystacklaw3.PackedOfNothing", spec := "packedOfNothing", apart := false }
def PackedOfNothingSaid : Prop := packedOfNothingRow.holds Try.pinned (OpenSpec.ofChange packedOfNothingSpec)

/-- ITS FALSE NEIGHBOUR: 'it returns false'. Refute it at one input. -/
def packedOfNothingWrong : ChangeSpec := { name := "packedOfNothing", fn := fun _ => fun
  | [d1, d2] => { results := [.lit (.bool false)], args := [d1, d2] }
  | _ => none }
def PackedOfNothingWrongFalsely : Prop := packedOfNothingRow.holds Try.pinned (OpenSpec.ofChange packedOfNothingWrong)

/-- 'haystacklaw3.PackedOne': WHATEVER THE INPUT: true; the input reads as it did. -/
def packedOneSpec : ChangeSpec := { name := "packedOne", fn := fun _ => fun
  | [d1, d2, d3] => { results := [.lit (.bool true)], args := [d1, d2, d3] }
  | _ => none }
def packedOneRow : OpenClaim := { program := "ytbpnidmhbflgfaa", sum := "469697acaa787825ba35f183c1f4603306aa73399a3f0b5c616d10740f7c2f27", func := "haystack/haystacklaw3.PackedOne", spec := "packedOne", apart := false }
def PackedOneSaid : Prop := packedOneRow.holds Try.pinned (OpenSpec.ofChange packedOneSpec)

/-- ITS FALSE NEIGHBOUR: 'it returns false'. Refute it at one input. -/
def packedOneWrong : ChangeSpec := { name := "packedOne", fn := fun _ => fun
  | [d1, d2, d3] => { results := [.lit (.bool false)], args := [d1, d2, d3] }
  | _ => none }
def PackedOneWrongFalsely : Prop := packedOneRow.holds Try.pinned (OpenSpec.ofChange packedOneWrong)

/-- 'haystacklaw3.PackedFrom': WHATEVER THE INPUT: true; the input reads as it did. -/
def packedFromSpec : ChangeSpec := { name := "packedFrom", fn := fun _ => fun
  | [d1, d2, d3] => { results := [.lit (.bool true)], args := [d1, d2, d3] }
  | _ => none }
def packedFromRow : OpenClaim := { program := "ytbpnidmhbflgfaa", sum := "469697acaa787825ba35f183c1f4603306aa73399a3f0b5c616d10740f7c2f27", func := "haystack/haystacklaw3.PackedFrom", spec := "packedFrom", apart := false }
def PackedFromSaid : Prop := packedFromRow.holds Try.pinned (OpenSpec.ofChange packedFromSpec)

/-- ITS FALSE NEIGHBOUR: 'it returns false'. Refute it at one input. -/
def packedFromWrong : ChangeSpec := { name := "packedFrom", fn := fun _ => fun
  | [d1, d2, d3] => { results := [.lit (.bool false)], args := [d1, d2, d3] }
  | _ => none }
def PackedFromWrongFalsely : Prop := packedFromRow.holds Try.pinned (OpenSpec.ofChange packedFromWrong)

/-- 'haystacklaw3.PackedLeast': WHATEVER THE INPUT: true; the input reads as it did. -/
def packedLeastSpec : ChangeSpec := { name := "packedLeast", fn := fun _ => fun
  | [d] => { results := [.lit (.bool true)], args := [d] }
  | _ => none }
def packedLeastRow : OpenClaim := { program := "ytbpnidmhbflgfaa", sum := "469697acaa787825ba35f183c1f4603306aa73399a3f0b5c616d10740f7c2f27", func := "haystack/haystacklaw3.PackedLeast", spec := "packedLeast", apart := false }
def PackedLeastSaid : Prop := packedLeastRow.holds Try.pinned (OpenSpec.ofChange packedLeastSpec)

/-- ITS FALSE NEIGHBOUR: 'it returns false'. Refute it at one input. -/
def packedLeastWrong : ChangeSpec := { name := "packedLeast", fn := fun _ => fun
  | [d] => { results := [.lit (.bool false)], args := [d] }
  | _ => none }
def PackedLeastWrongFalsely : Prop := packedLeastRow.holds Try.pinned (OpenSpec.ofChange packedLeastWrong)

/- THE SECOND FORM. 'bulk': how many values and letters a reading holds, each counted each time it is reached (what is shared counts as often as it is met; a slice's spare places count too). A statement '..UptoSaid' is the law's where the arguments, and the package variables that the reading takes, are together of bulk at most 1048576: NARROWER than '..Said'. Prove '..Said' where nothing that the law and all that it calls make is longer than what came in: it says more and counts as full. Else prove '..UptoSaid'. A law counts once. -/
mutual
def uptoBulk {H : Type} : DataW H → Nat
  | .lit (.string bytes) => bytes.length + 1
  | .lit _ => 1
  | .nil => 1
  | .ptr d => uptoBulk d + 1
  | .slice elems spare => uptoBulkAll elems + uptoBulkAll spare + 1
  | .agg parts => uptoBulkAll parts + 1
  | .iface _ d => uptoBulk d + 1
  | .map entries => uptoBulkEntries entries + 1
  | .held _ => 1
def uptoBulkAll {H : Type} : List (DataW H) → Nat
  | [] => 0
  | d :: r => uptoBulk d + uptoBulkAll r
def uptoBulkEntries {H : Type} : List (Lit × DataW H) → Nat
  | [] => 0
  | x :: r => uptoBulkEntry x + uptoBulkEntries r
def uptoBulkEntry {H : Type} : Lit × DataW H → Nat
  | (.string bytes, d) => bytes.length + uptoBulk d + 1
  | (_, d) => uptoBulk d + 1
 end
def uptoSmall : (H : Type) → List (DataW H) → Bool := fun _ ds => decide (uptoBulkAll ds ≤ 1048576)
def OpenSpec.upto (s : _root_.Go.ChangeSpec) : _root_.Go.OpenSpec := { _root_.Go.OpenSpec.ofChange s with cond := some uptoSmall }

/-- 'haystacklaw3.PackedPacks', WHERE WHAT IT READS IS OF BULK AT MOST 1048576: true; the input reads as it did. -/
def packedPacksUptoRow : OpenClaim := { program := "ytbpnidmhbflgfaa", sum := "469697acaa787825ba35f183c1f4603306aa73399a3f0b5c616d10740f7c2f27", func := "haystack/haystacklaw3.PackedPacks", spec := "packedPacks", apart := false, narrowed := true }
def PackedPacksUptoSaid : Prop := packedPacksUptoRow.holds Try.pinned (OpenSpec.upto packedPacksSpec)

/-- 'haystacklaw3.PackedSets', WHERE WHAT IT READS IS OF BULK AT MOST 1048576: true; the input reads as it did. -/
def packedSetsUptoRow : OpenClaim := { program := "ytbpnidmhbflgfaa", sum := "469697acaa787825ba35f183c1f4603306aa73399a3f0b5c616d10740f7c2f27", func := "haystack/haystacklaw3.PackedSets", spec := "packedSets", apart := false, narrowed := true }
def PackedSetsUptoSaid : Prop := packedSetsUptoRow.holds Try.pinned (OpenSpec.upto packedSetsSpec)

/-- 'haystacklaw3.PackedOfNothing', WHERE WHAT IT READS IS OF BULK AT MOST 1048576: true; the input reads as it did. -/
def packedOfNothingUptoRow : OpenClaim := { program := "ytbpnidmhbflgfaa", sum := "469697acaa787825ba35f183c1f4603306aa73399a3f0b5c616d10740f7c2f27", func := "haystack/haystacklaw3.PackedOfNothing", spec := "packedOfNothing", apart := false, narrowed := true }
def PackedOfNothingUptoSaid : Prop := packedOfNothingUptoRow.holds Try.pinned (OpenSpec.upto packedOfNothingSpec)

/-- 'haystacklaw3.PackedOne', WHERE WHAT IT READS IS OF BULK AT MOST 1048576: true; the input reads as it did. -/
def packedOneUptoRow : OpenClaim := { program := "ytbpnidmhbflgfaa", sum := "469697acaa787825ba35f183c1f4603306aa73399a3f0b5c616d10740f7c2f27", func := "haystack/haystacklaw3.PackedOne", spec := "packedOne", apart := false, narrowed := true }
def PackedOneUptoSaid : Prop := packedOneUptoRow.holds Try.pinned (OpenSpec.upto packedOneSpec)

/-- 'haystacklaw3.PackedFrom', WHERE WHAT IT READS IS OF BULK AT MOST 1048576: true; the input reads as it did. -/
def packedFromUptoRow : OpenClaim := { program := "ytbpnidmhbflgfaa", sum := "469697acaa787825ba35f183c1f4603306aa73399a3f0b5c616d10740f7c2f27", func := "haystack/haystacklaw3.PackedFrom", spec := "packedFrom", apart := false, narrowed := true }
def PackedFromUptoSaid : Prop := packedFromUptoRow.holds Try.pinned (OpenSpec.upto packedFromSpec)

/-- 'haystacklaw3.PackedLeast', WHERE WHAT IT READS IS OF BULK AT MOST 1048576: true; the input reads as it did. -/
def packedLeastUptoRow : OpenClaim := { program := "ytbpnidmhbflgfaa", sum := "469697acaa787825ba35f183c1f4603306aa73399a3f0b5c616d10740f7c2f27", func := "haystack/haystacklaw3.PackedLeast", spec := "packedLeast", apart := false, narrowed := true }
def PackedLeastUptoSaid : Prop := packedLeastUptoRow.holds Try.pinned (OpenSpec.upto packedLeastSpec)

end Rows
end Go.Proofs.Ytbpnidmhbflgfaa
