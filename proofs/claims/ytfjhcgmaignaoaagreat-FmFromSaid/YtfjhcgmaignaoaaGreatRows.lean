/-
  No cell of these rows narrows 'for every input' (looked for: loops, veiled, ifaces, maps, wideKeys, modest, calm, conditions, laid).
  DERIVED. THE GIVEN ROWS OF THIS SEAT. 3 by the template 'for every input the law returns true; each argument reads behind the call as it read before'; 0 by the template 'total and deterministic' (their statements: YtfjhcgmaignaoaaGreatTotals.lean).
  GIVEN WITH THE SEED: the statements are not yours to turn. If you find one false, say at which input.
  Laid BY PROGRAM, IN A SANDBOX (cutbox-rows.mjs): the forced cells as the released guide's own fill.sh prints them over the translation 0fc479c59b34c93b… (all of the seat's roots in one cut). By AI agents, Wed Nov 11 2026. No macro, syntax, notation, axiom, sorry.
-/
import Derived.Test.YtfjhcgmaignaoaaGreatChecked
import GoSem.Claim
import GoSem.ClaimJoined
import GoSem.ClaimMapViews
import Derived.JoinedTies
import Derived.KernelRfl
namespace Go.Proofs.YtfjhcgmaignaoaaGreat
/- THE CELL 'sum', in the pinned program and in every row, IS THE sha256 OF THE DUMP (.gsa) THAT YtfjhcgmaignaoaaGreatProg.lean LOADS. Nothing in Lean hashes anything: it is a label: what it is worth is what the hold of that sum in a sandbox is worth. -/
noncomputable def Tryz.pinned : Pinned := { name := "ytfjhcgmaignaoaagreat", sum := "0fc479c59b34c93bf8a657f222b68e995da30018429484949a79546236f7009b", checked := Tryz.checked }
namespace Rows
def none {H : Type} : Left H := { results := [], args := [] }

/-- 'haystacklaw7.FmFinds': WHATEVER THE INPUT: true; the input reads as it did. -/
def fmFindsSpec : ChangeSpec := { name := "fmFinds", fn := fun _ => fun
  | [d1, d2, d3] => { results := [.lit (.bool true)], args := [d1, d2, d3] }
  | _ => none }
def fmFindsRow : OpenClaim := { program := "ytfjhcgmaignaoaagreat", sum := "0fc479c59b34c93bf8a657f222b68e995da30018429484949a79546236f7009b", func := "haystack/haystacklaw7.FmFinds", spec := "fmFinds", unfollowed := true, recurses := true, apart := false }
def FmFindsSaid : Prop := fmFindsRow.holds Tryz.pinned (OpenSpec.ofChange fmFindsSpec)

/-- ITS FALSE NEIGHBOUR: 'it returns false'. Refute it at one input. -/
def fmFindsWrong : ChangeSpec := { name := "fmFinds", fn := fun _ => fun
  | [d1, d2, d3] => { results := [.lit (.bool false)], args := [d1, d2, d3] }
  | _ => none }
def FmFindsWrongFalsely : Prop := fmFindsRow.holds Tryz.pinned (OpenSpec.ofChange fmFindsWrong)

/-- 'haystacklaw7.FmFrom': WHATEVER THE INPUT: true; the input reads as it did. -/
def fmFromSpec : ChangeSpec := { name := "fmFrom", fn := fun _ => fun
  | [d1, d2] => { results := [.lit (.bool true)], args := [d1, d2] }
  | _ => none }
def fmFromRow : OpenClaim := { program := "ytfjhcgmaignaoaagreat", sum := "0fc479c59b34c93bf8a657f222b68e995da30018429484949a79546236f7009b", func := "haystack/haystacklaw7.FmFrom", spec := "fmFrom", unfollowed := true, recurses := true, apart := false }
def FmFromSaid : Prop := fmFromRow.holds Tryz.pinned (OpenSpec.ofChange fmFromSpec)

/-- ITS FALSE NEIGHBOUR: 'it returns false'. Refute it at one input. -/
def fmFromWrong : ChangeSpec := { name := "fmFrom", fn := fun _ => fun
  | [d1, d2] => { results := [.lit (.bool false)], args := [d1, d2] }
  | _ => none }
def FmFromWrongFalsely : Prop := fmFromRow.holds Tryz.pinned (OpenSpec.ofChange fmFromWrong)

/-- 'haystacklaw7.FmRound': WHATEVER THE INPUT: true; the input reads as it did. -/
def fmRoundSpec : ChangeSpec := { name := "fmRound", fn := fun _ => fun
  | [d1, d2] => { results := [.lit (.bool true)], args := [d1, d2] }
  | _ => none }
def fmRoundRow : OpenClaim := { program := "ytfjhcgmaignaoaagreat", sum := "0fc479c59b34c93bf8a657f222b68e995da30018429484949a79546236f7009b", func := "haystack/haystacklaw7.FmRound", spec := "fmRound", unfollowed := true, recurses := true, apart := false }
def FmRoundSaid : Prop := fmRoundRow.holds Tryz.pinned (OpenSpec.ofChange fmRoundSpec)

/-- ITS FALSE NEIGHBOUR: 'it returns false'. Refute it at one input. -/
def fmRoundWrong : ChangeSpec := { name := "fmRound", fn := fun _ => fun
  | [d1, d2] => { results := [.lit (.bool false)], args := [d1, d2] }
  | _ => none }
def FmRoundWrongFalsely : Prop := fmRoundRow.holds Tryz.pinned (OpenSpec.ofChange fmRoundWrong)

/- THE SECOND FORM. 'bulk': how many values and letters a reading holds, each counted each time it is reached (what is shared counts as often as it is met; a slice's spare places count too). A statement '..UptoSaid' is the law's where the arguments, and the package variables that the reading takes, are together of bulk at most 1048576: NARROWER than '..Said'. Prove '..Said' where nothing that the law and all that it calls make is longer than what came in: it says more and counts as full. Else prove '..UptoSaid'. A law counts once. -/
mutual
def uptoBulk {H : Type} : DataW H → Nat
  | .lit (.string bytes) => bytes.length + 1
  | .lit _ => 1
  | .nil => 1
  | .ptr d => uptoBulk d + 1
  | .slice elems spare => uptoBulkAll elems + uptoBulkAll spare + 1
  | .agg parts => uptoBulkAll parts + 1
  | .iface _ d => uptoBulk d + 1
  | .map entries => uptoBulkEntries entries + 1
  | .held _ => 1
def uptoBulkAll {H : Type} : List (DataW H) → Nat
  | [] => 0
  | d :: r => uptoBulk d + uptoBulkAll r
def uptoBulkEntries {H : Type} : List (Lit × DataW H) → Nat
  | [] => 0
  | x :: r => uptoBulkEntry x + uptoBulkEntries r
def uptoBulkEntry {H : Type} : Lit × DataW H → Nat
  | (.string bytes, d) => bytes.length + uptoBulk d + 1
  | (_, d) => uptoBulk d + 1
 end
def uptoSmall : (H : Type) → List (DataW H) → Bool := fun _ ds => decide (uptoBulkAll ds ≤ 1048576)
def OpenSpec.upto (s : _root_.Go.ChangeSpec) : _root_.Go.OpenSpec := { _root_.Go.OpenSpec.ofChange s with cond := some uptoSmall }

/-- 'haystacklaw7.FmFinds', WHERE WHAT IT READS IS OF BULK AT MOST 1048576: true; the input reads as it did. -/
def fmFindsUptoRow : OpenClaim := { program := "ytfjhcgmaignaoaagreat", sum := "0fc479c59b34c93bf8a657f222b68e995da30018429484949a79546236f7009b", func := "haystack/haystacklaw7.FmFinds", spec := "fmFinds", unfollowed := true, recurses := true, apart := false, narrowed := true }
def FmFindsUptoSaid : Prop := fmFindsUptoRow.holds Tryz.pinned (OpenSpec.upto fmFindsSpec)

/-- 'haystacklaw7.FmFrom', WHERE WHAT IT READS IS OF BULK AT MOST 1048576: true; the input reads as it did. -/
def fmFromUptoRow : OpenClaim := { program := "ytfjhcgmaignaoaagreat", sum := "0fc479c59b34c93bf8a657f222b68e995da30018429484949a79546236f7009b", func := "haystack/haystacklaw7.FmFrom", spec := "fmFrom", unfollowed := true, recurses := true, apart := false, narrowed := true }
def FmFromUptoSaid : Prop := fmFromUptoRow.holds Tryz.pinned (OpenSpec.upto fmFromSpec)

/-- 'haystacklaw7.FmRound', WHERE WHAT IT READS IS OF BULK AT MOST 1048576: true; the input reads as it did. -/
def fmRoundUptoRow : OpenClaim := { program := "ytfjhcgmaignaoaagreat", sum := "0fc479c59b34c93bf8a657f222b68e995da30018429484949a79546236f7009b", func := "haystack/haystacklaw7.FmRound", spec := "fmRound", unfollowed := true, recurses := true, apart := false, narrowed := true }
def FmRoundUptoSaid : Prop := fmRoundUptoRow.holds Tryz.pinned (OpenSpec.upto fmRoundSpec)

end Rows
end Go.Proofs.YtfjhcgmaignaoaaGreat
