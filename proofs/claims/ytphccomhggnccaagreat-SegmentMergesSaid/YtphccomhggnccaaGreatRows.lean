/-
  No cell of these rows narrows 'for every input' (looked for: loops, veiled, ifaces, maps, wideKeys, modest, calm, conditions, laid).
  DERIVED. THE GIVEN ROWS OF THIS SEAT. 9 by the template 'for every input the law returns true; each argument reads behind the call as it read before'; 0 by the template 'total and deterministic' (their statements: YtphccomhggnccaaGreatTotals.lean).
  GIVEN WITH THE SEED: the statements are not yours to turn. If you find one false, say at which input.
  Laid BY PROGRAM, IN A SANDBOX (cutbox-rows.mjs): the forced cells as the released guide's own fill.sh prints them over the translation 1d8b0e6f575297fc… (all of the seat's roots in one cut). By AI agents, Wed Nov 11 2026. No macro, syntax, notation, axiom, sorry.
-/
import Derived.Test.YtphccomhggnccaaGreatChecked
import GoSem.Claim
import GoSem.ClaimJoined
import GoSem.ClaimMapViews
import Derived.JoinedTies
import Derived.KernelRfl
namespace Go.Proofs.YtphccomhggnccaaGreat
/- THE CELL 'sum', in the pinned program and in every row, IS THE sha256 OF THE DUMP (.gsa) THAT YtphccomhggnccaaGreatProg.lean LOADS. Nothing in Lean hashes anything: it is a label: what it is worth is what the hold of that sum in a sandbox is worth. -/
noncomputable def Tryz.pinned : Pinned := { name := "ytphccomhggnccaagreat", sum := "1d8b0e6f575297fc0694ba67f0a1f69906619be25aed3d9cc92064072c72c4a3", checked := Tryz.checked }
namespace Rows
def none {H : Type} : Left H := { results := [], args := [] }

/-- 'haystacklaw9.SegmentOrder': WHATEVER THE INPUT: true; the input reads as it did. -/
def segmentOrderSpec : ChangeSpec := { name := "segmentOrder", fn := fun _ => fun
  | [d1, d2] => { results := [.lit (.bool true)], args := [d1, d2] }
  | _ => none }
def segmentOrderRow : OpenClaim := { program := "ytphccomhggnccaagreat", sum := "1d8b0e6f575297fc0694ba67f0a1f69906619be25aed3d9cc92064072c72c4a3", func := "haystack/haystacklaw9.SegmentOrder", spec := "segmentOrder", inPlace := ["internal/bytealg.abigen_runtime_cmpstring", "internal/bytealg.MakeNoZero"], unfollowed := true, recurses := true, apart := false }
def SegmentOrderSaid : Prop := segmentOrderRow.holds Tryz.pinned (OpenSpec.ofChange segmentOrderSpec)

/-- ITS FALSE NEIGHBOUR: 'it returns false'. Refute it at one input. -/
def segmentOrderWrong : ChangeSpec := { name := "segmentOrder", fn := fun _ => fun
  | [d1, d2] => { results := [.lit (.bool false)], args := [d1, d2] }
  | _ => none }
def SegmentOrderWrongFalsely : Prop := segmentOrderRow.holds Tryz.pinned (OpenSpec.ofChange segmentOrderWrong)

/-- 'haystacklaw9.SegmentPromotes': WHATEVER THE INPUT: true; the input reads as it did. -/
def segmentPromotesSpec : ChangeSpec := { name := "segmentPromotes", fn := fun _ => fun
  | [d1, d2, d3, d4, d5] => { results := [.lit (.bool true)], args := [d1, d2, d3, d4, d5] }
  | _ => none }
def segmentPromotesRow : OpenClaim := { program := "ytphccomhggnccaagreat", sum := "1d8b0e6f575297fc0694ba67f0a1f69906619be25aed3d9cc92064072c72c4a3", func := "haystack/haystacklaw9.SegmentPromotes", spec := "segmentPromotes", inPlace := ["internal/bytealg.abigen_runtime_cmpstring", "internal/bytealg.MakeNoZero"], unfollowed := true, recurses := true, apart := false }
def SegmentPromotesSaid : Prop := segmentPromotesRow.holds Tryz.pinned (OpenSpec.ofChange segmentPromotesSpec)

/-- ITS FALSE NEIGHBOUR: 'it returns false'. Refute it at one input. -/
def segmentPromotesWrong : ChangeSpec := { name := "segmentPromotes", fn := fun _ => fun
  | [d1, d2, d3, d4, d5] => { results := [.lit (.bool false)], args := [d1, d2, d3, d4, d5] }
  | _ => none }
def SegmentPromotesWrongFalsely : Prop := segmentPromotesRow.holds Tryz.pinned (OpenSpec.ofChange segmentPromotesWrong)

/-- 'haystacklaw9.SegmentMakes': WHATEVER THE INPUT: true; the input reads as it did. -/
def segmentMakesSpec : ChangeSpec := { name := "segmentMakes", fn := fun _ => fun
  | [d1, d2] => { results := [.lit (.bool true)], args := [d1, d2] }
  | _ => none }
def segmentMakesRow : OpenClaim := { program := "ytphccomhggnccaagreat", sum := "1d8b0e6f575297fc0694ba67f0a1f69906619be25aed3d9cc92064072c72c4a3", func := "haystack/haystacklaw9.SegmentMakes", spec := "segmentMakes", inPlace := ["internal/bytealg.abigen_runtime_cmpstring", "internal/bytealg.MakeNoZero"], unfollowed := true, recurses := true, apart := false }
def SegmentMakesSaid : Prop := segmentMakesRow.holds Tryz.pinned (OpenSpec.ofChange segmentMakesSpec)

/-- ITS FALSE NEIGHBOUR: 'it returns false'. Refute it at one input. -/
def segmentMakesWrong : ChangeSpec := { name := "segmentMakes", fn := fun _ => fun
  | [d1, d2] => { results := [.lit (.bool false)], args := [d1, d2] }
  | _ => none }
def SegmentMakesWrongFalsely : Prop := segmentMakesRow.holds Tryz.pinned (OpenSpec.ofChange segmentMakesWrong)

/-- 'haystacklaw9.SegmentNewest': WHATEVER THE INPUT: true; the input reads as it did. -/
def segmentNewestSpec : ChangeSpec := { name := "segmentNewest", fn := fun _ => fun
  | [d1, d2, d3] => { results := [.lit (.bool true)], args := [d1, d2, d3] }
  | _ => none }
def segmentNewestRow : OpenClaim := { program := "ytphccomhggnccaagreat", sum := "1d8b0e6f575297fc0694ba67f0a1f69906619be25aed3d9cc92064072c72c4a3", func := "haystack/haystacklaw9.SegmentNewest", spec := "segmentNewest", inPlace := ["internal/bytealg.abigen_runtime_cmpstring", "internal/bytealg.MakeNoZero"], unfollowed := true, recurses := true, apart := false }
def SegmentNewestSaid : Prop := segmentNewestRow.holds Tryz.pinned (OpenSpec.ofChange segmentNewestSpec)

/-- ITS FALSE NEIGHBOUR: 'it returns false'. Refute it at one input. -/
def segmentNewestWrong : ChangeSpec := { name := "segmentNewest", fn := fun _ => fun
  | [d1, d2, d3] => { results := [.lit (.bool false)], args := [d1, d2, d3] }
  | _ => none }
def SegmentNewestWrongFalsely : Prop := segmentNewestRow.holds Tryz.pinned (OpenSpec.ofChange segmentNewestWrong)

/-- 'haystacklaw9.SegmentOfNothing': WHATEVER THE INPUT: true; the input reads as it did. -/
def segmentOfNothingSpec : ChangeSpec := { name := "segmentOfNothing", fn := fun _ => fun
  | [d1, d2] => { results := [.lit (.bool true)], args := [d1, d2] }
  | _ => none }
def segmentOfNothingRow : OpenClaim := { program := "ytphccomhggnccaagreat", sum := "1d8b0e6f575297fc0694ba67f0a1f69906619be25aed3d9cc92064072c72c4a3", func := "haystack/haystacklaw9.SegmentOfNothing", spec := "segmentOfNothing", inPlace := ["internal/bytealg.abigen_runtime_cmpstring", "internal/bytealg.MakeNoZero"], unfollowed := true, recurses := true, apart := false }
def SegmentOfNothingSaid : Prop := segmentOfNothingRow.holds Tryz.pinned (OpenSpec.ofChange segmentOfNothingSpec)

/-- ITS FALSE NEIGHBOUR: 'it returns false'. Refute it at one input. -/
def segmentOfNothingWrong : ChangeSpec := { name := "segmentOfNothing", fn := fun _ => fun
  | [d1, d2] => { results := [.lit (.bool false)], args := [d1, d2] }
  | _ => none }
def SegmentOfNothingWrongFalsely : Prop := segmentOfNothingRow.holds Tryz.pinned (OpenSpec.ofChange segmentOfNothingWrong)

/-- 'haystacklaw9.SegmentMerges': WHATEVER THE INPUT: true; the input reads as it did. -/
def segmentMergesSpec : ChangeSpec := { name := "segmentMerges", fn := fun _ => fun
  | [d1, d2, d3] => { results := [.lit (.bool true)], args := [d1, d2, d3] }
  | _ => none }
def segmentMergesRow : OpenClaim := { program := "ytphccomhggnccaagreat", sum := "1d8b0e6f575297fc0694ba67f0a1f69906619be25aed3d9cc92064072c72c4a3", func := "haystack/haystacklaw9.SegmentMerges", spec := "segmentMerges", inPlace := ["internal/bytealg.abigen_runtime_cmpstring", "internal/bytealg.MakeNoZero"], unfollowed := true, recurses := true, apart := false }
def SegmentMergesSaid : Prop := segmentMergesRow.holds Tryz.pinned (OpenSpec.ofChange segmentMergesSpec)

/-- ITS FALSE NEIGHBOUR: 'it returns false'. Refute it at one input. -/
def segmentMergesWrong : ChangeSpec := { name := "segmentMerges", fn := fun _ => fun
  | [d1, d2, d3] => { results := [.lit (.bool false)], args := [d1, d2, d3] }
  | _ => none }
def SegmentMergesWrongFalsely : Prop := segmentMergesRow.holds Tryz.pinned (OpenSpec.ofChange segmentMergesWrong)

/-- 'haystacklaw9.SegmentParts': WHATEVER THE INPUT: true; the input reads as it did. -/
def segmentPartsSpec : ChangeSpec := { name := "segmentParts", fn := fun _ => fun
  | [d1, d2, d3, d4] => { results := [.lit (.bool true)], args := [d1, d2, d3, d4] }
  | _ => none }
def segmentPartsRow : OpenClaim := { program := "ytphccomhggnccaagreat", sum := "1d8b0e6f575297fc0694ba67f0a1f69906619be25aed3d9cc92064072c72c4a3", func := "haystack/haystacklaw9.SegmentParts", spec := "segmentParts", inPlace := ["internal/bytealg.abigen_runtime_cmpstring", "internal/bytealg.MakeNoZero"], unfollowed := true, recurses := true, apart := false }
def SegmentPartsSaid : Prop := segmentPartsRow.holds Tryz.pinned (OpenSpec.ofChange segmentPartsSpec)

/-- ITS FALSE NEIGHBOUR: 'it returns false'. Refute it at one input. -/
def segmentPartsWrong : ChangeSpec := { name := "segmentParts", fn := fun _ => fun
  | [d1, d2, d3, d4] => { results := [.lit (.bool false)], args := [d1, d2, d3, d4] }
  | _ => none }
def SegmentPartsWrongFalsely : Prop := segmentPartsRow.holds Tryz.pinned (OpenSpec.ofChange segmentPartsWrong)

/-- 'haystacklaw9.SegmentBack': WHATEVER THE INPUT: true; the input reads as it did. -/
def segmentBackSpec : ChangeSpec := { name := "segmentBack", fn := fun _ => fun
  | [d1, d2] => { results := [.lit (.bool true)], args := [d1, d2] }
  | _ => none }
def segmentBackRow : OpenClaim := { program := "ytphccomhggnccaagreat", sum := "1d8b0e6f575297fc0694ba67f0a1f69906619be25aed3d9cc92064072c72c4a3", func := "haystack/haystacklaw9.SegmentBack", spec := "segmentBack", inPlace := ["internal/bytealg.abigen_runtime_cmpstring", "internal/bytealg.MakeNoZero"], unfollowed := true, recurses := true, apart := false }
def SegmentBackSaid : Prop := segmentBackRow.holds Tryz.pinned (OpenSpec.ofChange segmentBackSpec)

/-- ITS FALSE NEIGHBOUR: 'it returns false'. Refute it at one input. -/
def segmentBackWrong : ChangeSpec := { name := "segmentBack", fn := fun _ => fun
  | [d1, d2] => { results := [.lit (.bool false)], args := [d1, d2] }
  | _ => none }
def SegmentBackWrongFalsely : Prop := segmentBackRow.holds Tryz.pinned (OpenSpec.ofChange segmentBackWrong)

/-- 'haystacklaw9.SegmentDecodes': WHATEVER THE INPUT: true; the input reads as it did. -/
def segmentDecodesSpec : ChangeSpec := { name := "segmentDecodes", fn := fun _ => fun
  | [d1, d2] => { results := [.lit (.bool true)], args := [d1, d2] }
  | _ => none }
def segmentDecodesRow : OpenClaim := { program := "ytphccomhggnccaagreat", sum := "1d8b0e6f575297fc0694ba67f0a1f69906619be25aed3d9cc92064072c72c4a3", func := "haystack/haystacklaw9.SegmentDecodes", spec := "segmentDecodes", inPlace := ["internal/bytealg.MakeNoZero", "internal/bytealg.abigen_runtime_cmpstring"], unfollowed := true, recurses := true, apart := false }
def SegmentDecodesSaid : Prop := segmentDecodesRow.holds Tryz.pinned (OpenSpec.ofChange segmentDecodesSpec)

/-- ITS FALSE NEIGHBOUR: 'it returns false'. Refute it at one input. -/
def segmentDecodesWrong : ChangeSpec := { name := "segmentDecodes", fn := fun _ => fun
  | [d1, d2] => { results := [.lit (.bool false)], args := [d1, d2] }
  | _ => none }
def SegmentDecodesWrongFalsely : Prop := segmentDecodesRow.holds Tryz.pinned (OpenSpec.ofChange segmentDecodesWrong)

/- THE SECOND FORM. 'bulk': how many values and letters a reading holds, each counted each time it is reached (what is shared counts as often as it is met; a slice's spare places count too). A statement '..UptoSaid' is the law's where the arguments, and the package variables that the reading takes, are together of bulk at most 1048576: NARROWER than '..Said'. Prove '..Said' where nothing that the law and all that it calls make is longer than what came in: it says more and counts as full. Else prove '..UptoSaid'. A law counts once. -/
mutual
def uptoBulk {H : Type} : DataW H → Nat
  | .lit (.string bytes) => bytes.length + 1
  | .lit _ => 1
  | .nil => 1
  | .ptr d => uptoBulk d + 1
  | .slice elems spare => uptoBulkAll elems + uptoBulkAll spare + 1
  | .agg parts => uptoBulkAll parts + 1
  | .iface _ d => uptoBulk d + 1
  | .map entries => uptoBulkEntries entries + 1
  | .held _ => 1
def uptoBulkAll {H : Type} : List (DataW H) → Nat
  | [] => 0
  | d :: r => uptoBulk d + uptoBulkAll r
def uptoBulkEntries {H : Type} : List (Lit × DataW H) → Nat
  | [] => 0
  | x :: r => uptoBulkEntry x + uptoBulkEntries r
def uptoBulkEntry {H : Type} : Lit × DataW H → Nat
  | (.string bytes, d) => bytes.length + uptoBulk d + 1
  | (_, d) => uptoBulk d + 1
 end
def uptoSmall : (H : Type) → List (DataW H) → Bool := fun _ ds => decide (uptoBulkAll ds ≤ 1048576)
def OpenSpec.upto (s : _root_.Go.ChangeSpec) : _root_.Go.OpenSpec := { _root_.Go.OpenSpec.ofChange s with cond := some uptoSmall }

/-- 'haystacklaw9.SegmentOrder', WHERE WHAT IT READS IS OF BULK AT MOST 1048576: true; the input reads as it did. -/
def segmentOrderUptoRow : OpenClaim := { program := "ytphccomhggnccaagreat", sum := "1d8b0e6f575297fc0694ba67f0a1f69906619be25aed3d9cc92064072c72c4a3", func := "haystack/haystacklaw9.SegmentOrder", spec := "segmentOrder", inPlace := ["internal/bytealg.abigen_runtime_cmpstring", "internal/bytealg.MakeNoZero"], unfollowed := true, recurses := true, apart := false, narrowed := true }
def SegmentOrderUptoSaid : Prop := segmentOrderUptoRow.holds Tryz.pinned (OpenSpec.upto segmentOrderSpec)

/-- 'haystacklaw9.SegmentPromotes', WHERE WHAT IT READS IS OF BULK AT MOST 1048576: true; the input reads as it did. -/
def segmentPromotesUptoRow : OpenClaim := { program := "ytphccomhggnccaagreat", sum := "1d8b0e6f575297fc0694ba67f0a1f69906619be25aed3d9cc92064072c72c4a3", func := "haystack/haystacklaw9.SegmentPromotes", spec := "segmentPromotes", inPlace := ["internal/bytealg.abigen_runtime_cmpstring", "internal/bytealg.MakeNoZero"], unfollowed := true, recurses := true, apart := false, narrowed := true }
def SegmentPromotesUptoSaid : Prop := segmentPromotesUptoRow.holds Tryz.pinned (OpenSpec.upto segmentPromotesSpec)

/-- 'haystacklaw9.SegmentMakes', WHERE WHAT IT READS IS OF BULK AT MOST 1048576: true; the input reads as it did. -/
def segmentMakesUptoRow : OpenClaim := { program := "ytphccomhggnccaagreat", sum := "1d8b0e6f575297fc0694ba67f0a1f69906619be25aed3d9cc92064072c72c4a3", func := "haystack/haystacklaw9.SegmentMakes", spec := "segmentMakes", inPlace := ["internal/bytealg.abigen_runtime_cmpstring", "internal/bytealg.MakeNoZero"], unfollowed := true, recurses := true, apart := false, narrowed := true }
def SegmentMakesUptoSaid : Prop := segmentMakesUptoRow.holds Tryz.pinned (OpenSpec.upto segmentMakesSpec)

/-- 'haystacklaw9.SegmentNewest', WHERE WHAT IT READS IS OF BULK AT MOST 1048576: true; the input reads as it did. -/
def segmentNewestUptoRow : OpenClaim := { program := "ytphccomhggnccaagreat", sum := "1d8b0e6f575297fc0694ba67f0a1f69906619be25aed3d9cc92064072c72c4a3", func := "haystack/haystacklaw9.SegmentNewest", spec := "segmentNewest", inPlace := ["internal/bytealg.abigen_runtime_cmpstring", "internal/bytealg.MakeNoZero"], unfollowed := true, recurses := true, apart := false, narrowed := true }
def SegmentNewestUptoSaid : Prop := segmentNewestUptoRow.holds Tryz.pinned (OpenSpec.upto segmentNewestSpec)

/-- 'haystacklaw9.SegmentOfNothing', WHERE WHAT IT READS IS OF BULK AT MOST 1048576: true; the input reads as it did. -/
def segmentOfNothingUptoRow : OpenClaim := { program := "ytphccomhggnccaagreat", sum := "1d8b0e6f575297fc0694ba67f0a1f69906619be25aed3d9cc92064072c72c4a3", func := "haystack/haystacklaw9.SegmentOfNothing", spec := "segmentOfNothing", inPlace := ["internal/bytealg.abigen_runtime_cmpstring", "internal/bytealg.MakeNoZero"], unfollowed := true, recurses := true, apart := false, narrowed := true }
def SegmentOfNothingUptoSaid : Prop := segmentOfNothingUptoRow.holds Tryz.pinned (OpenSpec.upto segmentOfNothingSpec)

/-- 'haystacklaw9.SegmentMerges', WHERE WHAT IT READS IS OF BULK AT MOST 1048576: true; the input reads as it did. -/
def segmentMergesUptoRow : OpenClaim := { program := "ytphccomhggnccaagreat", sum := "1d8b0e6f575297fc0694ba67f0a1f69906619be25aed3d9cc92064072c72c4a3", func := "haystack/haystacklaw9.SegmentMerges", spec := "segmentMerges", inPlace := ["internal/bytealg.abigen_runtime_cmpstring", "internal/bytealg.MakeNoZero"], unfollowed := true, recurses := true, apart := false, narrowed := true }
def SegmentMergesUptoSaid : Prop := segmentMergesUptoRow.holds Tryz.pinned (OpenSpec.upto segmentMergesSpec)

/-- 'haystacklaw9.SegmentParts', WHERE WHAT IT READS IS OF BULK AT MOST 1048576: true; the input reads as it did. -/
def segmentPartsUptoRow : OpenClaim := { program := "ytphccomhggnccaagreat", sum := "1d8b0e6f575297fc0694ba67f0a1f69906619be25aed3d9cc92064072c72c4a3", func := "haystack/haystacklaw9.SegmentParts", spec := "segmentParts", inPlace := ["internal/bytealg.abigen_runtime_cmpstring", "internal/bytealg.MakeNoZero"], unfollowed := true, recurses := true, apart := false, narrowed := true }
def SegmentPartsUptoSaid : Prop := segmentPartsUptoRow.holds Tryz.pinned (OpenSpec.upto segmentPartsSpec)

/-- 'haystacklaw9.SegmentBack', WHERE WHAT IT READS IS OF BULK AT MOST 1048576: true; the input reads as it did. -/
def segmentBackUptoRow : OpenClaim := { program := "ytphccomhggnccaagreat", sum := "1d8b0e6f575297fc0694ba67f0a1f69906619be25aed3d9cc92064072c72c4a3", func := "haystack/haystacklaw9.SegmentBack", spec := "segmentBack", inPlace := ["internal/bytealg.abigen_runtime_cmpstring", "internal/bytealg.MakeNoZero"], unfollowed := true, recurses := true, apart := false, narrowed := true }
def SegmentBackUptoSaid : Prop := segmentBackUptoRow.holds Tryz.pinned (OpenSpec.upto segmentBackSpec)

/-- 'haystacklaw9.SegmentDecodes', WHERE WHAT IT READS IS OF BULK AT MOST 1048576: true; the input reads as it did. -/
def segmentDecodesUptoRow : OpenClaim := { program := "ytphccomhggnccaagreat", sum := "1d8b0e6f575297fc0694ba67f0a1f69906619be25aed3d9cc92064072c72c4a3", func := "haystack/haystacklaw9.SegmentDecodes", spec := "segmentDecodes", inPlace := ["internal/bytealg.MakeNoZero", "internal/bytealg.abigen_runtime_cmpstring"], unfollowed := true, recurses := true, apart := false, narrowed := true }
def SegmentDecodesUptoSaid : Prop := segmentDecodesUptoRow.holds Tryz.pinned (OpenSpec.upto segmentDecodesSpec)

end Rows
end Go.Proofs.YtphccomhggnccaaGreat
