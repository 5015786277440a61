/-
  No cell of these rows narrows 'for every input' (looked for: loops, veiled, ifaces, maps, wideKeys, modest, calm, conditions, laid).
  DERIVED. THE GIVEN ROWS OF THIS SEAT. 12 by the template 'for every input the law returns true; each argument reads behind the call as it read before'; 0 by the template 'total and deterministic' (their statements: YtfgkkffgcgjhfaaTotals.lean).
  GIVEN WITH THE SEED: the statements are not yours to turn. If you find one false, say at which input.
  Laid BY PROGRAM, IN A SANDBOX (cutbox-rows.mjs): the forced cells as the released guide's own fill.sh prints them over the translation 06b5a72b9847101c… (all of the seat's roots in one cut). By AI agents, Wed Nov 11 2026. No macro, syntax, notation, axiom, sorry.
-/
import Derived.Test.YtfgkkffgcgjhfaaChecked
import GoSem.Claim
import GoSem.ClaimJoined
import GoSem.ClaimMapViews
import Derived.JoinedTies
import Derived.KernelRfl
namespace Go.Proofs.Ytfgkkffgcgjhfaa
/- THE CELL 'sum', in the pinned program and in every row, IS THE sha256 OF THE DUMP (.gsa) THAT YtfgkkffgcgjhfaaProg.lean LOADS. Nothing in Lean hashes anything: it is a label: what it is worth is what the hold of that sum in a sandbox is worth. -/
noncomputable def Try.pinned : Pinned := { name := "ytfgkkffgcgjhfaa", sum := "06b5a72b9847101c4dd44548e225c2a4b6b2373d8508cab8bebaf0252b9f3b0b", checked := Try.checked }
namespace Rows
def none {H : Type} : Left H := { results := [], args := [] }

/-- 'haystacklaw2.BitsLong': WHATEVER THE INPUT: true; the input reads as it did. -/
def bitsLongSpec : ChangeSpec := { name := "bitsLong", fn := fun _ => fun
  | [d1, d2, d3] => { results := [.lit (.bool true)], args := [d1, d2, d3] }
  | _ => none }
def bitsLongRow : OpenClaim := { program := "ytfgkkffgcgjhfaa", sum := "06b5a72b9847101c4dd44548e225c2a4b6b2373d8508cab8bebaf0252b9f3b0b", func := "haystack/haystacklaw2.BitsLong", spec := "bitsLong", unfollowed := true, recurses := true, apart := false }
def BitsLongSaid : Prop := bitsLongRow.holds Try.pinned (OpenSpec.ofChange bitsLongSpec)

/-- ITS FALSE NEIGHBOUR: 'it returns false'. Refute it at one input. -/
def bitsLongWrong : ChangeSpec := { name := "bitsLong", fn := fun _ => fun
  | [d1, d2, d3] => { results := [.lit (.bool false)], args := [d1, d2, d3] }
  | _ => none }
def BitsLongWrongFalsely : Prop := bitsLongRow.holds Try.pinned (OpenSpec.ofChange bitsLongWrong)

/-- 'haystacklaw2.BitsCount': WHATEVER THE INPUT: true; the input reads as it did. -/
def bitsCountSpec : ChangeSpec := { name := "bitsCount", fn := fun _ => fun
  | [d1, d2, d3] => { results := [.lit (.bool true)], args := [d1, d2, d3] }
  | _ => none }
def bitsCountRow : OpenClaim := { program := "ytfgkkffgcgjhfaa", sum := "06b5a72b9847101c4dd44548e225c2a4b6b2373d8508cab8bebaf0252b9f3b0b", func := "haystack/haystacklaw2.BitsCount", spec := "bitsCount", unfollowed := true, recurses := true, apart := false }
def BitsCountSaid : Prop := bitsCountRow.holds Try.pinned (OpenSpec.ofChange bitsCountSpec)

/-- ITS FALSE NEIGHBOUR: 'it returns false'. Refute it at one input. -/
def bitsCountWrong : ChangeSpec := { name := "bitsCount", fn := fun _ => fun
  | [d1, d2, d3] => { results := [.lit (.bool false)], args := [d1, d2, d3] }
  | _ => none }
def BitsCountWrongFalsely : Prop := bitsCountRow.holds Try.pinned (OpenSpec.ofChange bitsCountWrong)

/-- 'haystacklaw2.BitsBack': WHATEVER THE INPUT: true; the input reads as it did. -/
def bitsBackSpec : ChangeSpec := { name := "bitsBack", fn := fun _ => fun
  | [d1, d2, d3] => { results := [.lit (.bool true)], args := [d1, d2, d3] }
  | _ => none }
def bitsBackRow : OpenClaim := { program := "ytfgkkffgcgjhfaa", sum := "06b5a72b9847101c4dd44548e225c2a4b6b2373d8508cab8bebaf0252b9f3b0b", func := "haystack/haystacklaw2.BitsBack", spec := "bitsBack", unfollowed := true, recurses := true, apart := false }
def BitsBackSaid : Prop := bitsBackRow.holds Try.pinned (OpenSpec.ofChange bitsBackSpec)

/-- ITS FALSE NEIGHBOUR: 'it returns false'. Refute it at one input. -/
def bitsBackWrong : ChangeSpec := { name := "bitsBack", fn := fun _ => fun
  | [d1, d2, d3] => { results := [.lit (.bool false)], args := [d1, d2, d3] }
  | _ => none }
def BitsBackWrongFalsely : Prop := bitsBackRow.holds Try.pinned (OpenSpec.ofChange bitsBackWrong)

/-- 'haystacklaw2.BitsOfNothing': WHATEVER THE INPUT: true; the input reads as it did. -/
def bitsOfNothingSpec : ChangeSpec := { name := "bitsOfNothing", fn := fun _ => fun
  | [d1, d2] => { results := [.lit (.bool true)], args := [d1, d2] }
  | _ => none }
def bitsOfNothingRow : OpenClaim := { program := "ytfgkkffgcgjhfaa", sum := "06b5a72b9847101c4dd44548e225c2a4b6b2373d8508cab8bebaf0252b9f3b0b", func := "haystack/haystacklaw2.BitsOfNothing", spec := "bitsOfNothing", unfollowed := true, recurses := true, apart := false }
def BitsOfNothingSaid : Prop := bitsOfNothingRow.holds Try.pinned (OpenSpec.ofChange bitsOfNothingSpec)

/-- ITS FALSE NEIGHBOUR: 'it returns false'. Refute it at one input. -/
def bitsOfNothingWrong : ChangeSpec := { name := "bitsOfNothing", fn := fun _ => fun
  | [d1, d2] => { results := [.lit (.bool false)], args := [d1, d2] }
  | _ => none }
def BitsOfNothingWrongFalsely : Prop := bitsOfNothingRow.holds Try.pinned (OpenSpec.ofChange bitsOfNothingWrong)

/-- 'haystacklaw2.BitsSums': WHATEVER THE INPUT: true; the input reads as it did. -/
def bitsSumsSpec : ChangeSpec := { name := "bitsSums", fn := fun _ => fun
  | [d1, d2] => { results := [.lit (.bool true)], args := [d1, d2] }
  | _ => none }
def bitsSumsRow : OpenClaim := { program := "ytfgkkffgcgjhfaa", sum := "06b5a72b9847101c4dd44548e225c2a4b6b2373d8508cab8bebaf0252b9f3b0b", func := "haystack/haystacklaw2.BitsSums", spec := "bitsSums", unfollowed := true, recurses := true, apart := false }
def BitsSumsSaid : Prop := bitsSumsRow.holds Try.pinned (OpenSpec.ofChange bitsSumsSpec)

/-- ITS FALSE NEIGHBOUR: 'it returns false'. Refute it at one input. -/
def bitsSumsWrong : ChangeSpec := { name := "bitsSums", fn := fun _ => fun
  | [d1, d2] => { results := [.lit (.bool false)], args := [d1, d2] }
  | _ => none }
def BitsSumsWrongFalsely : Prop := bitsSumsRow.holds Try.pinned (OpenSpec.ofChange bitsSumsWrong)

/-- 'haystacklaw2.BitsOf': WHATEVER THE INPUT: true; the input reads as it did. -/
def bitsOfSpec : ChangeSpec := { name := "bitsOf", fn := fun _ => fun
  | [d1, d2] => { results := [.lit (.bool true)], args := [d1, d2] }
  | _ => none }
def bitsOfRow : OpenClaim := { program := "ytfgkkffgcgjhfaa", sum := "06b5a72b9847101c4dd44548e225c2a4b6b2373d8508cab8bebaf0252b9f3b0b", func := "haystack/haystacklaw2.BitsOf", spec := "bitsOf", unfollowed := true, recurses := true, apart := false }
def BitsOfSaid : Prop := bitsOfRow.holds Try.pinned (OpenSpec.ofChange bitsOfSpec)

/-- ITS FALSE NEIGHBOUR: 'it returns false'. Refute it at one input. -/
def bitsOfWrong : ChangeSpec := { name := "bitsOf", fn := fun _ => fun
  | [d1, d2] => { results := [.lit (.bool false)], args := [d1, d2] }
  | _ => none }
def BitsOfWrongFalsely : Prop := bitsOfRow.holds Try.pinned (OpenSpec.ofChange bitsOfWrong)

/-- 'haystacklaw2.BitsFlips': WHATEVER THE INPUT: true; the input reads as it did. -/
def bitsFlipsSpec : ChangeSpec := { name := "bitsFlips", fn := fun _ => fun
  | [d1, d2] => { results := [.lit (.bool true)], args := [d1, d2] }
  | _ => none }
def bitsFlipsRow : OpenClaim := { program := "ytfgkkffgcgjhfaa", sum := "06b5a72b9847101c4dd44548e225c2a4b6b2373d8508cab8bebaf0252b9f3b0b", func := "haystack/haystacklaw2.BitsFlips", spec := "bitsFlips", unfollowed := true, recurses := true, apart := false }
def BitsFlipsSaid : Prop := bitsFlipsRow.holds Try.pinned (OpenSpec.ofChange bitsFlipsSpec)

/-- ITS FALSE NEIGHBOUR: 'it returns false'. Refute it at one input. -/
def bitsFlipsWrong : ChangeSpec := { name := "bitsFlips", fn := fun _ => fun
  | [d1, d2] => { results := [.lit (.bool false)], args := [d1, d2] }
  | _ => none }
def BitsFlipsWrongFalsely : Prop := bitsFlipsRow.holds Try.pinned (OpenSpec.ofChange bitsFlipsWrong)

/-- 'haystacklaw4.WaveletJoins': WHATEVER THE INPUT: true; the input reads as it did. -/
def waveletJoinsSpec : ChangeSpec := { name := "waveletJoins", fn := fun _ => fun
  | [d1, d2, d3] => { results := [.lit (.bool true)], args := [d1, d2, d3] }
  | _ => none }
def waveletJoinsRow : OpenClaim := { program := "ytfgkkffgcgjhfaa", sum := "06b5a72b9847101c4dd44548e225c2a4b6b2373d8508cab8bebaf0252b9f3b0b", func := "haystack/haystacklaw4.WaveletJoins", spec := "waveletJoins", unfollowed := true, recurses := true, apart := false }
def WaveletJoinsSaid : Prop := waveletJoinsRow.holds Try.pinned (OpenSpec.ofChange waveletJoinsSpec)

/-- ITS FALSE NEIGHBOUR: 'it returns false'. Refute it at one input. -/
def waveletJoinsWrong : ChangeSpec := { name := "waveletJoins", fn := fun _ => fun
  | [d1, d2, d3] => { results := [.lit (.bool false)], args := [d1, d2, d3] }
  | _ => none }
def WaveletJoinsWrongFalsely : Prop := waveletJoinsRow.holds Try.pinned (OpenSpec.ofChange waveletJoinsWrong)

/-- 'haystacklaw4.WaveletAll': WHATEVER THE INPUT: true; the input reads as it did. -/
def waveletAllSpec : ChangeSpec := { name := "waveletAll", fn := fun _ => fun
  | [d1, d2, d3] => { results := [.lit (.bool true)], args := [d1, d2, d3] }
  | _ => none }
def waveletAllRow : OpenClaim := { program := "ytfgkkffgcgjhfaa", sum := "06b5a72b9847101c4dd44548e225c2a4b6b2373d8508cab8bebaf0252b9f3b0b", func := "haystack/haystacklaw4.WaveletAll", spec := "waveletAll", unfollowed := true, recurses := true, apart := false }
def WaveletAllSaid : Prop := waveletAllRow.holds Try.pinned (OpenSpec.ofChange waveletAllSpec)

/-- ITS FALSE NEIGHBOUR: 'it returns false'. Refute it at one input. -/
def waveletAllWrong : ChangeSpec := { name := "waveletAll", fn := fun _ => fun
  | [d1, d2, d3] => { results := [.lit (.bool false)], args := [d1, d2, d3] }
  | _ => none }
def WaveletAllWrongFalsely : Prop := waveletAllRow.holds Try.pinned (OpenSpec.ofChange waveletAllWrong)

/-- 'haystacklaw4.WaveletBack': WHATEVER THE INPUT: true; the input reads as it did. -/
def waveletBackSpec : ChangeSpec := { name := "waveletBack", fn := fun _ => fun
  | [d1, d2, d3] => { results := [.lit (.bool true)], args := [d1, d2, d3] }
  | _ => none }
def waveletBackRow : OpenClaim := { program := "ytfgkkffgcgjhfaa", sum := "06b5a72b9847101c4dd44548e225c2a4b6b2373d8508cab8bebaf0252b9f3b0b", func := "haystack/haystacklaw4.WaveletBack", spec := "waveletBack", unfollowed := true, recurses := true, apart := false }
def WaveletBackSaid : Prop := waveletBackRow.holds Try.pinned (OpenSpec.ofChange waveletBackSpec)

/-- ITS FALSE NEIGHBOUR: 'it returns false'. Refute it at one input. -/
def waveletBackWrong : ChangeSpec := { name := "waveletBack", fn := fun _ => fun
  | [d1, d2, d3] => { results := [.lit (.bool false)], args := [d1, d2, d3] }
  | _ => none }
def WaveletBackWrongFalsely : Prop := waveletBackRow.holds Try.pinned (OpenSpec.ofChange waveletBackWrong)

/-- 'haystacklaw4.WaveletCounts': WHATEVER THE INPUT: true; the input reads as it did. -/
def waveletCountsSpec : ChangeSpec := { name := "waveletCounts", fn := fun _ => fun
  | [d1, d2, d3] => { results := [.lit (.bool true)], args := [d1, d2, d3] }
  | _ => none }
def waveletCountsRow : OpenClaim := { program := "ytfgkkffgcgjhfaa", sum := "06b5a72b9847101c4dd44548e225c2a4b6b2373d8508cab8bebaf0252b9f3b0b", func := "haystack/haystacklaw4.WaveletCounts", spec := "waveletCounts", unfollowed := true, recurses := true, apart := false }
def WaveletCountsSaid : Prop := waveletCountsRow.holds Try.pinned (OpenSpec.ofChange waveletCountsSpec)

/-- ITS FALSE NEIGHBOUR: 'it returns false'. Refute it at one input. -/
def waveletCountsWrong : ChangeSpec := { name := "waveletCounts", fn := fun _ => fun
  | [d1, d2, d3] => { results := [.lit (.bool false)], args := [d1, d2, d3] }
  | _ => none }
def WaveletCountsWrongFalsely : Prop := waveletCountsRow.holds Try.pinned (OpenSpec.ofChange waveletCountsWrong)

/-- 'haystacklaw4.WaveletOfNothing': WHATEVER THE INPUT: true; the input reads as it did. -/
def waveletOfNothingSpec : ChangeSpec := { name := "waveletOfNothing", fn := fun _ => fun
  | [d] => { results := [.lit (.bool true)], args := [d] }
  | _ => none }
def waveletOfNothingRow : OpenClaim := { program := "ytfgkkffgcgjhfaa", sum := "06b5a72b9847101c4dd44548e225c2a4b6b2373d8508cab8bebaf0252b9f3b0b", func := "haystack/haystacklaw4.WaveletOfNothing", spec := "waveletOfNothing", unfollowed := true, recurses := true, apart := false }
def WaveletOfNothingSaid : Prop := waveletOfNothingRow.holds Try.pinned (OpenSpec.ofChange waveletOfNothingSpec)

/-- ITS FALSE NEIGHBOUR: 'it returns false'. Refute it at one input. -/
def waveletOfNothingWrong : ChangeSpec := { name := "waveletOfNothing", fn := fun _ => fun
  | [d] => { results := [.lit (.bool false)], args := [d] }
  | _ => none }
def WaveletOfNothingWrongFalsely : Prop := waveletOfNothingRow.holds Try.pinned (OpenSpec.ofChange waveletOfNothingWrong)

/- THE SECOND FORM. 'bulk': how many values and letters a reading holds, each counted each time it is reached (what is shared counts as often as it is met; a slice's spare places count too). A statement '..UptoSaid' is the law's where the arguments, and the package variables that the reading takes, are together of bulk at most 1048576: NARROWER than '..Said'. Prove '..Said' where nothing that the law and all that it calls make is longer than what came in: it says more and counts as full. Else prove '..UptoSaid'. A law counts once. -/
mutual
def uptoBulk {H : Type} : DataW H → Nat
  | .lit (.string bytes) => bytes.length + 1
  | .lit _ => 1
  | .nil => 1
  | .ptr d => uptoBulk d + 1
  | .slice elems spare => uptoBulkAll elems + uptoBulkAll spare + 1
  | .agg parts => uptoBulkAll parts + 1
  | .iface _ d => uptoBulk d + 1
  | .map entries => uptoBulkEntries entries + 1
  | .held _ => 1
def uptoBulkAll {H : Type} : List (DataW H) → Nat
  | [] => 0
  | d :: r => uptoBulk d + uptoBulkAll r
def uptoBulkEntries {H : Type} : List (Lit × DataW H) → Nat
  | [] => 0
  | x :: r => uptoBulkEntry x + uptoBulkEntries r
def uptoBulkEntry {H : Type} : Lit × DataW H → Nat
  | (.string bytes, d) => bytes.length + uptoBulk d + 1
  | (_, d) => uptoBulk d + 1
 end
def uptoSmall : (H : Type) → List (DataW H) → Bool := fun _ ds => decide (uptoBulkAll ds ≤ 1048576)
def OpenSpec.upto (s : _root_.Go.ChangeSpec) : _root_.Go.OpenSpec := { _root_.Go.OpenSpec.ofChange s with cond := some uptoSmall }

/-- 'haystacklaw2.BitsLong', WHERE WHAT IT READS IS OF BULK AT MOST 1048576: true; the input reads as it did. -/
def bitsLongUptoRow : OpenClaim := { program := "ytfgkkffgcgjhfaa", sum := "06b5a72b9847101c4dd44548e225c2a4b6b2373d8508cab8bebaf0252b9f3b0b", func := "haystack/haystacklaw2.BitsLong", spec := "bitsLong", unfollowed := true, recurses := true, apart := false, narrowed := true }
def BitsLongUptoSaid : Prop := bitsLongUptoRow.holds Try.pinned (OpenSpec.upto bitsLongSpec)

/-- 'haystacklaw2.BitsCount', WHERE WHAT IT READS IS OF BULK AT MOST 1048576: true; the input reads as it did. -/
def bitsCountUptoRow : OpenClaim := { program := "ytfgkkffgcgjhfaa", sum := "06b5a72b9847101c4dd44548e225c2a4b6b2373d8508cab8bebaf0252b9f3b0b", func := "haystack/haystacklaw2.BitsCount", spec := "bitsCount", unfollowed := true, recurses := true, apart := false, narrowed := true }
def BitsCountUptoSaid : Prop := bitsCountUptoRow.holds Try.pinned (OpenSpec.upto bitsCountSpec)

/-- 'haystacklaw2.BitsBack', WHERE WHAT IT READS IS OF BULK AT MOST 1048576: true; the input reads as it did. -/
def bitsBackUptoRow : OpenClaim := { program := "ytfgkkffgcgjhfaa", sum := "06b5a72b9847101c4dd44548e225c2a4b6b2373d8508cab8bebaf0252b9f3b0b", func := "haystack/haystacklaw2.BitsBack", spec := "bitsBack", unfollowed := true, recurses := true, apart := false, narrowed := true }
def BitsBackUptoSaid : Prop := bitsBackUptoRow.holds Try.pinned (OpenSpec.upto bitsBackSpec)

/-- 'haystacklaw2.BitsOfNothing', WHERE WHAT IT READS IS OF BULK AT MOST 1048576: true; the input reads as it did. -/
def bitsOfNothingUptoRow : OpenClaim := { program := "ytfgkkffgcgjhfaa", sum := "06b5a72b9847101c4dd44548e225c2a4b6b2373d8508cab8bebaf0252b9f3b0b", func := "haystack/haystacklaw2.BitsOfNothing", spec := "bitsOfNothing", unfollowed := true, recurses := true, apart := false, narrowed := true }
def BitsOfNothingUptoSaid : Prop := bitsOfNothingUptoRow.holds Try.pinned (OpenSpec.upto bitsOfNothingSpec)

/-- 'haystacklaw2.BitsSums', WHERE WHAT IT READS IS OF BULK AT MOST 1048576: true; the input reads as it did. -/
def bitsSumsUptoRow : OpenClaim := { program := "ytfgkkffgcgjhfaa", sum := "06b5a72b9847101c4dd44548e225c2a4b6b2373d8508cab8bebaf0252b9f3b0b", func := "haystack/haystacklaw2.BitsSums", spec := "bitsSums", unfollowed := true, recurses := true, apart := false, narrowed := true }
def BitsSumsUptoSaid : Prop := bitsSumsUptoRow.holds Try.pinned (OpenSpec.upto bitsSumsSpec)

/-- 'haystacklaw2.BitsOf', WHERE WHAT IT READS IS OF BULK AT MOST 1048576: true; the input reads as it did. -/
def bitsOfUptoRow : OpenClaim := { program := "ytfgkkffgcgjhfaa", sum := "06b5a72b9847101c4dd44548e225c2a4b6b2373d8508cab8bebaf0252b9f3b0b", func := "haystack/haystacklaw2.BitsOf", spec := "bitsOf", unfollowed := true, recurses := true, apart := false, narrowed := true }
def BitsOfUptoSaid : Prop := bitsOfUptoRow.holds Try.pinned (OpenSpec.upto bitsOfSpec)

/-- 'haystacklaw2.BitsFlips', WHERE WHAT IT READS IS OF BULK AT MOST 1048576: true; the input reads as it did. -/
def bitsFlipsUptoRow : OpenClaim := { program := "ytfgkkffgcgjhfaa", sum := "06b5a72b9847101c4dd44548e225c2a4b6b2373d8508cab8bebaf0252b9f3b0b", func := "haystack/haystacklaw2.BitsFlips", spec := "bitsFlips", unfollowed := true, recurses := true, apart := false, narrowed := true }
def BitsFlipsUptoSaid : Prop := bitsFlipsUptoRow.holds Try.pinned (OpenSpec.upto bitsFlipsSpec)

/-- 'haystacklaw4.WaveletJoins', WHERE WHAT IT READS IS OF BULK AT MOST 1048576: true; the input reads as it did. -/
def waveletJoinsUptoRow : OpenClaim := { program := "ytfgkkffgcgjhfaa", sum := "06b5a72b9847101c4dd44548e225c2a4b6b2373d8508cab8bebaf0252b9f3b0b", func := "haystack/haystacklaw4.WaveletJoins", spec := "waveletJoins", unfollowed := true, recurses := true, apart := false, narrowed := true }
def WaveletJoinsUptoSaid : Prop := waveletJoinsUptoRow.holds Try.pinned (OpenSpec.upto waveletJoinsSpec)

/-- 'haystacklaw4.WaveletAll', WHERE WHAT IT READS IS OF BULK AT MOST 1048576: true; the input reads as it did. -/
def waveletAllUptoRow : OpenClaim := { program := "ytfgkkffgcgjhfaa", sum := "06b5a72b9847101c4dd44548e225c2a4b6b2373d8508cab8bebaf0252b9f3b0b", func := "haystack/haystacklaw4.WaveletAll", spec := "waveletAll", unfollowed := true, recurses := true, apart := false, narrowed := true }
def WaveletAllUptoSaid : Prop := waveletAllUptoRow.holds Try.pinned (OpenSpec.upto waveletAllSpec)

/-- 'haystacklaw4.WaveletBack', WHERE WHAT IT READS IS OF BULK AT MOST 1048576: true; the input reads as it did. -/
def waveletBackUptoRow : OpenClaim := { program := "ytfgkkffgcgjhfaa", sum := "06b5a72b9847101c4dd44548e225c2a4b6b2373d8508cab8bebaf0252b9f3b0b", func := "haystack/haystacklaw4.WaveletBack", spec := "waveletBack", unfollowed := true, recurses := true, apart := false, narrowed := true }
def WaveletBackUptoSaid : Prop := waveletBackUptoRow.holds Try.pinned (OpenSpec.upto waveletBackSpec)

/-- 'haystacklaw4.WaveletCounts', WHERE WHAT IT READS IS OF BULK AT MOST 1048576: true; the input reads as it did. -/
def waveletCountsUptoRow : OpenClaim := { program := "ytfgkkffgcgjhfaa", sum := "06b5a72b9847101c4dd44548e225c2a4b6b2373d8508cab8bebaf0252b9f3b0b", func := "haystack/haystacklaw4.WaveletCounts", spec := "waveletCounts", unfollowed := true, recurses := true, apart := false, narrowed := true }
def WaveletCountsUptoSaid : Prop := waveletCountsUptoRow.holds Try.pinned (OpenSpec.upto waveletCountsSpec)

/-- 'haystacklaw4.WaveletOfNothing', WHERE WHAT IT READS IS OF BULK AT MOST 1048576: true; the input reads as it did. -/
def waveletOfNothingUptoRow : OpenClaim := { program := "ytfgkkffgcgjhfaa", sum := "06b5a72b9847101c4dd44548e225c2a4b6b2373d8508cab8bebaf0252b9f3b0b", func := "haystack/haystacklaw4.WaveletOfNothing", spec := "waveletOfNothing", unfollowed := true, recurses := true, apart := false, narrowed := true }
def WaveletOfNothingUptoSaid : Prop := waveletOfNothingUptoRow.holds Try.pinned (OpenSpec.upto waveletOfNothingSpec)

end Rows
end Go.Proofs.Ytfgkkffgcgjhfaa
