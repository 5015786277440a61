/- haystacklaw4: known. -/
import Derived.Test.YtfgkkffgcgjhfaaWvBldA
namespace Go.Proofs.Ytfgkkffgcgjhfaa
set_option linter.unusedVariables false
set_option linter.unusedSimpArgs false
open Go.RowKit PkMath Pop Rank BtMath Wv

set_option maxRecDepth 100000 in
set_option maxHeartbeats 2000000 in
theorem known4_any (w : World) : Calls Try.prog 30 #[] w (TrueBelow w) := by
  have hN := build_any (w.alloc (.cells #[.int .i64 2, .int .i64 5, .int .i64 2, .int .i64 7] 3)) (some ⟨w.heap.size, 0, none⟩) 4 4 3 [2, 5, 2, 7] (by decide) (by decide) rfl (by decide) (fun h => by cases h) (by
    have := heap_alloc_new w (.cells #[.int .i64 2, .int .i64 5, .int .i64 2, .int .i64 7] 3)
    exact sl_blk (xs := VI (IL [2, 5, 2, 7])) this) (by decide)
  have HN := Lib.hid hN
  have hB0 : Below w.heap.size w (w.alloc (.cells #[.int .i64 2, .int .i64 5, .int .i64 2, .int .i64 7] 3)) := (Below.refl _ w).alloc (Nat.le_refl _) _
  clear hN
  go_enter Try.func30, Try.ntmps30
  go_wp2_with fail
  go_at_call 26
  refine HN.out.mono ?_
  rintro e w1 ⟨b, rfl, hT, hB⟩
  have hB1 := below_step hB0 hB
  clear hB hB0 HN
  go_wp2_with fail
  go_at_call 27
  refine (trank_any hT 2 (by decide) 3).mono ?_
  rintro e w2 ⟨rfl, hB⟩
  have hT2 := hT.below hB
  have hB2 := below_step hB1 hB
  have hr : rk [2, 5, 2, 7] 2 (3 : Int).toNat = 2 := by decide
  rw [hr]
  clear hB hB1 hT hr
  go_wp2_with fail
  go_at_call 29
  refine (tsel_any hT2 2 1).mono ?_
  have hs : slN [2, 5, 2, 7] 2 1 = 2 := by decide
  rw [hs]
  rintro e w3 ⟨rfl, hB⟩
  have hT3 := hT2.below hB
  have hB3 := below_step hB2 hB
  clear hB hB2 hT2 hs
  go_wp2_with fail
  go_at_call 28
  refine (tbelow_any hT3 5 0 4).mono ?_
  have hs : cntB [2, 5, 2, 7] 5 (min [2, 5, 2, 7].length (0 : Int).toNat) (min [2, 5, 2, 7].length (4 : Int).toNat) = 2 := by decide
  rw [hs]
  rintro e w4 ⟨rfl, hB⟩
  have hB4 := below_step hB3 hB
  clear hB hB3 hT3 hs
  go_wp2_with fail
  go_ret
  exact ⟨rfl, hB4⟩
end Go.Proofs.Ytfgkkffgcgjhfaa
