/- haystacklaw2: known, alike. -/
import Derived.Test.YtfgkkffgcgjhfaaBtRefNew
namespace Go.Proofs.Ytfgkkffgcgjhfaa
set_option linter.unusedVariables false
set_option linter.unusedSimpArgs false
open Go.RowKit PkMath Pop Rank BtMath

def TrueBelow (w : World) (e : Ending) (w' : World) : Prop := e = .returned (.bool true) ∧ Below w.heap.size w w'

theorem below_step {w w1 w2 : World} (h : Below w.heap.size w w1) (k : Below w1.heap.size w1 w2) : Below w.heap.size w w2 :=
  ⟨k.os.trans h.os, k.tape.trans h.tape, k.output.trans h.output, Nat.le_trans h.size k.size, fun i hi => by rw [k.block i (Nat.lt_of_lt_of_le hi h.size), h.block i hi]⟩

set_option maxHeartbeats 1000000 in
theorem known_any (w : World) : Calls Try.prog 15 #[] w (TrueBelow w) := by
  have hV : VI [1, 3, 6] = [.int .i64 1, .int .i64 3, .int .i64 6] := rfl
  have hN := new_any (w.alloc (.cells #[.int .i64 1, .int .i64 3, .int .i64 6] 3)) 8 8 (by decide) (.inr rfl) (some ⟨w.heap.size, 0, none⟩) 3 3 [1, 3, 6] rfl (by decide) (by
    have := heap_alloc_new w (.cells #[.int .i64 1, .int .i64 3, .int .i64 6] 3)
    exact sl_blk (xs := VI [1, 3, 6]) this)
  have hl : laidAll (List.replicate 8 false) [1, 3, 6] 3 = [false, true, false, true, false, false, true, false] := by decide
  rw [hl] at hN
  have HN := Lib.hid hN
  have hB0 : Below w.heap.size w (w.alloc (.cells #[.int .i64 1, .int .i64 3, .int .i64 6] 3)) := (Below.refl _ w).alloc (Nat.le_refl _) _
  clear hN hl hV
  go_enter Try.func15, Try.ntmps15
  go_wp2_with fail
  go_at_call 16
  refine HN.out.mono ?_
  rintro e w1 ⟨b, rfl, hBV, hB⟩
  have hB1 := below_step hB0 hB
  clear hB hB0 HN
  have hc0 := hBV.c0
  go_wp2_with fail
  go_at_call 24
  refine (blen_cell _ _ _ hc0).mono ?_
  rintro e w' ⟨rfl, rfl⟩
  clear hc0
  go_wp2_with fail
  go_at_call 19
  refine (rank_any hBV true 4).mono ?_
  rintro e w' ⟨rfl, n, rfl⟩
  have hBV := hBV.drewN n
  have hB1 := below_step hB1 (below_drewN _ _ n)
  have hr : rk [false, true, false, true, false, false, true, false] true (4 : Int).toNat = 2 := by decide
  rw [hr]
  go_wp2_with fail
  go_at_call 18
  refine (select_any hBV true 2).mono ?_
  have hs : slI [false, true, false, true, false, false, true, false] true 2 = 6 := by decide
  rw [hs]
  rintro e w' ⟨rfl, hB⟩
  have hBV := hBV.below hB
  have hB1 := below_step hB1 hB
  go_wp2_with fail
  go_at_call 18
  refine (select_any hBV false 2).mono ?_
  have hs : slI [false, true, false, true, false, false, true, false] false 2 = 4 := by decide
  rw [hs]
  rintro e w' ⟨rfl, hB⟩
  have hB1 := below_step hB1 hB
  go_wp2_with fail
  go_ret
  exact ⟨rfl, hB1⟩

end Go.Proofs.Ytfgkkffgcgjhfaa
