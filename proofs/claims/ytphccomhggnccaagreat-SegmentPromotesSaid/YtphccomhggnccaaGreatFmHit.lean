/- fm: how places are put in order: Locate's closure, the shelf's sort at Hit. -/
import Derived.Test.YtphccomhggnccaaGreatShelf
import Derived.Test.YtphccomhggnccaaGreatFmPln
import Derived.Test.YtphccomhggnccaaGreatMakeB
import Derived.StillTailTactics
import Derived.Shelf.SlSortCmp.NoneTotal
namespace Go.Proofs.YtphccomhggnccaaGreat
set_option linter.unusedVariables false
set_option linter.unusedSimpArgs false
set_option maxRecDepth 100000
open Go.RowKit Fm Go.Shelf

/-- the first that is no 0 -/
def orI (x y : Int) : Int := if x = 0 then y else x
theorem or_any (b : Nat) (x y : Int) (w : World) (h0 : w.cell? ⟨b, 0, none⟩ = some (.int .i64 x)) (h1 : w.cell? ⟨b, 1, none⟩ = some (.int .i64 y)) :
    Calls Tryz.prog 61 #[.slice (some ⟨b, 0, none⟩) 2 2] w fun e w' => e = .returned (.int .i64 (orI x y)) ∧ w = w' := by
  by_cases hx : x = 0
  · subst hx
    by_cases hy : y = 0
    · subst hy
      go_enter Tryz.func61, Tryz.ntmps61
      go_wp2
      go_loop [8] (fun i => ∃ j : Nat, j ≤ 2 ∧ i = .int .i64 (j : Int)) (fun i => 2 - (intOf i).toNat)
      case atStart => exact ⟨0, by omega, rfl⟩
      case round =>
        obtain ⟨j, hj, rfl⟩ := hrel
        have hj3 : j = 0 ∨ j = 1 ∨ j = 2 := by omega
        rcases hj3 with rfl | rfl | rfl
        · go_wp2
          go_round
          case rel => exact ⟨1, by omega, by go_num⟩
          case measure => simp [intOf]
        · go_wp2
          go_round
          case rel => exact ⟨2, by omega, by go_num⟩
          case measure => simp [intOf]
        · go_wp2
          go_ret
          exact ⟨ret_int (by simp [orI, *]), rfl⟩
    · go_enter Tryz.func61, Tryz.ntmps61
      go_wp2
      go_loop [8] (fun i => ∃ j : Nat, j ≤ 1 ∧ i = .int .i64 (j : Int)) (fun i => 2 - (intOf i).toNat)
      case atStart => exact ⟨0, by omega, rfl⟩
      case round =>
        obtain ⟨j, hj, rfl⟩ := hrel
        have hj3 : j = 0 ∨ j = 1 := by omega
        rcases hj3 with rfl | rfl
        · go_wp2
          go_round
          case rel => exact ⟨1, by omega, by go_num⟩
          case measure => simp [intOf]
        · go_wp2
          go_ret
          exact ⟨ret_int (by simp [orI, *]), rfl⟩
  · go_enter Tryz.func61, Tryz.ntmps61
    go_wp2
    go_loop [8] (fun i => i = .int .i64 0) (fun i => 2 - (intOf i).toNat)
    case atStart => rfl
    case round =>
      obtain rfl := hrel
      go_wp2
      go_ret
      exact ⟨ret_int (by simp [orI, *]), rfl⟩
theorem alloc_grow (w : World) (o : Obj) : w.alloc o = Sort.grow w #[o] := by
  unfold World.alloc Sort.grow
  rw [Array.push_eq_append]
theorem drew_grow (w : World) (os : Array Obj) : (Sort.grow w os).drew = Sort.grow w.drew os := rfl
/-- two places compared -/
def cmpHit (a b : Int × Int) : Int := orI (Lib.compareInt a.1 b.1) (Lib.compareInt a.2 b.2)
def encHit (h : Int × Int) : List Value := [.int .i64 h.1, .int .i64 h.2]
set_option maxHeartbeats 2000000 in
theorem less_any (x y : Int × Int) (w : World) :
    Calls Tryz.prog 60 #[.agg (encHit x).toArray, .agg (encHit y).toArray] w fun e w' => e = .returned (.int .i64 (cmpHit x y)) ∧ ∃ q os', w' = Sort.grow (w.drewN q) os' := by
  obtain ⟨x1, x2⟩ := x
  obtain ⟨y1, y2⟩ := y
  unfold encHit
  go_enter Tryz.func60, Tryz.ntmps60
  go_wp2_with fail
  refine wp_region_still_tail 10 (by kernel_rfl) (by kernel_rfl) ?_
  simp only [List.take_succ_cons, List.take_zero, List.drop_succ_cons, List.drop_zero]
  change wpStill _ _ (World.drew _) (fun a' => wpList _ _ _ _ a' (World.drew _)) _ _
  repeat (first | still_step | still_call (Tryz.cmp_Compare_int _ _ _))
  refine wpStill_nil ?_
  obtain ⟨W0, hW0⟩ : ∃ W0, ((w.alloc (.cells #[.int .i64 x1, .int .i64 x2] 55)).alloc (.cells #[.int .i64 y1, .int .i64 y2] 55)).drew = W0 := ⟨_, rfl⟩
  rw [hW0]
  have HW0 := Lib.hid hW0
  clear hW0
  obtain ⟨c1, hc1⟩ : ∃ c, Lib.compareInt x1 y1 = c := ⟨_, rfl⟩
  obtain ⟨c2, hc2⟩ : ∃ c, Lib.compareInt x2 y2 = c := ⟨_, rfl⟩
  have HC : Hid (cmpHit (x1, x2) (y1, y2) = orI c1 c2) := by rw [← hc1, ← hc2]; rfl
  rw [hc1, hc2]
  clear hc1 hc2
  have h0 := (cell_blk (heap_alloc_new W0 (.cells #[.int .i64 c1, .int .i64 c2] 3)) 0).trans rfl
  have h1 := (cell_blk (heap_alloc_new W0 (.cells #[.int .i64 c1, .int .i64 c2] 3)) 1).trans rfl
  have HO := Lib.hid (or_any W0.heap.size c1 c2 _ h0 h1)
  clear h0 h1
  go_wp2_with fail
  go_at_call 61
  refine HO.out.mono ?_
  rintro e w' ⟨rfl, rfl⟩
  go_wp2_with fail
  go_ret
  refine ⟨ret_int HC.out.symm, 1, #[.cells #[.int .i64 x1, .int .i64 x2] 55, .cells #[.int .i64 y1, .int .i64 y2] 55, .cells #[.int .i64 c1, .int .i64 c2] 3], ?_⟩
  rw [← HW0.out, alloc_grow, alloc_grow, alloc_grow, Sort.grow_grow, drew_grow, Sort.grow_grow]
  rfl
end Go.Proofs.YtphccomhggnccaaGreat
