/- haystacklaw4: WaveletOfNothing. -/
import Derived.Test.YtfgkkffgcgjhfaaWvZ
import Derived.Deep.RegionHeld3
namespace Go.Proofs.Ytfgkkffgcgjhfaa
set_option linter.unusedVariables false
set_option linter.unusedSimpArgs false
open Go.RowKit PkMath Pop Rank BtMath Wv

theorem below_dr (w : World) : Below w.heap.size w w.drew := ⟨rfl, rfl, rfl, Nat.le_refl _, fun _ _ => rfl⟩
/-- three cells that are held -/
theorem held_3 {w2 W' : World} {a1 a2 a3 : Addr} {v1 v2 v3 : Value} (h1 : w2.cell? a1 = some v1) (h2 : w2.cell? a2 = some v2) (h3 : w2.cell? a3 = some v3) (k : Below w2.heap.size w2 W') :
    W'.cell? a1 = some v1 ∧ W'.cell? a2 = some v2 ∧ W'.cell? a3 = some v3 ∧ Below w2.heap.size w2 W' :=
  ⟨by rw [World.cell?_of_block (w := w2) (k.block _ (World.block_lt_of_cell? w2 _ h1))]; exact h1, by rw [World.cell?_of_block (w := w2) (k.block _ (World.block_lt_of_cell? w2 _ h2))]; exact h2, by rw [World.cell?_of_block (w := w2) (k.block _ (World.block_lt_of_cell? w2 _ h3))]; exact h3, k⟩
/-- the world, held -/
theorem held_b {p1 p2 p3 B : Prop} (h : p1 ∧ p2 ∧ p3 ∧ B) : B := h.2.2.2

set_option maxRecDepth 100000 in
set_option maxHeartbeats 2000000 in
theorem lawNothing4 (c i k : Int) (w : World) : Calls Try.prog 14 #[.agg #[.int .i64 c, .int .i64 i, .int .i64 k]] w (TrueBelow w) := by
  go_enter Try.func14, Try.ntmps14
  go_upto_region 2 with fail
  obtain ⟨wb, hwb⟩ : ∃ wb, w.alloc (.cells #[.int .i64 c, .int .i64 i, .int .i64 k] 54) = wb := ⟨_, rfl⟩
  have hn := heap_alloc_new w (.cells #[.int .i64 c, .int .i64 i, .int .i64 k] 54)
  have hB0 : Below w.heap.size w wb := by rw [← hwb]; exact (Below.refl _ w).alloc (Nat.le_refl _) _
  rw [hwb] at hn ⊢
  obtain ⟨bx, hbx⟩ : ∃ bx, w.heap.size = bx := ⟨_, rfl⟩
  rw [hbx] at hn ⊢
  have Hk := Lib.hid (fun (W' : World) => held_3 (W' := W') ((cell_blk hn 0).trans rfl) ((cell_blk hn 1).trans rfl) ((cell_blk hn 2).trans rfl))
  have HB0 := Lib.hid (fun (W' : World) => below_step (w2 := W') hB0)
  clear hn hwb hbx hB0
  go_region_held3 (fun w' => w'.cell? ⟨bx, 0, none⟩ = some (.int .i64 c) ∧ w'.cell? ⟨bx, 1, none⟩ = some (.int .i64 i) ∧ w'.cell? ⟨bx, 2, none⟩ = some (.int .i64 k) ∧ Below wb.heap.size wb w')
    (first | exact Hk.out _ (below_dr _) | exact Hk.out _ (below_step (held_b (by assumption)) (by assumption)) | exact Hk.out _ (by assumption) | assumption)
    (first
      | (go_at_call 32; refine (tlen_nil _).mono ?_; rintro e w5 ⟨rfl, rfl⟩)
      | (go_at_call 35; refine (twid_nil _).mono ?_; rintro e w5 ⟨rfl, rfl⟩)
      | (go_at_call 36; refine (tall_nil _).mono ?_; rintro e w5 ⟨rfl, rfl⟩)
      | (go_at_call 27; refine (trank_nil _ _ _).mono ?_; rintro e w5 ⟨rfl, rfl⟩)
      | (go_at_call 28; refine (tbelow_nil _ _ _ _).mono ?_; rintro e w5 ⟨rfl, rfl⟩)
      | (go_at_call 31; refine (tget_nil _ _).mono ?_; rintro e w5 ⟨rfl, rfl⟩)
      | (go_at_call 29; refine (tsel_nil _ _ _).mono ?_; rintro e w6 ⟨rfl, hB6⟩)
      | (go_at_call 30; refine (known4_any _).mono ?_; rintro e w8 ⟨rfl, hB8⟩))
  all_goals go_wp2_with fail
  all_goals go_ret
  all_goals exact ⟨rfl, HB0.out _ (by first | exact held_b (by assumption) | exact below_step (held_b (by assumption)) (by assumption))⟩
end Go.Proofs.Ytfgkkffgcgjhfaa
