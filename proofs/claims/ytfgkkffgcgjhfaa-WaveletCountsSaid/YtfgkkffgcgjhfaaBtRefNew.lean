/- haystackref2.New; known. -/
import Derived.Test.YtfgkkffgcgjhfaaBtRef
namespace Go.Proofs.Ytfgkkffgcgjhfaa
set_option linter.unusedVariables false
set_option linter.unusedSimpArgs false
open Go.RowKit PkMath Pop Rank BtMath

theorem info_bool : (Try.prog.info? 4).map (fun i => (i.zero, i.size, i.bytes)) = some (some (.bool false), 1, 1) := by kernel_rfl
theorem make_bool (c : Nat) (hc : c ≤ 1099511627776) (w : World) :
    (Instr.makeSlice 30 (.int .i64 (c : Int)) (.int .i64 (c : Int))).run Try.prog w = .ok (.slice (some ⟨w.heap.size, 0, none⟩) c c) (w.alloc (.cells (VB (List.replicate c false)).toArray 4)) := by
  obtain ⟨i0, hi, hz0, hz1, hz2⟩ := info_parts info_bool
  have h := run_make (P := Try.prog) w 30 4 i0 (.bool false) Try.underlying30 hi hz0 .i64 .i64 (c : Int) (c : Int) (by omega) (by omega) (by rw [hz2]; omega) (by omega)
  rw [h]
  have e : madeCells (Value.bool false).cells (c * i0.size) = (VB (List.replicate c false)).toArray := by
    rw [hz1, Nat.mul_one, madeCells_one _ rfl]
    simp [VB]
  simp only [Int.toNat_natCast]
  rw [e]
theorem VB_set (l : List Bool) (j : Nat) (b : Bool) : (VB l).toArray.setIfInBounds j (.bool b) = (VB (l.set j b)).toArray := by
  simp [VB, List.map_set]

/-- a row of bits, laid anew -/
def MadeRow (w : World) (l : List Bool) (e : Ending) (w' : World) : Prop :=
  ∃ g, e = .returned (.slice (some ⟨g, 0, none⟩) l.length l.length) ∧ w.heap.size ≤ g ∧ w'.heap[g]? = some (.cells (VB l).toArray 4 (0, 0)) ∧ Below w.heap.size w w'

set_option maxHeartbeats 1000000 in
theorem refnew_any (w : World) (n0 : Int) (n : Nat) (hn : n < 1048576) (hn0 : (n0 < 0 ∧ n = 0) ∨ n0 = (n : Int)) (A : Option Addr) (K cap : Nat) (xs : List Int) (hK : xs.length = K) (hK2 : K < 4611686018427387904) (hSl : Sl w A (VI xs)) :
    Calls Try.prog 21 #[.int .i64 n0, .slice A K cap] w (MadeRow w (laidAll (List.replicate n false) xs K)) := by
  have HK := Lib.hid hK
  clear hK
  have hmk := make_bool n (by omega)
  obtain ⟨W1, hW1⟩ : ∃ W1, W1 = w.alloc (.cells (VB (List.replicate n false)).toArray 4) := ⟨_, rfl⟩
  obtain ⟨g, hg⟩ : ∃ g, g = w.heap.size := ⟨_, rfl⟩
  have hblk : W1.heap[g]? = some (.cells (VB (List.replicate n false)).toArray 4 (0, 0)) := by rw [hW1, hg]; exact heap_alloc_new w _
  have hB1 : Below w.heap.size w W1 := by rw [hW1]; exact (Below.refl _ w).alloc (Nat.le_refl _) _
  have HW1 := Lib.hid hW1
  have hmk2 : (Instr.makeSlice 30 (.int .i64 (n : Int)) (.int .i64 (n : Int))).run Try.prog w = .ok (.slice (some ⟨g, 0, none⟩) n n) W1 := by rw [hW1, hg]; exact hmk w
  have Hg := Lib.hid hg
  clear hmk hW1 hg
  go_enter Try.func21, Try.ntmps21
  go_upto_region 1 with fail
  go_cut [5] (fun s wx => s = .slice (some ⟨g, 0, none⟩) n n ∧ wx = W1)
  case first =>
    rcases hn0 with ⟨h1, rfl⟩ | rfl
    · have hmk0 : (Instr.makeSlice 30 (.int .i64 0) (.int .i64 0)).run Try.prog w = .ok (.slice (some ⟨g, 0, none⟩) 0 0) W1 := hmk2
      clear hmk2
      go_wp2_with fail
      go_meet
      case rel => exact ⟨rfl, rfl⟩
    · by_cases hz : n = 0
      · subst hz
        have hmk0 : (Instr.makeSlice 30 (.int .i64 0) (.int .i64 0)).run Try.prog w = .ok (.slice (some ⟨g, 0, none⟩) 0 0) W1 := hmk2
        clear hmk2
        go_wp2_with fail
        go_meet
        case rel => exact ⟨rfl, rfl⟩
      · have hz2 : 0 < n := by omega
        clear hz
        go_wp2_with fail
        go_meet
        case rel => exact ⟨rfl, rfl⟩
  case rest =>
    clear hn0 hmk2
    obtain ⟨rfl, rfl⟩ := hcut
    go_wp2_with fail
    go_loopw [6] (fun i wr => ∃ j : Nat, j ≤ K ∧ i = .int .i64 (j : Int) ∧ wr.heap[g]? = some (.cells (VB (laidAll (List.replicate n false) xs j)).toArray 4 (0, 0)) ∧ Below w.heap.size w wr) (fun i _ => K - (intOf i).toNat)
    case atStart => exact ⟨0, Nat.zero_le _, rfl, hblk, hB1⟩
    case round =>
      clear hblk hB1
      obtain ⟨j, hj, rfl, hblk, hB⟩ := hrel
      by_cases hlt : j < K
      · obtain ⟨a, rfl, hca⟩ := (hSl.below hB).some (j := j) (by rw [VI_length, HK.out]; exact hlt)
        rw [VI_get _ _ (by rw [HK.out]; exact hlt)] at hca
        have hsucc := laidAll_succ (List.replicate n false) xs j (by rw [HK.out]; exact hlt)
        have hll := laidAll_length (List.replicate n false) xs j
        rw [List.length_replicate] at hll
        generalize xs.getD j 0 = x at *
        generalize laidAll (List.replicate n false) xs j = l1 at *
        by_cases hneg : x < 0
        · have h2 : laidAll (List.replicate n false) xs (j + 1) = l1 := by rw [hsucc]; unfold laid; rw [if_neg (by omega)]
          have H2 := Lib.hid h2
          clear h2 hsucc hll
          go_wp2_with fail
          refine ⟨⟨j + 1, by omega, rfl, by rw [H2.out]; exact hblk, hB⟩, ?_⟩
          show K - ((j : Int) + 1).toNat < K - ((j : Int)).toNat
          omega
        obtain ⟨y, rfl⟩ : ∃ y : Nat, x = (y : Int) := ⟨x.toNat, by omega⟩
        by_cases hy : y < n
        · have h2 : laidAll (List.replicate n false) xs (j + 1) = l1.set y true := by rw [hsucc]; unfold laid; rw [if_pos (by omega), Int.toNat_natCast]
          have H2 := Lib.hid h2
          have hcg : wr.cell? ⟨g, y, none⟩ = some (.bool (l1.getD y false)) := by
            rw [cell_blk hblk]
            have := VB_get l1 y (by omega)
            simpa using this
          have hfr : wr.frozen? ⟨g, y, none⟩ = false := frozen_blk hblk y
          clear h2 hsucc hll
          go_wp2_with fail
          refine ⟨⟨j + 1, by omega, rfl, ?_, below_cell hB (by rw [Hg.out]; exact Nat.le_refl _) _ _ rfl⟩, ?_⟩
          · rw [H2.out, ← VB_set]; exact blk_set hblk _ _
          show K - ((j : Int) + 1).toNat < K - ((j : Int)).toNat
          omega
        · have h2 : laidAll (List.replicate n false) xs (j + 1) = l1 := by rw [hsucc]; unfold laid; rw [if_neg (by omega)]
          have H2 := Lib.hid h2
          clear h2 hsucc hll
          go_wp2_with fail
          refine ⟨⟨j + 1, by omega, rfl, by rw [H2.out]; exact hblk, hB⟩, ?_⟩
          show K - ((j : Int) + 1).toNat < K - ((j : Int)).toNat
          omega
      · obtain rfl : j = K := by omega
        go_wp2_with fail
        go_ret
        refine ⟨g, ?_, by rw [Hg.out]; exact Nat.le_refl _, hblk, hB⟩
        rw [laidAll_length, List.length_replicate]
        rfl

end Go.Proofs.Ytfgkkffgcgjhfaa
