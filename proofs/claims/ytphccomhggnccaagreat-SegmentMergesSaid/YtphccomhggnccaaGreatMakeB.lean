/- Rows of ints made; a row of which the first j are laid. -/
import Derived.Test.YtphccomhggnccaaGreatGen
namespace Go.Proofs.YtphccomhggnccaaGreat
set_option maxRecDepth 100000
set_option linter.unusedVariables false
set_option linter.unusedSimpArgs false
open Go.RowKit
theorem make_int (c : Nat) (hc : c ≤ 1099511627776) (w : World) :
    (Instr.makeSlice 26 (.int .i64 (c : Int)) (.int .i64 (c : Int))).run Tryz.prog w = .ok (.slice (some ⟨w.heap.size, 0, none⟩) c c) (w.alloc (.cells (I (List.replicate c 0)) 3)) := by
  obtain ⟨i0, hi, hz0, hz1, hz2⟩ := info_parts info_int
  have h := run_make (P := Tryz.prog) w 26 3 i0 (.int .i64 0) Tryz.underlying26 hi hz0 .i64 .i64 (c : Int) (c : Int) (by omega) (by omega) (by rw [hz2]; omega) (by omega)
  rw [h]
  have e : madeCells (Value.int .i64 0).cells (c * i0.size) = I (List.replicate c 0) := by
    rw [hz1, Nat.mul_one, madeCells_one _ rfl]
    simp [I]
  simp only [Int.toNat_natCast]
  rw [e]
def half (l : List Int) (j : Nat) : List Int := l.take j ++ List.replicate (l.length - j) 0
theorem half_length (l : List Int) (j : Nat) (h : j ≤ l.length) : (half l j).length = l.length := by
  unfold half; rw [List.length_append, List.length_take, List.length_replicate]; omega
theorem half_zero (l : List Int) : half l 0 = List.replicate l.length 0 := by simp [half]
theorem half_all (l : List Int) : half l l.length = l := by simp [half]
theorem half_set (l : List Int) (j : Nat) (h : j < l.length) : (half l j).set j (l.getD j 0) = half l (j + 1) := by
  unfold half
  have h1 : (l.take j).length = j := by rw [List.length_take]; omega
  rw [List.set_append_right _ _ (by omega), h1, Nat.sub_self, show l.length - j = (l.length - (j + 1)) + 1 by omega, List.replicate_succ, List.set_cons_zero, List.take_succ_eq_append_getElem h, List.append_assoc]
  simp [List.getD, List.getElem?_eq_getElem h]
end Go.Proofs.YtphccomhggnccaaGreat
