/- Rows of bytes, as values. -/
import Derived.Test.YtphccomhggnccaaGreatGen
namespace Go.Proofs.YtphccomhggnccaaGreat
set_option maxRecDepth 100000
set_option linter.unusedVariables false
set_option linter.unusedSimpArgs false
open Go.RowKit
def VY (l : List Nat) : List Value := l.map fun c : Nat => Value.int .u8 (c : Int)
theorem VY_length (l : List Nat) : (VY l).length = l.length := by simp [VY]
theorem VY_get (l : List Nat) (j : Nat) (h : j < l.length) : (VY l)[j]? = some (.int .u8 ((l.getD j 0 : Nat) : Int)) := by
  simp [VY, List.getElem?_eq_getElem h]
theorem VY_one (xs : List Nat) : ∀ u ∈ VY xs, u.oneCell' = true := by
  intro u hu
  obtain ⟨x, _, rfl⟩ := List.mem_map.1 hu
  rfl
theorem VY_append (xs ys : List Nat) : VY (xs ++ ys) = VY xs ++ VY ys := by simp [VY]
end Go.Proofs.YtphccomhggnccaaGreat
