/- How long a slice that came in may be, any program. -/
import Derived.Test.YtfgkkffgcgjhfaaRows
import Derived.WalkKit
import Derived.SizedLaws
import Derived.ChangeArms
namespace Go.Proofs.Ytfgkkffgcgjhfaa
set_option linter.unusedVariables false
set_option linter.unusedSimpArgs false
open Go.ChangeShapes Go.WideShapes
theorem reach_of {H : Type} {enc : TypeId × Value → H} {P : Program} {w : World} {base : Nat} {spare : Nat → Bool} {held : Bool} {ts : List TypeId} {ds : List (DataW H)} {j : Nat} {t e : TypeId} {A : Option Addr} {len cap : Nat} {d : DataW H} {ps : List MemPlace}
    (hsz : (DataW.weightsEach P ts ds).all (· ≤ reachBytes) = true) (ht : ts[j]? = some t) (hd : ds[j]? = some d) (hu : P.underlying t = some (.slice e)) (hby : 1 ≤ P.bytesOf e) (h : DataW.Trod enc P w base spare held t (.slice A len cap) d ps) :
    len ≤ 140737488351232 := by
  refine Nat.le_trans (by simpa using Nat.mul_le_mul_left len hby : len ≤ len * P.bytesOf e) ?_
  obtain ⟨fuel, hf⟩ := h
  rcases DataW.trod_slice hu hf with ⟨hcs, _⟩ | ⟨a, l, c, elems, rest, n, _, hcs, hx, _, _, _, hl, _⟩
  · simp [Value.cells] at hcs
    obtain ⟨rfl, rfl, rfl⟩ := hcs
    rw [Nat.zero_mul]
    exact Nat.zero_le _
  · simp [Value.cells] at hcs
    obtain ⟨rfl, rfl, rfl⟩ := hcs
    have hd2 : d = _ := congrArg Prod.fst hx
    have := sized_slice hsz ht (by rw [hd, hd2]) hu
    simp only [List.length_map] at this
    have h2 : len * P.bytesOf e ≤ (elems.length + rest.length) * P.bytesOf e := Nat.mul_le_mul_right _ (by omega)
    exact Nat.le_trans h2 (Nat.le_trans this (by decide))
end Go.Proofs.Ytfgkkffgcgjhfaa
