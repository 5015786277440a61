/- A slice of bits that came in. -/
import Derived.Test.YtfgkkffgcgjhfaaBtLawA
import Derived.Test.YtfgkkffgcgjhfaaRows
import Derived.WalkKit
import Derived.Deep.Grids
namespace Go.Proofs.Ytfgkkffgcgjhfaa
set_option linter.unusedVariables false
set_option linter.unusedSimpArgs false
open Go.ChangeShapes Go.WideShapes Go.Deep Go.RowKit

/-- a slice of bits that came in -/
structure BArg (w : World) (A : Option Addr) (n c : Nat) (l : List Bool) : Prop where
  sl : Sl w A (VB l)
  len : l.length = n
  cap : n ≤ c
  nil : A = none → c = 0
theorem barg_of_trod {H : Type} {enc : TypeId × Value → H} {w : World} {A : Option Addr} {len cap : Nat} {d : DataW H} {ps : List MemPlace}
    (h : DataW.Trod enc Try.prog w 0 (fun _ => true) true 30 (.slice A len cap) d ps) : ∃ l, BArg w A len cap l := by
  obtain ⟨fuel, hf⟩ := h
  rcases open_bools Try.underlying30 Try.underlying4 (by kernel_rfl) hf with ⟨hcs, _⟩ | ⟨a, l, c, B, hcs, _, hl, hm, hx, hi⟩
  · simp [Value.cells] at hcs
    obtain ⟨rfl, rfl, rfl⟩ := hcs
    exact ⟨[], sl_nil w, rfl, Nat.le_refl _, fun _ => rfl⟩
  · simp [Value.cells] at hcs
    obtain ⟨rfl, rfl, rfl⟩ := hcs
    refine ⟨(List.range len).map B, ⟨fun e => (by cases e), fun b hb j u hu => ?_⟩, by simp, hl, fun e => (by cases e)⟩
    cases hb
    simp only [VB, List.map_map, List.getElem?_map] at hu
    by_cases hj : j < len
    · rw [List.getElem?_range hj] at hu
      simp only [Option.map_some, Option.some.injEq, Function.comp] at hu
      rw [hi j (by omega), ← hu]
    · rw [List.getElem?_eq_none (by simp; omega)] at hu
      cases hu
end Go.Proofs.Ytfgkkffgcgjhfaa
