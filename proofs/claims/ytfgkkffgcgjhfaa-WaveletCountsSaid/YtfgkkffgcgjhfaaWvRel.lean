/- rows of Nat as rows of ints: counts, places. -/
import Derived.Test.YtfgkkffgcgjhfaaWvRefD
namespace Go.Proofs.Ytfgkkffgcgjhfaa
set_option linter.unusedVariables false
set_option linter.unusedSimpArgs false
open Go.RowKit PkMath Pop Rank BtMath Wv

def IL (l : List Nat) : List Int := l.map fun x : Nat => (x : Int)
theorem IL_length (l : List Nat) : (IL l).length = l.length := by simp [IL]
theorem IL_getD (l : List Nat) (i : Nat) (h : i < l.length) : (IL l).getD i 0 = ((l.getD i 0 : Nat) : Int) := by
  simp [IL, List.getD, List.getElem?_eq_getElem h]
theorem rk_IL (l : List Nat) (c i : Nat) : rk (IL l) (c : Int) i = rk l c i := by
  unfold rk IL
  rw [← List.map_take, List.count_eq_countP, List.countP_map, List.count_eq_countP]
  congr 1
  funext x
  simp only [Function.comp]
  rw [Bool.eq_iff_iff, beq_iff_eq, beq_iff_eq]
  omega
theorem rk_IL_neg (l : List Nat) (c : Int) (hc : c < 0) (i : Nat) : rk (IL l) c i = 0 := by
  unfold rk IL
  rw [List.count_eq_zero]
  intro h
  obtain ⟨x, _, hx⟩ := List.mem_map.1 (List.mem_of_mem_take h)
  omega
theorem cntZ_IL (l : List Nat) (c : Int) (a z : Nat) : cntZ (IL l) c a z = cntB l c a z := by
  unfold cntZ cntB seg IL
  rw [← List.map_take, ← List.map_drop, List.filter_map, List.length_map]
  rfl
theorem slZ_IL (l : List Nat) (c k : Int) : slZ (IL l) c k = slN l c k := by
  by_cases hk : k < 0
  · rw [slZ_neg hk]; unfold slN; rw [if_pos (.inl hk)]
  obtain ⟨q, rfl⟩ : ∃ q : Nat, k = (q : Int) := ⟨k.toNat, by omega⟩
  by_cases hc : c < 0
  · rw [slZ_none (by rw [rk_IL_neg l c hc]; omega)]; unfold slN; rw [if_pos (.inr hc)]
  obtain ⟨d, rfl⟩ : ∃ d : Nat, c = (d : Int) := ⟨c.toNat, by omega⟩
  unfold slN
  rw [if_neg (by omega), Int.toNat_natCast, Int.toNat_natCast]
  cases hs : sl l d q with
  | none =>
    apply slZ_none
    rw [rk_IL, IL_length]
    exact sl_none.1 hs
  | some p =>
    apply slZ_some
    obtain ⟨hp, hpc, hr⟩ := sl_some.1 hs
    refine sl_some.2 ⟨by rw [IL_length]; exact hp, ?_, by rw [rk_IL]; exact hr⟩
    simp [IL, hpc]
end Go.Proofs.Ytfgkkffgcgjhfaa
