/- bwt: Counts at width 9. -/
import Derived.Test.YtphccomhggnccaaGreatFmTurnB
namespace Go.Proofs.YtphccomhggnccaaGreat
set_option linter.unusedVariables false
set_option linter.unusedSimpArgs false
set_option maxRecDepth 100000
open Go.RowKit Fm

/-- sums of counts ahead of a place -/
def cs (l : List Nat) (i : Nat) : Nat → Int := fun x => if x < i then ((lessN l x : Nat) : Int) else c1 l l.length x
theorem lessN_zero (l : List Nat) : lessN l 0 = 0 := by simp [lessN]
theorem lessN_succ (l : List Nat) (x : Nat) : lessN l (x + 1) = lessN l x + kc l x l.length := by
  unfold lessN kc
  rw [List.take_length, List.count_eq_length_filter, ← len_filter_or _ _ _ (by
    intro y _
    by_cases h : y < x
    · have : ¬ y = x := by omega
      simp [this]
    · simp [h])]
  congr 1
  refine filter_same _ _ _ fun y _ => ?_
  rw [Bool.eq_iff_iff]
  simp
  omega
theorem cs_start (l : List Nat) (m : Nat) : FA (m + 1) (c1 l l.length) = FA (m + 1) (cs l 1) := FA_same fun i _ => by
  unfold cs
  by_cases h : i < 1
  · obtain rfl : i = 0 := by omega
    rw [if_pos h, lessN_zero]; rfl
  · rw [if_neg h]
theorem cs_step (l : List Nat) (m i : Nat) (h1 : 1 ≤ i) : (FA (m + 1) (cs l i)).set i (cs l i i + cs l i (i - 1)) = FA (m + 1) (cs l (i + 1)) := by
  rw [FA_set]
  refine FA_same fun x _ => ?_
  by_cases e : x = i
  · subst e
    rw [if_pos rfl]
    unfold cs
    rw [if_neg (by omega), if_pos (by omega), if_pos (by omega)]
    obtain ⟨y, rfl⟩ : ∃ y, x = y + 1 := ⟨x - 1, by omega⟩
    rw [lessN_succ]
    unfold c1
    rw [if_neg (by omega), Nat.add_sub_cancel]
    omega
  · rw [if_neg e]
    unfold cs
    by_cases h : x < i
    · rw [if_pos h, if_pos (by omega)]
    · rw [if_neg h, if_neg (by omega)]
theorem cs_end (l : List Nat) (m : Nat) : FA (m + 1) (cs l (m + 1)) = NI ((List.range (m + 1)).map (lessN l)) := by
  rw [← NI_FA]
  exact FA_same fun i hi => by unfold cs; rw [if_pos hi]
theorem lessN_le (l : List Nat) (c : Nat) : lessN l c ≤ l.length := by unfold lessN; exact List.length_filter_le _ _
end Go.Proofs.YtphccomhggnccaaGreat
