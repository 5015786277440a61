/- fm: what the parts of an Index are, as lists. -/
import Derived.Test.YtphccomhggnccaaGreatFmCntB
namespace Go.Proofs.YtphccomhggnccaaGreat
set_option linter.unusedVariables false
set_option linter.unusedSimpArgs false
open Go.RowKit Fm

/-- behind each symbol 1 a text begins -/
def stp (s : List Nat) (j : Nat) : List Nat := 0 :: ((List.range j).filter fun i => s.getD i 0 == 1).map (· + 1)
theorem stp_succ (s : List Nat) (j : Nat) : stp s (j + 1) = stp s j ++ if s.getD j 0 = 1 then [j + 1] else [] := by
  unfold stp
  rw [List.range_succ, List.filter_append, List.map_append, List.cons_append]
  congr 2
  by_cases h : s.getD j 0 = 1
  · rw [if_pos h, List.filter_cons, if_pos (by rw [h]; rfl)]; rfl
  · rw [if_neg h, List.filter_cons, if_neg (by simpa using h)]; rfl
theorem stp_le (s : List Nat) (j : Nat) : (stp s j).length ≤ j + 1 := by
  have h1 := List.length_filter_le (fun i => s.getD i 0 == 1) (List.range j)
  have h2 := List.length_range (n := j)
  simp only [stp, List.length_cons, List.length_map]
  omega
/-- the places in the order that are written down, and what stands there -/
def ons (sa : List Nat) (j : Nat) : List Nat := (List.range j).filter fun i => sa.getD i 0 % 8 == 0
def plc (sa : List Nat) (j : Nat) : List Nat := (ons sa j).map fun i => sa.getD i 0
theorem ons_succ (sa : List Nat) (j : Nat) : ons sa (j + 1) = ons sa j ++ if sa.getD j 0 % 8 = 0 then [j] else [] := by
  unfold ons
  rw [List.range_succ, List.filter_append]
  congr 1
  by_cases h : sa.getD j 0 % 8 = 0 <;> simp [List.filter_cons, h]
theorem plc_succ (sa : List Nat) (j : Nat) : plc sa (j + 1) = plc sa j ++ if sa.getD j 0 % 8 = 0 then [sa.getD j 0] else [] := by
  unfold plc
  rw [ons_succ, List.map_append]
  congr 1
  by_cases h : sa.getD j 0 % 8 = 0
  · rw [if_pos h, if_pos h]; rfl
  · rw [if_neg h, if_neg h]; rfl
theorem ons_le (sa : List Nat) (j : Nat) : (ons sa j).length ≤ j := by
  have h1 := List.length_filter_le (fun i => sa.getD i 0 % 8 == 0) (List.range j)
  rw [List.length_range] at h1
  exact h1
theorem plc_length (sa : List Nat) (j : Nat) : (plc sa j).length = (ons sa j).length := by simp [plc]
theorem ons_mem {sa : List Nat} {j i : Nat} : i ∈ ons sa j ↔ i < j ∧ sa.getD i 0 % 8 = 0 := by simp [ons]
theorem ons_lt (sa : List Nat) (j k : Nat) (h : k < (ons sa j).length) : (ons sa j).getD k 0 < j ∧ sa.getD ((ons sa j).getD k 0) 0 % 8 = 0 := by
  rw [getD_at h]
  exact ons_mem.1 (List.getElem_mem h)
theorem plc_at (sa : List Nat) (j k : Nat) (h : k < (ons sa j).length) : (plc sa j).getD k 0 = sa.getD ((ons sa j).getD k 0) 0 := by
  rw [getD_at (by rw [plc_length]; exact h), getD_at h]
  simp [plc]
theorem map_getD (l : List Nat) : (List.range l.length).map (fun i => l.getD i 0) = l := (self_range l).symm
theorem plc_filter (sa : List Nat) : plc sa sa.length = sa.filter fun p => p % 8 == 0 := by
  have h := map_getD sa
  conv => rhs; rw [← h]
  rw [List.filter_map]
  rfl
theorem eighths (n : Nat) : ((List.range n).filter fun p => p % 8 == 0).length = (n + 7) / 8 := by
  induction n with
  | zero => rfl
  | succ n ih =>
    rw [List.range_succ, List.filter_append, List.length_append, ih, List.filter_cons]
    by_cases h : n % 8 = 0
    · rw [if_pos (by rw [h]; rfl)]
      simp only [List.filter_nil, List.length_cons, List.length_nil]
      omega
    · rw [if_neg (by simpa using h)]
      simp only [List.filter_nil, List.length_nil]
      omega
theorem plc_count {s sa : List Nat} (h : IsSA s sa) : (plc sa s.length).length = (s.length + 7) / 8 := by
  rw [← eighths, ← h.length, plc_filter, h.length]
  exact (h.perm.filter _).length_eq
/-- where in the order each eighth place stands -/
def RowsOf (sa : List Nat) (K k : Nat) (r : List Int) : Prop := r.length = K ∧ ∀ i, i < k → r.getD ((plc sa sa.length).getD i 0 / 8) 0 = (((ons sa sa.length).getD i 0 : Nat) : Int)
theorem rows_zero (sa : List Nat) (K : Nat) (r : List Int) (h : r.length = K) : RowsOf sa K 0 r := ⟨h, fun i hi => absurd hi (Nat.not_lt_zero _)⟩
theorem ons_inj {s sa : List Nat} (h : IsSA s sa) (i k : Nat) (hi : i < k) (hk : k < (ons sa sa.length).length) : (ons sa sa.length).getD i 0 ≠ (ons sa sa.length).getD k 0 := by
  rw [getD_at (by omega), getD_at hk]
  have hn : (ons sa sa.length).Nodup := List.nodup_range.filter _
  exact List.pairwise_iff_getElem.1 hn i k (by omega) hk hi
theorem plc_lt {s sa : List Nat} (h : IsSA s sa) (k : Nat) (hk : k < (ons sa sa.length).length) : (plc sa sa.length).getD k 0 < s.length ∧ (plc sa sa.length).getD k 0 % 8 = 0 := by
  have ho := ons_lt sa sa.length k hk
  rw [plc_at _ _ _ hk]
  refine ⟨?_, ho.2⟩
  rw [getD_at ho.1]
  exact h.lt (List.getElem_mem _)
theorem rows_step {s sa : List Nat} (h : IsSA s sa) {K k : Nat} {r : List Int} (hK : K = (s.length + 7) / 8) (hr : RowsOf sa K k r) (hk : k < (ons sa sa.length).length) :
    RowsOf sa K (k + 1) (r.set ((plc sa sa.length).getD k 0 / 8) (((ons sa sa.length).getD k 0 : Nat) : Int)) := by
  refine ⟨by rw [List.length_set]; exact hr.1, fun i hi => ?_⟩
  have hp := plc_lt h k hk
  rw [set_getD _ _ _ _ (by rw [hr.1, hK]; omega)]
  by_cases e : i = k
  · subst e; rw [if_pos rfl]
  · have hik : i < k := by omega
    have hq := plc_lt h i (by omega)
    rw [if_neg, hr.2 i hik]
    intro e2
    have e3 : (plc sa sa.length).getD i 0 = (plc sa sa.length).getD k 0 := by omega
    rw [plc_at _ _ _ (by omega), plc_at _ _ _ hk] at e3
    have hperm := h.perm
    have hpa := perm_at hperm
    have o1 := (ons_lt sa sa.length i (by omega)).1
    have o2 := (ons_lt sa sa.length k hk).1
    exact ons_inj h i k hik hk (hpa.2.2.2 _ _ (by rw [← h.length]; exact o1) (by rw [← h.length]; exact o2) e3)
/-- the row of an eighth place, all laid -/
theorem rows_at {s sa : List Nat} (h : IsSA s sa) {K : Nat} {r : List Int} (hr : RowsOf sa K (ons sa sa.length).length r) (q : Nat) (hq : 8 * q < s.length) :
    ∃ i, i < s.length ∧ r.getD q 0 = ((i : Nat) : Int) ∧ sa.getD i 0 = 8 * q := by
  obtain ⟨i, hi, e⟩ := (perm_at h.perm).2.1 (8 * q) hq
  have hm : i ∈ ons sa sa.length := ons_mem.2 ⟨by rw [h.length]; exact hi, by rw [e]; omega⟩
  obtain ⟨k, hk, ek⟩ := List.getElem_of_mem hm
  have e1 : (ons sa sa.length).getD k 0 = i := by rw [getD_at hk]; exact ek
  have := hr.2 k hk
  rw [plc_at _ _ _ hk, e1, e] at this
  exact ⟨i, hi, by rw [show q = 8 * q / 8 by omega]; exact this, e⟩
end Go.Proofs.YtphccomhggnccaaGreat
