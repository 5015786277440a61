/- The starts of texts in order, and the text of a place: plain lists. -/
import Derived.Test.YtphccomhggnccaaGreatFmIdx
namespace Go.Proofs.YtphccomhggnccaaGreat
set_option linter.unusedVariables false
set_option linter.unusedSimpArgs false
open Go.RowKit Fm Rank

theorem stp_sorted (s : List Nat) (j : Nat) : (stp s j).Pairwise (· < ·) := by
  unfold stp
  refine List.pairwise_cons.2 ⟨fun x hx => ?_, ?_⟩
  · obtain ⟨i, _, rfl⟩ := List.mem_map.1 hx
    omega
  · rw [List.pairwise_map]
    exact ((List.pairwise_lt_range).filter _).imp fun h => by omega
theorem count_split (st : List Nat) (hs : st.Pairwise (· < ·)) (p : Nat) : st.countP (fun x => decide (x ≤ p)) = st.countP (fun x => decide (x < p)) + if st.contains p then 1 else 0 := by
  induction st with
  | nil => rfl
  | cons a r ih =>
    obtain ⟨h1, h2⟩ := List.pairwise_cons.1 hs
    have ih := ih h2
    rw [List.countP_cons, List.countP_cons, ih, List.contains_cons]
    by_cases e : p = a
    · subst e
      have hr : r.contains p = false := by
        rw [Bool.eq_false_iff]
        intro h
        have := h1 p (by simpa using h)
        omega
      rw [hr]
      simp
    · have e1 : (p == a) = false := by rw [beq_eq_false_iff_ne]; exact e
      rw [e1, Bool.false_or]
      have e2 : decide (a ≤ p) = decide (a < p) := by rw [decide_eq_decide]; omega
      rw [e2]
      omega
/-- where a binary search leads, and what is made of it -/
theorem doc_search (s : List Nat) (j p : Nat) : docOf (stp s j) p = (stp s j).countP (fun x => decide (x < p)) - (if (stp s j).contains p then 0 else 1) ∧
    ((stp s j).contains p = false → 1 ≤ (stp s j).countP (fun x => decide (x < p))) ∧ docOf (stp s j) p < (stp s j).length ∧ (stp s j).countP (fun x => decide (x < p)) ≤ (stp s j).length := by
  have h := count_split (stp s j) (stp_sorted s j) p
  have hle := List.countP_le_length (p := fun x => decide (x ≤ p)) (l := stp s j)
  have hle2 := List.countP_le_length (p := fun x => decide (x < p)) (l := stp s j)
  have hpos : 0 < (stp s j).length := by simp [stp]
  have hge : 1 ≤ (stp s j).countP (fun x => decide (x ≤ p)) := by
    unfold stp
    rw [List.countP_cons_of_pos (by simp)]
    omega
  refine ⟨?_, fun e => ?_, ?_, hle2⟩
  · unfold docOf
    rw [h]
    cases (stp s j).contains p <;> simp
  · rw [e] at h
    simp at h
    omega
  · unfold docOf
    omega
/-- of a row of numbers in order: what stands at the text of a place is not beyond it -/
theorem doc_le (st : List Nat) (hs : st.Pairwise (· < ·)) (p : Nat) (h : 1 ≤ st.countP fun x => decide (x ≤ p)) : st.getD (docOf st p) 0 ≤ p := by
  have gen : ∀ (st : List Nat), st.Pairwise (· < ·) → ∀ k, k < st.countP (fun x => decide (x ≤ p)) → st.getD k 0 ≤ p := by
    intro st
    induction st with
    | nil => intro _ k hk; cases hk
    | cons a r ih =>
      intro hs k hk
      obtain ⟨h1, h2⟩ := List.pairwise_cons.1 hs
      by_cases ha : a ≤ p
      · rw [List.countP_cons_of_pos (by simpa using ha)] at hk
        cases k with
        | zero => exact ha
        | succ k => exact ih h2 k (by omega)
      · have h0 : r.countP (fun x => decide (x ≤ p)) = 0 := by
          rw [List.countP_eq_zero]
          intro x hx
          have := h1 x hx
          simp; omega
        rw [List.countP_cons_of_neg (by simpa using ha), h0] at hk
        cases hk
  exact gen st hs _ (by unfold docOf; omega)
theorem NI_countP (l : List Nat) (p : Nat) : (NI l).countP (fun y => decide (y < (p : Int))) = l.countP fun x => decide (x < p) := by
  unfold NI
  rw [List.countP_map]
  refine List.countP_congr fun x _ => ?_
  simp
theorem NI_contains (l : List Nat) (p : Nat) : (NI l).contains (p : Int) = l.contains p := by
  induction l with
  | nil => rfl
  | cons a r ih =>
    have : NI (a :: r) = (a : Int) :: NI r := rfl
    rw [this, List.contains_cons, List.contains_cons, ih]
    congr 1
    rw [Bool.eq_iff_iff, beq_iff_eq, beq_iff_eq]
    omega
theorem NI_sorted (l : List Nat) (h : l.Pairwise (· < ·)) : (NI l).Pairwise (· ≤ ·) := by
  unfold NI
  rw [List.pairwise_map]
  exact h.imp fun h => by omega
end Go.Proofs.YtphccomhggnccaaGreat
