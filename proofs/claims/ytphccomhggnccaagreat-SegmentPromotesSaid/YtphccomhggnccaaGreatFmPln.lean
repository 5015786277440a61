/- Where a pattern stands, by the order: plain lists, no program. -/
import Derived.Test.YtphccomhggnccaaGreatPl
namespace Go.Proofs.YtphccomhggnccaaGreat.Fm
set_option linter.unusedVariables false
set_option linter.unusedSimpArgs false
open Rank

/-- the places at which a pattern stands -/
def occ (s P : List Nat) : List Nat := (List.range s.length).filter fun p => P.isPrefixOf (s.drop p)
theorem occ_count (s P : List Nat) : cnt s (cut true · P) = cnt s (cut false · P) + (occ s P).length := by
  have key : ∀ p, cut true (s.drop p) P = (cut false (s.drop p) P || P.isPrefixOf (s.drop p)) ∧ (cut false (s.drop p) P && P.isPrefixOf (s.drop p)) = false := by
    intro p
    rw [← cut_prefix]
    have hle := cut_le (s.drop p) P
    cases h1 : cut false (s.drop p) P with
    | false => simp
    | true => simp [hle h1]
  unfold cnt occ
  rw [← len_filter_or]
  · congr 1
    exact filter_same _ _ _ fun p _ => (key p).1
  · exact fun p _ => (key p).2
theorem occ_mem {s P : List Nat} {p : Nat} : p ∈ occ s P ↔ p < s.length ∧ P <+: s.drop p := by
  unfold occ
  rw [List.mem_filter, List.mem_range, List.isPrefixOf_iff_prefix]
theorem occ_ext {s P : List Nat} (X : List Nat) (h : occ s P = []) : occ s (X ++ P) = [] := by
  refine List.eq_nil_iff_forall_not_mem.2 fun p hp => ?_
  obtain ⟨hl, t, ht⟩ := occ_mem.1 hp
  by_cases hP : P = []
  · subst hP
    have : p ∈ occ s [] := occ_mem.2 ⟨hl, List.nil_prefix⟩
    rw [h] at this
    cases this
  have e : s.drop (p + X.length) = P ++ t := by
    rw [← List.drop_drop, ← ht, List.append_assoc, List.drop_left]
  have hlt : p + X.length < s.length := by
    rcases Nat.lt_or_ge (p + X.length) s.length with h1 | h1
    · exact h1
    · rw [List.drop_eq_nil_of_le h1] at e
      exact absurd (List.append_eq_nil_iff.1 e.symm).1 hP
  have : p + X.length ∈ occ s P := occ_mem.2 ⟨hlt, t, e.symm⟩
  rw [h] at this
  cases this
/-- the endings that begin with a pattern stand side by side -/
def run (sa : List Nat) (f t : Nat) : List Nat := (sa.drop f).take (t - f)
theorem run_length (sa : List Nat) (f t : Nat) (h : t ≤ sa.length) : (run sa f t).length = t - f := by
  unfold run; rw [List.length_take, List.length_drop]; omega
theorem run_getD (sa : List Nat) (f t k : Nat) (h : t ≤ sa.length) (hk : k < t - f) : (run sa f t).getD k 0 = sa.getD (f + k) 0 := by
  unfold run
  simp only [List.getD]
  rw [List.getElem?_take, if_pos hk, List.getElem?_drop]
theorem run_occ {s sa : List Nat} (h : IsSA s sa) (P : List Nat) : (run sa (cnt s (cut false · P)) (cnt s (cut true · P))).Perm (occ s P) := by
  have hc := occ_count s P
  have ht := cnt_le s (cut true · P)
  have hl := h.length
  have hp : (sa.filter fun p => P.isPrefixOf (s.drop p)).Perm (occ s P) := h.perm.filter _
  have hA : ∀ i p, sa[i]? = some p → (P.isPrefixOf (s.drop p) = true ↔ cnt s (cut false · P) ≤ i ∧ i < cnt s (cut true · P)) := by
    intro i p hi
    have h1 := h.at_cut true P hi
    have h2 := h.at_cut false P hi
    rw [← cut_prefix, Bool.and_eq_true, Bool.not_eq_true']
    rw [h1, ← Bool.not_eq_true, h2]
    omega
  generalize cnt s (cut false · P) = f at *
  generalize cnt s (cut true · P) = t at *
  refine List.Perm.trans ?_ hp
  have e : sa = sa.take f ++ (run sa f t ++ sa.drop t) := by
    have e1 : sa.drop f = run sa f t ++ sa.drop t := by
      unfold run
      have := List.take_append_drop (t - f) (sa.drop f)
      rw [List.drop_drop, show f + (t - f) = t by omega] at this
      exact this.symm
    rw [← e1, List.take_append_drop]
  have f1 : (sa.take f).filter (fun p => P.isPrefixOf (s.drop p)) = [] := by
    rw [List.filter_eq_nil_iff]
    intro p hpm
    obtain ⟨i, hi, rfl⟩ := List.getElem_of_mem hpm
    rw [List.length_take] at hi
    rw [List.getElem_take]
    rw [hA i _ (List.getElem?_eq_getElem (by omega))]
    omega
  have f3 : (sa.drop t).filter (fun p => P.isPrefixOf (s.drop p)) = [] := by
    rw [List.filter_eq_nil_iff]
    intro p hpm
    obtain ⟨i, hi, rfl⟩ := List.getElem_of_mem hpm
    rw [List.length_drop] at hi
    rw [List.getElem_drop]
    rw [hA (t + i) _ (List.getElem?_eq_getElem (by omega))]
    omega
  have f2 : (run sa f t).filter (fun p => P.isPrefixOf (s.drop p)) = run sa f t := by
    rw [List.filter_eq_self]
    intro p hpm
    obtain ⟨i, hi, rfl⟩ := List.getElem_of_mem hpm
    have hi2 := hi
    rw [run_length sa f t (by omega)] at hi2
    have e2 : (run sa f t)[i] = sa[f + i] := by simp [run]
    rw [e2, hA (f + i) _ (List.getElem?_eq_getElem (by omega))]
    omega
  conv => rhs; rw [e]
  rw [List.filter_append, List.filter_append, f1, f2, f3, List.append_nil, List.nil_append]
/-- texts and places -/
def hit (ts : List (List Nat)) (p : Nat) : Nat × Nat := (docOf (stf 0 ts) p, p - (stf 0 ts).getD (docOf (stf 0 ts) p) 0)
theorem occ_hits (ts : List (List Nat)) (P : List Nat) (hP : P ≠ []) : (occ (rowT ts) (P.map (· + 2))).map (hit ts) = locF 0 P ts := loc_back P hP ts
/-- one place ahead of another: by text, then by place -/
def hitLe (a b : Nat × Nat) : Bool := decide (a.1 < b.1) || (a.1 == b.1 && decide (a.2 ≤ b.2))
theorem hits_sorted {ts : List (List Nat)} {P : List Nat} (hP : P ≠ []) {l : List (Nat × Nat)} (h : l.Perm (locF 0 P ts)) (hs : l.Pairwise fun a b => hitLe a b = true) : l = locF 0 P ts := by
  refine List.Perm.eq_of_pairwise (le := fun a b => hitLe a b = true) ?_ hs ?_ h
  · intro a b _ _ h1 h2
    simp only [hitLe, Bool.or_eq_true, decide_eq_true_eq, Bool.and_eq_true, beq_iff_eq] at h1 h2
    apply Prod.ext <;> omega
  · refine (locF_sorted P ts 0).imp ?_
    intro a b h
    simp only [hitLe, Bool.or_eq_true, decide_eq_true_eq, Bool.and_eq_true, beq_iff_eq]
    omega
end Go.Proofs.YtphccomhggnccaaGreat.Fm
