/- haystacklaw4: plain lists: masked rows, counts. -/
import Derived.Test.YtfgkkffgcgjhfaaWvLawA
namespace Go.Proofs.Ytfgkkffgcgjhfaa
set_option linter.unusedVariables false
set_option linter.unusedSimpArgs false
open Go.RowKit PkMath Pop Rank BtMath Wv

def mask (d : Nat) (l : List Int) : List Nat := l.map fun x => (x % (d : Int)).toNat
theorem mask_length (d : Nat) (l : List Int) : (mask d l).length = l.length := by simp [mask]
theorem mask_lt (d : Nat) (hd : 0 < d) (l : List Int) : ∀ x ∈ mask d l, x < d := by
  intro x hx
  obtain ⟨y, _, rfl⟩ := List.mem_map.1 hx
  have := Int.emod_lt_of_pos y (show (0 : Int) < d by omega)
  have := Int.emod_nonneg y (show (d : Int) ≠ 0 by omega)
  omega
theorem mask_succ (d : Nat) (hd : 0 < d) (l : List Int) (j : Nat) (hj : j < l.length) : (IL (mask d l)).take (j + 1) = (IL (mask d l)).take j ++ [l.getD j 0 % (d : Int)] := by
  have h1 : j < (IL (mask d l)).length := by rw [IL_length, mask_length]; exact hj
  have e : (IL (mask d l))[j] = l.getD j 0 % (d : Int) := by
    have h2 : (IL (mask d l))[j] = (((l[j] % (d : Int)).toNat : Nat) : Int) := by simp [IL, mask]
    rw [h2, Int.toNat_of_nonneg (Int.emod_nonneg _ (by omega))]
    simp [List.getD, List.getElem?_eq_getElem hj]
  rw [List.take_succ_eq_append_getElem h1, e]
theorem IL_nonneg (l : List Nat) : ∀ x ∈ IL l, 0 ≤ x := by
  intro x hx
  obtain ⟨y, _, rfl⟩ := List.mem_map.1 hx
  omega
theorem IL_lt {l : List Nat} {d : Nat} (h : ∀ x ∈ l, x < d) : ∀ x ∈ IL l, x < (d : Int) := by
  intro x hx
  obtain ⟨y, hy, rfl⟩ := List.mem_map.1 hx
  have := h y hy
  omega
theorem seg_mem {α : Type} {l : List α} {a z : Nat} {x : α} (h : x ∈ seg l a z) : x ∈ l := List.mem_of_mem_take (List.mem_of_mem_drop h)
theorem seg_split {α : Type} (l : List α) (a z : Nat) (h : a ≤ z) : l.take z = l.take a ++ seg l a z := by
  unfold seg
  have h2 : l.take a = (l.take z).take a := by rw [List.take_take, Nat.min_eq_left h]
  rw [h2, List.take_append_drop]
theorem rk_seg (l : List Int) (c : Int) (a z : Nat) (h : a ≤ z) : rk l c z = rk l c a + (seg l a z).count c := by
  unfold rk
  rw [seg_split l a z h, List.count_append]
theorem filt_step (l : List Int) (c : Int) : (l.filter (fun x => decide (x < c + 1))).length = (l.filter (fun x => decide (x < c))).length + l.count c := by
  induction l with
  | nil => rfl
  | cons x l ih =>
    rw [List.filter_cons, List.filter_cons, List.count_cons]
    by_cases h1 : x < c
    · have h2 : x < c + 1 := by omega
      have h3 : (x == c) = false := by rw [beq_eq_false_iff_ne]; omega
      simp only [h1, h2, h3, decide_true, if_true, List.length_cons, Bool.false_eq_true, if_false]
      omega
    · by_cases h4 : x = c
      · have h2 : x < c + 1 := by omega
        have h3 : (x == c) = true := by rw [beq_iff_eq]; exact h4
        simp only [h1, h2, h3, decide_true, decide_false, if_true, List.length_cons, Bool.false_eq_true, if_false]
        omega
      · have h2 : ¬ x < c + 1 := by omega
        have h3 : (x == c) = false := by rw [beq_eq_false_iff_ne]; omega
        simp only [h1, h2, h3, decide_false, Bool.false_eq_true, if_false]
        omega
/-- all below the next one: those below it, and itself -/
theorem cntZ_next (l : List Int) (c : Int) (a z : Nat) (h : a ≤ z) : cntZ l (c + 1) a z = cntZ l c a z + (rk l c z - rk l c a) ∧ rk l c a ≤ rk l c z := by
  have := rk_seg l c a z h
  refine ⟨?_, by omega⟩
  unfold cntZ
  rw [filt_step]
  omega
theorem cntZ_none (l : List Int) (c : Int) (a z : Nat) (h : ∀ x ∈ l, c ≤ x) : cntZ l c a z = 0 := by
  unfold cntZ
  rw [List.filter_eq_nil_iff.2]
  · rfl
  · intro x hx
    have := h x (seg_mem hx)
    simp; omega
theorem cntZ_whole (l : List Int) (c : Int) (a z : Nat) (h : ∀ x ∈ l, x < c) (hz : z ≤ l.length) : cntZ l c a z = z - a := by
  unfold cntZ
  rw [List.filter_eq_self.2, seg_length l a z hz]
  intro x hx
  have := h x (seg_mem hx)
  simpa using this
theorem rkI_none {l : List Int} {c : Int} (h : ∀ x ∈ l, x < c) (i : Nat) : rk l c i = 0 := by
  unfold rk
  rw [List.count_eq_zero]
  intro hm
  have := h c (List.mem_of_mem_take hm)
  omega
end Go.Proofs.Ytfgkkffgcgjhfaa
