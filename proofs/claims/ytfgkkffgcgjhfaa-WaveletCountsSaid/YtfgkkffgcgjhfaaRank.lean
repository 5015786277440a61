/- Counts and places in rows of anything: plain lists, no program. -/
namespace Go.Proofs.Ytfgkkffgcgjhfaa.Rank
set_option linter.unusedVariables false
set_option linter.unusedSimpArgs false
variable {α : Type} [DecidableEq α]

/-- how many of the first i are c -/
def rk (l : List α) (c : α) (i : Nat) : Nat := (l.take i).count c
theorem rk_zero (l : List α) (c : α) : rk l c 0 = 0 := by simp [rk]
theorem rk_succ (l : List α) (c : α) (i : Nat) (h : i < l.length) : rk l c (i + 1) = rk l c i + if l[i] = c then 1 else 0 := by
  unfold rk
  rw [List.take_succ_eq_append_getElem h, List.count_append, List.count_singleton]
  simp [beq_iff_eq]
theorem rk_big (l : List α) (c : α) (i : Nat) (h : l.length ≤ i) : rk l c i = rk l c l.length := by
  unfold rk; rw [List.take_of_length_le h, List.take_length]
theorem rk_le (l : List α) (c : α) (i : Nat) : rk l c i ≤ i := by
  unfold rk
  exact Nat.le_trans List.count_le_length (by rw [List.length_take]; omega)
theorem rk_step (l : List α) (c : α) (i : Nat) : rk l c i ≤ rk l c (i + 1) ∧ rk l c (i + 1) ≤ rk l c i + 1 := by
  by_cases h : i < l.length
  · rw [rk_succ l c i h]; split <;> omega
  · rw [rk_big l c i (by omega), rk_big l c (i + 1) (by omega)]; omega
theorem rk_mono (l : List α) (c : α) {i j : Nat} (h : i ≤ j) : rk l c i ≤ rk l c j := by
  induction j with
  | zero => obtain rfl : i = 0 := by omega
            exact Nat.le_refl _
  | succ j ih =>
    by_cases e : i = j + 1
    · subst e; exact Nat.le_refl _
    · exact Nat.le_trans (ih (by omega)) (rk_step l c j).1
theorem rk_append (l m : List α) (c : α) : rk (l ++ m) c (l ++ m).length = rk l c l.length + rk m c m.length := by
  unfold rk; rw [List.take_length, List.take_length, List.take_length, List.count_append]
/-- the place of the one that has k ahead of it -/
def sl (l : List α) (c : α) (k : Nat) : Option Nat := (List.range l.length).find? fun p => decide (k < rk l c (p + 1))
theorem sl_some {l : List α} {c : α} {k p : Nat} : sl l c k = some p ↔ ∃ h : p < l.length, l[p] = c ∧ rk l c p = k := by
  unfold sl
  rw [List.find?_range_eq_some]
  constructor
  · rintro ⟨h1, h2, h3⟩
    have hp : p < l.length := by simpa using h2
    have hk : k < rk l c (p + 1) := by simpa using h1
    rw [rk_succ l c p hp] at hk
    have hle : rk l c p ≤ k := by
      cases p with
      | zero => rw [rk_zero]; omega
      | succ q => have := h3 q (by omega); simpa using this
    by_cases e : l[p] = c
    · refine ⟨hp, e, ?_⟩; rw [if_pos e] at hk; omega
    · rw [if_neg e] at hk; omega
  · rintro ⟨hp, e, hk⟩
    refine ⟨?_, by simpa using hp, fun q hq => ?_⟩
    · rw [rk_succ l c p hp, if_pos e]; simp; omega
    · have := rk_mono l c (show q + 1 ≤ p by omega); simp; omega
theorem sl_none {l : List α} {c : α} {k : Nat} : sl l c k = none ↔ rk l c l.length ≤ k := by
  unfold sl
  rw [List.find?_eq_none]
  constructor
  · intro h
    by_cases e : l.length = 0
    · rw [e, rk_zero]; omega
    · have := h (l.length - 1) (by simp; omega)
      rw [Nat.sub_add_cancel (by omega)] at this
      simpa using this
  · intro h p hp
    have hp' : p < l.length := by simpa using hp
    have := rk_mono l c (show p + 1 ≤ l.length by omega)
    simp; omega
/-- .. as Go tells it -/
def slI (l : List α) (c : α) (k : Int) : Int := if k < 0 then -1 else match sl l c k.toNat with | some p => (p : Int) | none => -1
end Go.Proofs.Ytfgkkffgcgjhfaa.Rank
