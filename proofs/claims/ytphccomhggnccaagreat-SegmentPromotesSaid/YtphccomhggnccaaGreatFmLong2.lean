/- A longer pattern stands where its beginning does: plain lists; bytes appended. -/
import Derived.Test.YtphccomhggnccaaGreatFmLawD
namespace Go.Proofs.YtphccomhggnccaaGreat
set_option linter.unusedVariables false
set_option linter.unusedSimpArgs false
set_option maxRecDepth 100000
open Go.RowKit Fm Rank

theorem locF_in {P : List Nat} {ts : List (List Nat)} : ∀ {d0 : Nat} {h : Nat × Nat}, h ∈ locF d0 P ts ↔ d0 ≤ h.1 ∧ h.1 < d0 + ts.length ∧ h.2 < (ts.getD (h.1 - d0) []).length ∧ P <+: (ts.getD (h.1 - d0) []).drop h.2 := by
  induction ts with
  | nil => intro d0 h; simp [locF]
  | cons t ts ih =>
    intro d0 h
    rw [locF, List.mem_append, ih]
    constructor
    · rintro (hm | ⟨h1, h2, h3, h4⟩)
      · obtain ⟨f, hf, rfl⟩ := List.mem_map.1 hm
        obtain ⟨hf1, hf2⟩ := List.mem_filter.1 hf
        simp only [Nat.sub_self]
        exact ⟨Nat.le_refl _, by simp, List.mem_range.1 hf1, List.isPrefixOf_iff_prefix.1 hf2⟩
      · have e : h.1 - d0 = (h.1 - (d0 + 1)) + 1 := by omega
        rw [e]
        exact ⟨by omega, by simp; omega, h3, h4⟩
    · rintro ⟨h1, h2, h3, h4⟩
      by_cases e : h.1 = d0
      · refine .inl (List.mem_map.2 ⟨h.2, List.mem_filter.2 ⟨List.mem_range.2 ?_, List.isPrefixOf_iff_prefix.2 ?_⟩, Prod.ext e.symm rfl⟩)
        · rw [e, Nat.sub_self] at h3; exact h3
        · rw [e, Nat.sub_self] at h4; exact h4
      · have e2 : h.1 - d0 = (h.1 - (d0 + 1)) + 1 := by omega
        rw [e2] at h3 h4
        exact .inr ⟨by omega, by simp at h2; omega, h3, h4⟩
theorem found_in {P : List Nat} {ts : List (List Nat)} (hP : P ≠ []) {h : Nat × Nat} : h ∈ found ts P ↔ h.1 < ts.length ∧ h.2 < (ts.getD h.1 []).length ∧ P <+: (ts.getD h.1 []).drop h.2 := by
  unfold found
  rw [if_neg hP, locF_in]
  simp
theorem found_sorted (ts : List (List Nat)) (P : List Nat) : (found ts P).Pairwise fun a b => a.1 < b.1 ∨ (a.1 = b.1 ∧ a.2 < b.2) := by
  unfold found
  split
  · exact List.Pairwise.nil
  · exact locF_sorted P ts 0
theorem found_long {ts : List (List Nat)} {p mo : List Nat} (hp : p ≠ []) {h : Nat × Nat} (hm : h ∈ found ts (p ++ mo)) : h ∈ found ts p ∧ h.1 < ts.length ∧ h.2 + (p.length + mo.length) ≤ (ts.getD h.1 []).length := by
  rw [found_in (by simp [hp])] at hm
  obtain ⟨h1, h2, h3⟩ := hm
  refine ⟨(found_in hp).2 ⟨h1, h2, (List.prefix_append _ _).trans h3⟩, h1, ?_⟩
  have := h3.length_le
  rw [List.length_append, List.length_drop] at this
  omega
/-- from the i-th on, all of LB stand in LA, from the k-th on -/
def Bef (LA LB : List (Nat × Nat)) (i k : Nat) : Prop := ∀ i', i ≤ i' → i' < LB.length → ∃ m, k ≤ m ∧ m < LA.length ∧ LA.getD m (0, 0) = LB.getD i' (0, 0)
theorem getD_pair {l : List (Nat × Nat)} {i : Nat} (h : i < l.length) : l.getD i (0, 0) = l[i] := by simp [List.getD, List.getElem?_eq_getElem h]
theorem Bef.zero {LA LB : List (Nat × Nat)} (h : ∀ x ∈ LB, x ∈ LA) : Bef LA LB 0 0 := fun i _ hi => by
  obtain ⟨m, hm, e⟩ := List.getElem_of_mem (h LB[i] (List.getElem_mem hi))
  exact ⟨m, Nat.zero_le _, hm, by rw [getD_pair hm, getD_pair hi, e]⟩
theorem Bef.step {LA LB : List (Nat × Nat)} {i k k' : Nat} (hA : LA.Pairwise fun a b => a.1 < b.1 ∨ (a.1 = b.1 ∧ a.2 < b.2)) (hB : LB.Pairwise fun a b => a.1 < b.1 ∨ (a.1 = b.1 ∧ a.2 < b.2)) (h : Bef LA LB i k) (hi : i < LB.length) (hk : k' < LA.length) (e : LA.getD k' (0, 0) = LB.getD i (0, 0)) : Bef LA LB (i + 1) k' := fun i' h1 h2 => by
  obtain ⟨m, hm1, hm2, hm3⟩ := h i' (by omega) h2
  refine ⟨m, ?_, hm2, hm3⟩
  have hlt := List.pairwise_iff_getElem.1 hB i i' hi h2 (by omega)
  rw [← getD_pair hi, ← getD_pair h2, ← e, ← hm3, getD_pair hk, getD_pair hm2] at hlt
  rcases Nat.lt_or_ge m k' with h3 | h3
  · have := List.pairwise_iff_getElem.1 hA m k' hm2 hk h3
    omega
  · exact h3
theorem IH_getD (l : List (Nat × Nat)) (i : Nat) (h : i < l.length) : (IH l).getD i (0, 0) = (((l.getD i (0, 0)).1 : Int), ((l.getD i (0, 0)).2 : Int)) := by
  simp [IH, List.getD, List.getElem?_eq_getElem h]
/-- the two cells of a place in a row of places -/
theorem hit_cells {w : World} {A : Option Addr} {l : List (Nat × Nat)} (h : Sl w A (VH (IH l))) {i : Nat} (hi : i < l.length) : ∃ b off, A = some ⟨b, off, none⟩ ∧ w.cell? ⟨b, off + i * 2, none⟩ = some (.int .i64 (((l.getD i (0, 0)).1 : Nat) : Int)) ∧ w.cell? ⟨b, off + i * 2 + 1, none⟩ = some (.int .i64 (((l.getD i (0, 0)).2 : Nat) : Int)) := by
  obtain ⟨b, off, rfl, h0⟩ := h.lit (j := i * 2) (by rw [VH_length, IH_length]; omega)
  rw [VH_get0 _ i (by rw [IH_length]; exact hi), IH_getD l i hi] at h0
  have h1 := h.cell _ rfl (i * 2 + 1) _ (VH_get1 (IH l) i (by rw [IH_length]; exact hi))
  rw [show (⟨b, off, none⟩ : Addr).add (i * 2 + 1) = ⟨b, off + i * 2 + 1, none⟩ by unfold Addr.add; split <;> simp_all; omega, IH_getD l i hi] at h1
  exact ⟨b, off, rfl, h0, h1⟩
theorem hit_cells2 {w : World} {b off : Nat} {l : List (Nat × Nat)} (h : Sl w (some ⟨b, off, none⟩) (VH (IH l))) {i : Nat} (hi : i < l.length) : w.cell? ⟨b, off + i * 2, none⟩ = some (.int .i64 (((l.getD i (0, 0)).1 : Nat) : Int)) ∧ w.cell? ⟨b, off + i * 2 + 1, none⟩ = some (.int .i64 (((l.getD i (0, 0)).2 : Nat) : Int)) := by
  obtain ⟨b', off', e, h0, h1⟩ := hit_cells h hi
  cases e
  exact ⟨h0, h1⟩
theorem app_u8 {w : World} {ops : Array Oper} {rest : List Oper} {o : Oper} {a : Act} {Q : Exit → Act → World → Prop} (hgd : o.guard = none) (s x : Operand)
    (ho : o.op = .call { callee := .builtin .append, args := #[s, x], argTypes := #[34, 34] })
    (base : Nat) (v : Value) (xs : List Nat) (hs : a.eval s = v) (hown : w.ownsRow base 5 1 v xs.length (VY xs))
    (A : Option Addr) (m c : Nat) (news : List Nat) (hx : a.eval x = .slice A m c) (hc : A = none → c = 0) (hl : news.length = m) (hnews : Sl w A (VY news))
    (h63 : xs.length + m ≤ 1099511627776) (hbase : base ≤ w.heap.size)
    (h : ∀ v' w', w'.ownsRow base 5 1 v' (xs ++ news).length (VY (xs ++ news)) → w.grownBy w' v.ownBlock → wpList Tryz.prog ops Q rest (a.put o.dst v') w') : wpList Tryz.prog ops Q (o :: rest) a w := by
  obtain ⟨i0, hi, hz0, hz1, hz2⟩ := info_parts info_u8
  refine wpList_append_sl hgd s x 34 ho base 5 i0 (.int .u8 0) 1 Tryz.underlying34 hi hz0 hz1 hz2 rfl v xs.length (VY xs) hs hown A m c (VY news) hx hc (by rw [VY_length]; exact hl) hnews (VY_one _) (by unfold maxLen; omega) (by omega) hbase ?_
  intro v' w' h1 h2 _
  refine h v' w' ?_ h2
  rw [List.length_append, hl, VY_append]
  exact h1
end Go.Proofs.YtphccomhggnccaaGreat
