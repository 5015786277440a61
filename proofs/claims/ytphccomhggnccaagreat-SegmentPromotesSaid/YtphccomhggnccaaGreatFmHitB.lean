/- fm: rows of places; put in order. -/
import Derived.Test.YtphccomhggnccaaGreatFmHit
import Derived.Test.YtphccomhggnccaaGreatFmSorted2
import Derived.Test.YtphccomhggnccaaGreatShelfH
namespace Go.Proofs.YtphccomhggnccaaGreat
set_option linter.unusedVariables false
set_option linter.unusedSimpArgs false
set_option maxRecDepth 100000
open Go.RowKit Fm Go.Shelf Go.Sort

/-- places, as values -/
def VH (l : List (Int × Int)) : List Value := l.flatMap encHit
theorem VH_cons (a : Int × Int) (r : List (Int × Int)) : VH (a :: r) = .int .i64 a.1 :: .int .i64 a.2 :: VH r := rfl
theorem VH_length (l : List (Int × Int)) : (VH l).length = l.length * 2 := by
  induction l with
  | nil => rfl
  | cons a r ih => rw [VH_cons, List.length_cons, List.length_cons, ih, List.length_cons]; omega
theorem VH_append (l m : List (Int × Int)) : VH (l ++ m) = VH l ++ VH m := by simp [VH]
theorem VH_one (l : List (Int × Int)) : ∀ u ∈ VH l, u.oneCell' = true := by
  intro u hu
  obtain ⟨h, _, hh⟩ := List.mem_flatMap.1 hu
  unfold encHit at hh
  simp at hh
  rcases hh with rfl | rfl <;> rfl
theorem VH_get0 (l : List (Int × Int)) (i : Nat) (h : i < l.length) : (VH l)[i * 2]? = some (.int .i64 (l.getD i (0, 0)).1) := by
  induction l generalizing i with
  | nil => cases h
  | cons a r ih =>
    rw [VH_cons]
    cases i with
    | zero => rfl
    | succ i => rw [show (i + 1) * 2 = i * 2 + 1 + 1 by omega]; exact ih i (by simpa using h)
theorem VH_get1 (l : List (Int × Int)) (i : Nat) (h : i < l.length) : (VH l)[i * 2 + 1]? = some (.int .i64 (l.getD i (0, 0)).2) := by
  induction l generalizing i with
  | nil => cases h
  | cons a r ih =>
    rw [VH_cons]
    cases i with
    | zero => rfl
    | succ i => rw [show (i + 1) * 2 + 1 = i * 2 + 1 + 1 + 1 by omega]; exact ih i (by simpa using h)
theorem VH_flat (l : List (Int × Int)) (t : Nat) (h : t < l.length * 2) : (VH l)[t]? = some ((flatK encHit 2 l.toArray)[t]!) := by
  rw [get_flatK _ _ _ _ (by simpa using h)]
  have hi : t / 2 < l.length := by omega
  have e : l.toArray[t / 2]! = l.getD (t / 2) (0, 0) := by
    simp [List.getD, getElem!_def, List.getElem?_eq_getElem hi]
  rw [e]
  rcases Nat.mod_two_eq_zero_or_one t with hm | hm
  · rw [hm]
    have := VH_get0 l (t / 2) hi
    rw [show t / 2 * 2 = t by omega] at this
    exact this
  · rw [hm]
    have := VH_get1 l (t / 2) hi
    rw [show t / 2 * 2 + 1 = t by omega] at this
    exact this
theorem holds_hits {w : World} {base g n cap : Nat} {e : TypeId} {l : List (Int × Int)} (h : w.ownsRow base e 2 (.slice (some ⟨g, 0, none⟩) n cap) l.length (VH l)) : HoldsK encHit 2 w g 0 l.toArray := by
  intro j hj
  have hj' : j < l.length * 2 := by simpa using hj
  have hf := VH_flat l j hj'
  rcases h.2 with ⟨h0, _⟩ | ⟨g', cap', cur, h0, hg, hb, hn, hm, hs, ht⟩
  · cases h0
  · injection h0 with h1 h2 h3
    injection h1 with h1
    injection h1 with h1
    subst h1
    rw [Nat.zero_add, cell_blk hb, frozen_blk hb]
    refine ⟨?_, rfl⟩
    rw [← ht, List.getElem?_take, if_pos hj'] at hf
    simpa using hf
theorem sl_hits {w : World} {g : Nat} {l : List (Int × Int)} (h : HoldsK encHit 2 w g 0 l.toArray) : Sl w (some ⟨g, 0, none⟩) (VH l) :=
  ⟨fun e => (by cases e), fun a ha j u hu => by
    cases ha
    have hj : j < l.length * 2 := by
      rcases Nat.lt_or_ge j (l.length * 2) with h1 | h1
      · exact h1
      · rw [List.getElem?_eq_none (by rw [VH_length]; exact h1)] at hu; cases hu
    have h1 := (h j (by simpa using hj)).1
    rw [Nat.zero_add] at h1
    rw [show (⟨g, 0, none⟩ : Addr).add j = ⟨g, j, none⟩ by unfold Addr.add; split <;> simp_all, h1, ← hu, VH_flat l j hj]
    rfl⟩
theorem grown_putK (w : World) (q blk off : Nat) (d : Array (Int × Int)) : w.grownBy (putRowK encHit 2 (Sort.ahead w q) blk off d) (some blk) :=
  grown_trans (b := Sort.ahead w q) ⟨rfl, rfl, rfl, Nat.le_refl _, fun _ _ _ => rfl⟩ (grown_map _ _ _)
/-- one place is not behind another -/
def leHit (a b : Int × Int) : Bool := !(ltOf cmpHit) b a
theorem ltHit (a b : Int × Int) : ltOf cmpHit a b = true ↔ a.1 < b.1 ∨ (a.1 = b.1 ∧ a.2 < b.2) := by
  have hc : ∀ x y : Int, (x < y ∧ Lib.compareInt x y = -1) ∨ (x = y ∧ Lib.compareInt x y = 0) ∨ (y < x ∧ Lib.compareInt x y = 1) := by
    intro x y
    unfold Lib.compareInt
    by_cases h1 : x < y
    · exact .inl ⟨h1, by rw [if_pos h1]⟩
    · by_cases h2 : x > y
      · exact .inr (.inr ⟨h2, by rw [if_neg h1, if_pos h2]⟩)
      · exact .inr (.inl ⟨by omega, by rw [if_neg h1, if_neg h2]⟩)
  unfold ltOf cmpHit orI
  rw [decide_eq_true_iff]
  rcases hc a.1 b.1 with ⟨h1, h2⟩ | ⟨h1, h2⟩ | ⟨h1, h2⟩ <;> rcases hc a.2 b.2 with ⟨h3, h4⟩ | ⟨h3, h4⟩ | ⟨h3, h4⟩ <;> rw [h2, h4] <;> simp <;> omega
theorem swoHit : SWO (ltOf cmpHit) := by
  have hf : ∀ a b, ltOf cmpHit a b = false ↔ ¬ (a.1 < b.1 ∨ (a.1 = b.1 ∧ a.2 < b.2)) := fun a b => by rw [← ltHit, Bool.not_eq_true]
  refine ⟨fun x => ?_, fun x y z => ?_, fun x y z => ?_⟩
  · rw [hf]; omega
  · rw [ltHit, ltHit, ltHit]; omega
  · rw [hf, hf, hf]; omega
set_option maxHeartbeats 1000000 in
/-- slices.SortFunc of a row of places of the call's own -/
theorem sortHit_any {base : Nat} {w : World} {v : Value} {l : List (Int × Int)} (h : w.ownsRow base 55 2 v l.length (VH l)) (hl : l.length ≤ 1099511627776) (hb : base ≤ w.heap.size) :
    Calls Tryz.prog 59 #[v, .func (.func 60) #[] #[]] w fun e w' => e = .returned (.tuple #[]) ∧ (∃ A c, v = .slice A l.length c ∧ Sl w' A (VH (l.mergeSort leHit))) ∧ Below base w w' := by
  rcases h.2 with ⟨rfl, h0⟩ | ⟨g, cap, cur, rfl, hg, hbk, hn, hm, hs, ht⟩
  · obtain rfl := List.eq_nil_of_length_eq_zero h0
    refine (AnyF.slices_SortFunc_none Tryz.sortHit none 0 _ w).mono ?_
    rintro e w' ⟨rfl, hw⟩
    subst hw
    exact ⟨rfl, ⟨none, 0, rfl, by simpa [VH] using sl_nil _⟩, Below.refl _ _⟩
  · have hH := holds_hits h
    have hgs := blk_lt hbk
    have := (AnyQ.slices_SortFunc_total Tryz.sortHit 2 (fun _ => by kernel_rfl) (fun _ => by kernel_rfl) encHit (fun _ => rfl) (fun x v hv => by unfold encHit at hv; simp at hv; rcases hv with rfl | rfl <;> rfl) cmpHit swoHit 60 #[] g 0 cap l.toArray w (fun _ _ => rfl)
      (fun m os dk hd x y => less_any x y _) hH hgs (by simp; omega)
      (fun x y h1 h2 => by
        have h3 : ¬ _ := fun h => by rw [(ltHit x y).2 h] at h1; cases h1
        have h4 : ¬ _ := fun h => by rw [(ltHit y x).2 h] at h2; cases h2
        apply Prod.ext <;> omega)).mono (R' := fun e w' => e = .returned (.tuple #[]) ∧ (∃ A c, Value.slice (some ⟨g, 0, none⟩) l.length cap = .slice A l.length c ∧ Sl w' A (VH (l.mergeSort leHit))) ∧ Below base w w') ?_
    · rw [List.size_toArray] at this
      exact this
    · rintro e w' ⟨rfl, n, os, rfl⟩
      have hms : (l.mergeSort leHit).length = l.length := List.length_mergeSort ..
      have e1 : (l.toArray.toList.mergeSort fun x y => !(ltOf cmpHit) y x).toArray = (l.mergeSort leHit).toArray := by
        simp only []
        rfl
      rw [e1]
      refine ⟨rfl, ⟨_, _, rfl, sl_hits (holdsK_sortWorldK_c encHit 2 w g 0 l.toArray (l.mergeSort leHit).toArray n os hH hgs (by simp [hms]))⟩, ?_⟩
      exact grown_below (grown_trans (grown_putK w n g 0 _) (grown_grow _ os (some g))) (fun k hk => by injection hk with hk; omega) hb
end Go.Proofs.YtphccomhggnccaaGreat
