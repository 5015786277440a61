/- The law BitsLong, walked. -/
import Derived.Test.YtfgkkffgcgjhfaaBtLawE
namespace Go.Proofs.Ytfgkkffgcgjhfaa
set_option linter.unusedVariables false
set_option linter.unusedSimpArgs false
open Go.RowKit PkMath Pop Rank BtMath

/-- so many multiples -/
def mults (s m : Nat) : List Int := (List.range m).map fun q => ((q * s : Nat) : Int)
theorem mults_length (s m : Nat) : (mults s m).length = m := by simp [mults]
theorem mults_succ (s m : Nat) : mults s (m + 1) = mults s m ++ [((m * s : Nat) : Int)] := by simp [mults, List.range_succ]
theorem mults_getD (s m j : Nat) (h : j < m) : (mults s m).getD j 0 = ((j * s : Nat) : Int) := by
  simp [mults, List.getD, List.getElem?_map, List.getElem?_range h]
theorem cdiv (s i : Nat) (hs : 1 ≤ s) : (i + s - 1) / s = i / s + (if i % s = 0 then 0 else 1) := by
  obtain ⟨q, hq⟩ : ∃ q, i / s = q := ⟨_, rfl⟩
  obtain ⟨r, hr⟩ : ∃ r, i % s = r := ⟨_, rfl⟩
  have hlt : r < s := by rw [← hr]; exact Nat.mod_lt _ (by omega)
  have hi : s * q + r = i := by rw [← hq, ← hr]; exact Nat.div_add_mod i s
  rw [hq, hr]
  by_cases h0 : r = 0
  · rw [if_pos h0, show i + s - 1 = s * q + (s - 1) by omega, Nat.mul_add_div (by omega), Nat.div_eq_of_lt (by omega)]
  · rw [if_neg h0, show i + s - 1 = s * (q + 1) + (r - 1) by rw [Nat.mul_add, Nat.mul_one]; omega, Nat.mul_add_div (by omega), Nat.div_eq_of_lt (by omega)]
theorem mod_zero (s i : Nat) (hs : 1 ≤ s) : i % s = 0 ↔ ∃ q, i = q * s := by
  constructor
  · intro h
    exact ⟨i / s, by have := Nat.div_add_mod i s; rw [h, Nat.add_zero, Nat.mul_comm] at this; exact this.symm⟩
  · rintro ⟨q, rfl⟩
    exact Nat.mul_mod_left q s
/-- the bits that are laid -/
theorem mults_bits (n s m : Nat) (hs : 1 ≤ s) (hm : ∀ q, q < m → q * s < n) (j : Nat) (hj : j ≤ m) (p : Nat) (hp : p < n) :
    (laidAll (List.replicate n false) (mults s m) j).getD p false = decide (p % s = 0 ∧ p < j * s) := by
  induction j with
  | zero => rw [laidAll_zero]; simp [List.getD, List.getElem?_replicate, hp]
  | succ j ih =>
    have ih := ih (by omega)
    have hll : (laidAll (List.replicate n false) (mults s m) j).length = n := by rw [laidAll_length, List.length_replicate]
    have hjn := hm j (by omega)
    rw [laidAll_succ _ _ _ (by rw [mults_length]; omega), mults_getD _ _ _ (by omega)]
    have e : laid (laidAll (List.replicate n false) (mults s m) j) (((j * s : Nat)) : Int) = (laidAll (List.replicate n false) (mults s m) j).set (j * s) true := by
      unfold laid; rw [if_pos (by rw [hll]; omega), Int.toNat_natCast]
    rw [e, getD_setB _ _ _ (by rw [hll]; exact hjn), ih]
    have hjs : (j + 1) * s = j * s + s := by rw [Nat.add_mul, Nat.one_mul]
    by_cases hpj : p = j * s
    · rw [if_pos hpj]
      have h1 : p % s = 0 := (mod_zero s p hs).2 ⟨j, hpj⟩
      have h2 : p < (j + 1) * s := by rw [hjs, hpj]; omega
      exact (decide_eq_true ⟨h1, h2⟩).symm
    · rw [if_neg hpj]
      have : (p % s = 0 ∧ p < j * s) ↔ (p % s = 0 ∧ p < (j + 1) * s) := by
        constructor
        · rintro ⟨h1, h2⟩; exact ⟨h1, by omega⟩
        · rintro ⟨h1, h2⟩
          refine ⟨h1, ?_⟩
          obtain ⟨q, rfl⟩ := (mod_zero s p hs).1 h1
          have hq : q < j + 1 := Nat.lt_of_mul_lt_mul_right h2
          have hqj : q ≠ j := fun e => hpj (by rw [e])
          exact Nat.mul_lt_mul_of_pos_right (by omega) (by omega)
      simp only [this]
/-- how many, how far -/
theorem mults_rank (n s m : Nat) (hs : 1 ≤ s) (hm : ∀ q, q < m → q * s < n) (hm2 : n ≤ m * s) (i : Nat) (hi : i ≤ n) :
    rk (laidAll (List.replicate n false) (mults s m) m) true i = (i + s - 1) / s := by
  have hll : (laidAll (List.replicate n false) (mults s m) m).length = n := by rw [laidAll_length, List.length_replicate]
  induction i with
  | zero => rw [rk_zero, Nat.div_eq_of_lt (by omega)]
  | succ i ih =>
    have ih := ih (by omega)
    have hb := mults_bits n s m hs hm m (Nat.le_refl _) i (by omega)
    have hnext : (i + 1 + s - 1) / s = i / s + 1 := by
      rw [show i + 1 + s - 1 = i + s by omega, Nat.add_div_right _ (by omega)]
    rw [hnext]
    rw [cdiv s i hs] at ih
    by_cases h0 : i % s = 0
    · rw [decide_eq_true ⟨h0, by omega⟩] at hb
      rw [rk_true_succ (by rw [hll]; omega) hb, ih, if_pos h0]
    · rw [decide_eq_false (by omega)] at hb
      rw [rk_false_succ (by rw [hll]; omega) (by rw [hb]; decide), ih, if_neg h0]
theorem mults_slI (n s m : Nat) (hs : 1 ≤ s) (hm : ∀ q, q < m → q * s < n) (hm2 : n ≤ m * s) (k : Nat) :
    slI (laidAll (List.replicate n false) (mults s m) m) true (k : Int) = if k < m then ((k * s : Nat) : Int) else -1 := by
  have hll : (laidAll (List.replicate n false) (mults s m) m).length = n := by rw [laidAll_length, List.length_replicate]
  by_cases hk : k < m
  · rw [if_pos hk]
    have hkn := hm k hk
    have hb := mults_bits n s m hs hm m (Nat.le_refl _) (k * s) hkn
    rw [decide_eq_true ⟨(mod_zero s _ hs).2 ⟨k, rfl⟩, Nat.mul_lt_mul_of_pos_right hk (by omega)⟩] at hb
    apply slI_some
    refine sl_some.2 ⟨by rw [hll]; exact hkn, by simpa [List.getD, List.getElem?_eq_getElem (show k * s < _ by rw [hll]; exact hkn)] using hb, ?_⟩
    rw [mults_rank n s m hs hm hm2 _ (by omega), cdiv s _ hs, if_pos (Nat.mul_mod_left k s), Nat.mul_div_cancel _ (by omega), Nat.add_zero]
  · rw [if_neg hk]
    apply slI_none
    rw [hll, mults_rank n s m hs hm hm2 _ (Nat.le_refl _)]
    have : (n + s - 1) / s < m + 1 := by
      rw [Nat.div_lt_iff_lt_mul (by omega), Nat.add_mul, Nat.one_mul]; omega
    omega
theorem mults_all (n s m : Nat) (hs : 1 ≤ s) (hm : ∀ q, q < m → q * s < n) (hm2 : n ≤ m * s) : (n + s - 1) / s = m := by
  have h1 : (n + s - 1) / s < m + 1 := by
    rw [Nat.div_lt_iff_lt_mul (by omega), Nat.add_mul, Nat.one_mul]; omega
  have h2 : m ≤ (n + s - 1) / s := by
    rw [Nat.le_div_iff_mul_le (by omega)]
    by_cases h : m = 0
    · subst h; simp
    · have := hm (m - 1) (by omega)
      have e : m * s = (m - 1) * s + s := by
        obtain ⟨q, rfl⟩ : ∃ q, m = q + 1 := ⟨m - 1, by omega⟩
        rw [Nat.add_sub_cancel, Nat.add_mul, Nat.one_mul]
      omega
  omega

end Go.Proofs.Ytfgkkffgcgjhfaa
