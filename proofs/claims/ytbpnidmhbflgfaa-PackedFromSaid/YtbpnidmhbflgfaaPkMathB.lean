/- Rows of bits read back as numbers: plain lists, no program. -/
import Derived.Test.YtbpnidmhbflgfaaPkMath
namespace Go.Proofs.Ytbpnidmhbflgfaa.PkMath
set_option linter.unusedVariables false
set_option linter.unusedSimpArgs false

/-- the numbers of which the bits ahead of m are read -/
def decTo (k n : Nat) (W : List Nat) (m : Nat) : List Nat := (List.range n).map fun i => mkbits (fun t => decide (i * k + t < m) && bt W (i * k + t)) k
theorem decTo_length (k n : Nat) (W : List Nat) (m : Nat) : (decTo k n W m).length = n := by simp [decTo]
theorem decTo_getD (k n : Nat) (W : List Nat) (m i : Nat) (hi : i < n) : (decTo k n W m).getD i 0 = mkbits (fun t => decide (i * k + t < m) && bt W (i * k + t)) k := by
  simp [decTo, List.getD, List.getElem?_map, List.getElem?_range hi]
theorem decTo_lt (k n : Nat) (W : List Nat) (m : Nat) : ∀ x ∈ decTo k n W m, x < 2 ^ k := by
  intro x hx
  obtain ⟨j, _, rfl⟩ := List.mem_map.1 hx
  exact mkbits_lt _ _
theorem decTo_zero (k n : Nat) (W : List Nat) : decTo k n W 0 = List.replicate n 0 := by
  apply List.ext_getElem
  · simp [decTo_length]
  · intro i h1 h2
    simp only [decTo, List.getElem_map, List.getElem_range, List.getElem_replicate]
    apply Nat.eq_of_testBit_eq
    intro t
    rw [testBit_mkbits]
    simp
theorem decTo_succ (k n : Nat) (W : List Nat) (i t : Nat) (hi : i < n) (ht : t < k) :
    decTo k n W (i * k + t + 1) = (decTo k n W (i * k + t)).set i ((decTo k n W (i * k + t)).getD i 0 ||| (bt W (i * k + t)).toNat * 2 ^ t) := by
  apply List.ext_getElem
  · simp [decTo_length]
  · intro j h1 h2
    rw [decTo_length] at h1
    have e1 : (decTo k n W (i * k + t + 1))[j] = mkbits (fun u => decide (j * k + u < i * k + t + 1) && bt W (j * k + u)) k := by
      simp [decTo]
    have e2 : ((decTo k n W (i * k + t)).set i ((decTo k n W (i * k + t)).getD i 0 ||| (bt W (i * k + t)).toNat * 2 ^ t))[j] =
        if j = i then ((decTo k n W (i * k + t)).getD i 0 ||| (bt W (i * k + t)).toNat * 2 ^ t) else mkbits (fun u => decide (j * k + u < i * k + t) && bt W (j * k + u)) k := by
      rw [List.getElem_set]
      by_cases e : j = i
      · subst e; simp
      · have : ¬ i = j := fun h => e h.symm
        simp [e, this, decTo]
    rw [e1, e2]
    by_cases e : j = i
    · subst e
      rw [if_pos rfl, decTo_getD _ _ _ _ _ hi]
      apply Nat.eq_of_testBit_eq
      intro u
      rw [Nat.testBit_or, testBit_mkbits, testBit_mkbits, Nat.testBit_mul_two_pow]
      by_cases hu : u = t
      · subst hu
        have : ¬ (j * k + u < j * k + u) := Nat.lt_irrefl _
        simp only [ht, this, decide_true, decide_false, Bool.false_and, Bool.and_false, Bool.false_or, Bool.true_and, Nat.le_refl, Nat.sub_self, Nat.lt_succ_self]
        cases bt W (j * k + u) <;> rfl
      · have h5 : (decide (t ≤ u) && ((bt W (j * k + t)).toNat).testBit (u - t)) = false := by
          by_cases h : t ≤ u
          · have h6 : ((bt W (j * k + t)).toNat).testBit (u - t) = false := by
              cases bt W (j * k + t)
              · simp
              · simp only [Bool.toNat_true, Nat.testBit_one_eq_true_iff_self_eq_zero, Bool.eq_false_iff, ne_eq]
                omega
            simp [h6]
          · simp [h]
        rw [h5, Bool.or_false]
        have h7 : decide (j * k + u < j * k + t + 1) = decide (j * k + u < j * k + t) := by simp; omega
        rw [h7]
    · rw [if_neg e]
      apply Nat.eq_of_testBit_eq
      intro u
      rw [testBit_mkbits, testBit_mkbits]
      by_cases hu : u < k
      · have h7 : decide (j * k + u < i * k + t + 1) = decide (j * k + u < i * k + t) := by
          have : j * k + u ≠ i * k + t := by
            intro h
            apply e
            have h1 : (j * k + u) / k = j := by rw [Nat.mul_comm, Nat.mul_add_div (by omega), Nat.div_eq_of_lt hu, Nat.add_zero]
            have h2 : (i * k + t) / k = i := by rw [Nat.mul_comm, Nat.mul_add_div (by omega), Nat.div_eq_of_lt ht, Nat.add_zero]
            rw [← h1, ← h2, h]
          simp; omega
        rw [h7]
      · simp [hu]
/-- the numbers of a row of words -/
def dec (k n : Nat) (W : List Nat) : List Nat := decTo k n W (n * k)
theorem dec_length (k n : Nat) (W : List Nat) : (dec k n W).length = n := decTo_length _ _ _ _
theorem dec_lt (k n : Nat) (W : List Nat) : ∀ x ∈ dec k n W, x < 2 ^ k := decTo_lt _ _ _ _
theorem dec_bit (k n : Nat) (W : List Nat) (hk : 1 ≤ k) (p : Nat) (hp : p < k * n) : ((dec k n W).getD (p / k) 0).testBit (p % k) = bt W p := by
  have hi : p / k < n := (Nat.div_lt_iff_lt_mul (by omega)).2 (by rw [Nat.mul_comm]; exact hp)
  have ht : p % k < k := Nat.mod_lt _ (by omega)
  have e : p / k * k + p % k = p := by rw [Nat.mul_comm]; exact Nat.div_add_mod p k
  have hp2 : p < n * k := by rw [Nat.mul_comm]; exact hp
  rw [dec, decTo_getD _ _ _ _ _ hi, testBit_mkbits, e]
  simp [ht, hp2]
theorem canon_dec {k n : Nat} {W : List Nat} (hk : 1 ≤ k) (hl : W.length = (k * n + 63) / 64) (hW : ∀ x ∈ W, x < 2 ^ 64) (hz : ∀ p, k * n ≤ p → p < 64 * W.length → bt W p = false) : canon k (dec k n W) = W := by
  symm
  apply canon_ext
  · rw [hl, dec_length]
  · exact hW
  · intro p hp
    rw [dec_length]
    by_cases h : p < k * n
    · rw [dec_bit k n W hk p h]; simp [h]
    · rw [hz p (by omega) hp]; simp [h]
/-- no bit stands behind the numbers -/
theorem spare_iff {k n : Nat} {W : List Nat} (hl : W.length = (k * n + 63) / 64) (hW : ∀ x ∈ W, x < 2 ^ 64) (hr : 0 < k * n % 64) :
    (W.getD (W.length - 1) 0 / 2 ^ (k * n % 64) = 0) ↔ ∀ p, k * n ≤ p → p < 64 * W.length → bt W p = false := by
  rw [Nat.div_eq_zero_iff_lt (Nat.two_pow_pos _)]
  have hlast : W.length - 1 = k * n / 64 := by omega
  rw [hlast]
  constructor
  · intro h p hp1 hp2
    unfold bt
    rw [show p / 64 = k * n / 64 by omega]
    exact Nat.testBit_lt_two_pow (Nat.lt_of_lt_of_le h (Nat.pow_le_pow_right (by decide) (by omega)))
  · intro h
    refine Nat.lt_pow_two_of_testBit _ fun t ht => ?_
    by_cases ht2 : t < 64
    · have := h (64 * (k * n / 64) + t) (by omega) (by omega)
      unfold bt at this
      rw [show (64 * (k * n / 64) + t) / 64 = k * n / 64 by omega, show (64 * (k * n / 64) + t) % 64 = t by omega] at this
      exact this
    · exact Nat.testBit_lt_two_pow (Nat.lt_of_lt_of_le (getD_lt hW _) (Nat.pow_le_pow_right (by decide) (by omega)))
theorem spare_none {k n : Nat} {W : List Nat} (hl : W.length = (k * n + 63) / 64) (hr : k * n % 64 = 0) : ∀ p, k * n ≤ p → p < 64 * W.length → bt W p = false := by
  intro p h1 h2; omega

end Go.Proofs.Ytbpnidmhbflgfaa.PkMath
