/- Rows of bits in words of 64: plain numbers and lists, no program. -/
namespace Go.Proofs.Ytfgkkffgcgjhfaa.PkMath
set_option linter.unusedVariables false
set_option linter.unusedSimpArgs false

/-- a number by its bits -/
def mkbits (f : Nat → Bool) : Nat → Nat
  | 0 => 0
  | n + 1 => mkbits f n ||| (if f n then 2 ^ n else 0)

theorem testBit_mkbits (f : Nat → Bool) (n t : Nat) : (mkbits f n).testBit t = (decide (t < n) && f t) := by
  induction n with
  | zero => simp [mkbits]
  | succ n ih =>
    simp only [mkbits, Nat.testBit_or, ih]
    by_cases e : t = n
    · subst e
      cases hf : f t <;> simp [Nat.testBit_two_pow_self]
    · have h1 : (if f n = true then 2 ^ n else 0).testBit t = false := by
        split
        · exact Nat.testBit_two_pow_of_ne (by omega)
        · simp
      rw [h1, Bool.or_false]
      by_cases h : t < n
      · simp [h, Nat.lt_succ_of_lt h]
      · have : ¬ t < n + 1 := by omega
        simp [h, this]

theorem mkbits_lt (f : Nat → Bool) (n : Nat) : mkbits f n < 2 ^ n :=
  Nat.lt_pow_two_of_testBit _ fun i hi => by
    rw [testBit_mkbits]
    have : ¬ i < n := by omega
    simp [this]

/-- a bit of a row of words -/
def bt (W : List Nat) (p : Nat) : Bool := (W.getD (p / 64) 0).testBit (p % 64)

/-- a word of the row of numbers of k digits -/
def cw (k : Nat) (l : List Nat) (j : Nat) : Nat :=
  mkbits (fun t => decide (64 * j + t < k * l.length) && (l.getD ((64 * j + t) / k) 0).testBit ((64 * j + t) % k)) 64
def canon (k : Nat) (l : List Nat) : List Nat := (List.range ((k * l.length + 63) / 64)).map (cw k l)

theorem canon_length (k : Nat) (l : List Nat) : (canon k l).length = (k * l.length + 63) / 64 := by simp [canon]
theorem canon_getD (k : Nat) (l : List Nat) (j : Nat) (h : j < (k * l.length + 63) / 64) : (canon k l).getD j 0 = cw k l j := by
  simp [canon, List.getD, List.getElem?_map, List.getElem?_range h]
theorem cw_lt (k : Nat) (l : List Nat) (j : Nat) : cw k l j < 2 ^ 64 := mkbits_lt _ _
theorem canon_ok (k : Nat) (l : List Nat) : ∀ x ∈ canon k l, x < 2 ^ 64 := by
  intro x hx
  obtain ⟨j, _, rfl⟩ := List.mem_map.1 hx
  exact cw_lt k l j
theorem getD_lt {W : List Nat} (h : ∀ x ∈ W, x < 2 ^ 64) (j : Nat) : W.getD j 0 < 2 ^ 64 := by
  by_cases hj : j < W.length
  · rw [List.getD, List.getElem?_eq_getElem hj]; exact h _ (List.getElem_mem hj)
  · rw [List.getD, List.getElem?_eq_none (by omega)]; exact Nat.two_pow_pos _
theorem bt_canon (k : Nat) (l : List Nat) (p : Nat) : bt (canon k l) p = (decide (p < k * l.length) && (l.getD (p / k) 0).testBit (p % k)) := by
  unfold bt
  have e : 64 * (p / 64) + p % 64 = p := by omega
  by_cases h : p / 64 < (k * l.length + 63) / 64
  · rw [canon_getD _ _ _ h, cw, testBit_mkbits, e]
    have : p % 64 < 64 := by omega
    simp [this]
  · rw [List.getD, List.getElem?_eq_none (by rw [canon_length]; omega)]
    have : ¬ p < k * l.length := by omega
    simp [this]
theorem words_ext {W V : List Nat} (hl : W.length = V.length) (hW : ∀ x ∈ W, x < 2 ^ 64) (hV : ∀ x ∈ V, x < 2 ^ 64) (h : ∀ p, p < 64 * W.length → bt W p = bt V p) : W = V := by
  apply List.ext_getElem hl
  intro j h1 h2
  apply Nat.eq_of_testBit_eq
  intro t
  by_cases ht : t < 64
  · have := h (64 * j + t) (by omega)
    unfold bt at this
    rw [show (64 * j + t) / 64 = j by omega, show (64 * j + t) % 64 = t by omega] at this
    simpa [List.getD, List.getElem?_eq_getElem h1, List.getElem?_eq_getElem h2] using this
  · have a1 : W[j].testBit t = false := Nat.testBit_lt_two_pow (Nat.lt_of_lt_of_le (hW _ (List.getElem_mem h1)) (Nat.pow_le_pow_right (by decide) (by omega)))
    have a2 : V[j].testBit t = false := Nat.testBit_lt_two_pow (Nat.lt_of_lt_of_le (hV _ (List.getElem_mem h2)) (Nat.pow_le_pow_right (by decide) (by omega)))
    rw [a1, a2]
theorem canon_ext {k : Nat} {l : List Nat} {W : List Nat} (hl : W.length = (k * l.length + 63) / 64) (hW : ∀ x ∈ W, x < 2 ^ 64)
    (h : ∀ p, p < 64 * W.length → bt W p = (decide (p < k * l.length) && (l.getD (p / k) 0).testBit (p % k))) : W = canon k l :=
  words_ext (by rw [hl, canon_length]) hW (canon_ok k l) fun p hp => by rw [h p hp, bt_canon]

/-- what Get reckons from two words -/
def gw (k x y off : Nat) : Nat := (if 64 < off + k then (x >>> off ||| (y <<< (64 - off)) % 2 ^ 64) else x >>> off) &&& (2 ^ k - 1)

theorem bt_split (W : List Nat) (s t : Nat) (ht : t < 64) : bt W (s + t) = if s % 64 + t < 64 then (W.getD (s / 64) 0).testBit (s % 64 + t) else (W.getD (s / 64 + 1) 0).testBit (s % 64 + t - 64) := by
  unfold bt
  split
  · rw [show (s + t) / 64 = s / 64 by omega, show (s + t) % 64 = s % 64 + t by omega]
  · rw [show (s + t) / 64 = s / 64 + 1 by omega, show (s + t) % 64 = s % 64 + t - 64 by omega]

theorem testBit_gw (W : List Nat) (hW : ∀ x ∈ W, x < 2 ^ 64) (k s t : Nat) (hk : k ≤ 64) :
    (gw k (W.getD (s / 64) 0) (W.getD (s / 64 + 1) 0) (s % 64)).testBit t = (decide (t < k) && bt W (s + t)) := by
  unfold gw
  rw [Nat.testBit_and, Nat.testBit_two_pow_sub_one]
  by_cases htk : t < k
  · have ht : t < 64 := by omega
    rw [bt_split W s t ht]
    simp only [htk, decide_true, Bool.and_true, Bool.true_and]
    split
    · rename_i hov
      rw [Nat.testBit_or, Nat.testBit_shiftRight, Nat.testBit_mod_two_pow, Nat.testBit_shiftLeft]
      split
      · rename_i hin
        have : ¬ t ≥ 64 - s % 64 := by omega
        simp [this]
      · rename_i hout
        have h1 : (W.getD (s / 64) 0).testBit (s % 64 + t) = false :=
          Nat.testBit_lt_two_pow (Nat.lt_of_lt_of_le (getD_lt hW _) (Nat.pow_le_pow_right (by decide) (by omega)))
        have h2 : t ≥ 64 - s % 64 := by omega
        rw [h1]
        simp only [ht, h2, decide_true, Bool.true_and, Bool.false_or]
        rw [show t - (64 - s % 64) = s % 64 + t - 64 by omega]
    · rename_i hov
      rw [Nat.testBit_shiftRight, if_pos (by omega)]
  · simp [htk]

theorem gw_canon {k : Nat} {l : List Nat} (hk1 : 1 ≤ k) (hk : k ≤ 64) (hl : ∀ x ∈ l, x < 2 ^ k) {i : Nat} (hi : i < l.length) :
    gw k ((canon k l).getD (i * k / 64) 0) ((canon k l).getD (i * k / 64 + 1) 0) (i * k % 64) = l.getD i 0 := by
  apply Nat.eq_of_testBit_eq
  intro t
  rw [testBit_gw _ (canon_ok k l) k (i * k) t hk, bt_canon]
  have hx : l.getD i 0 < 2 ^ k := by rw [List.getD, List.getElem?_eq_getElem hi]; exact hl _ (List.getElem_mem hi)
  by_cases ht : t < k
  · have h1 : i * k + t < k * l.length := by
      calc i * k + t < i * k + k := by omega
        _ = (i + 1) * k := by rw [Nat.add_mul, Nat.one_mul]
        _ ≤ l.length * k := Nat.mul_le_mul_right k hi
        _ = k * l.length := Nat.mul_comm _ _
    have h2 : (i * k + t) / k = i := by rw [Nat.mul_comm, Nat.mul_add_div (by omega), Nat.div_eq_of_lt ht, Nat.add_zero]
    have h3 : (i * k + t) % k = t := by rw [Nat.mul_comm, Nat.mul_add_mod, Nat.mod_eq_of_lt ht]
    simp [ht, h1, h2, h3]
  · have : (l.getD i 0).testBit t = false := Nat.testBit_lt_two_pow (Nat.lt_of_lt_of_le hx (Nat.pow_le_pow_right (by decide) (by omega)))
    simp [ht]
    simpa [List.getD] using this

/-- what Set lays into the first word, and into the next -/
def s1 (k x v off : Nat) : Nat := (x &&& (2 ^ 64 - 1 - (2 ^ k - 1) * 2 ^ off % 2 ^ 64)) ||| (v * 2 ^ off % 2 ^ 64)
def s2 (k y v off : Nat) : Nat := (y &&& (2 ^ 64 - 1 - (2 ^ k - 1) / 2 ^ (64 - off))) ||| (v / 2 ^ (64 - off))
def setW (k : Nat) (W : List Nat) (i v : Nat) : List Nat :=
  if 64 < i * k % 64 + k then (W.set (i * k / 64) (s1 k (W.getD (i * k / 64) 0) v (i * k % 64))).set (i * k / 64 + 1) (s2 k (W.getD (i * k / 64 + 1) 0) v (i * k % 64))
  else W.set (i * k / 64) (s1 k (W.getD (i * k / 64) 0) v (i * k % 64))

theorem testBit_not64 {y : Nat} (hy : y < 2 ^ 64) (t : Nat) : (2 ^ 64 - 1 - y).testBit t = (decide (t < 64) && !y.testBit t) := by
  rw [show 2 ^ 64 - 1 - y = 2 ^ 64 - (y + 1) by omega, Nat.testBit_two_pow_sub_succ hy]

theorem testBit_s1 (k x v off : Nat) (hx : x < 2 ^ 64) (hv : v < 2 ^ k) (ho : off < 64) (t : Nat) (ht : t < 64) :
    (s1 k x v off).testBit t = if off ≤ t ∧ t < off + k then v.testBit (t - off) else x.testBit t := by
  unfold s1
  rw [Nat.testBit_or, Nat.testBit_and, testBit_not64 (Nat.mod_lt _ (by decide)), Nat.testBit_mod_two_pow, Nat.testBit_mod_two_pow, Nat.testBit_mul_two_pow, Nat.testBit_mul_two_pow, Nat.testBit_two_pow_sub_one]
  simp only [ht, decide_true, Bool.true_and]
  by_cases h1 : off ≤ t
  · by_cases h2 : t < off + k
    · have : t - off < k := by omega
      simp [h1, h2, this]
    · have h3 : ¬ t - off < k := by omega
      have h4 : v.testBit (t - off) = false := Nat.testBit_lt_two_pow (Nat.lt_of_lt_of_le hv (Nat.pow_le_pow_right (by decide) (by omega)))
      simp [h1, h2, h3, h4]
  · simp [h1]
theorem testBit_s2 (k y v off : Nat) (hy : y < 2 ^ 64) (hv : v < 2 ^ k) (hk : k ≤ 64) (hov : 64 < off + k) (ho : off < 64) (t : Nat) (ht : t < 64) :
    (s2 k y v off).testBit t = if t < off + k - 64 then v.testBit (t + (64 - off)) else y.testBit t := by
  unfold s2
  have hm : (2 ^ k - 1) / 2 ^ (64 - off) < 2 ^ 64 := Nat.lt_of_le_of_lt (Nat.div_le_self _ _) (by
    have : 2 ^ k ≤ 2 ^ 64 := Nat.pow_le_pow_right (by decide) hk
    have := Nat.two_pow_pos k
    omega)
  rw [Nat.testBit_or, Nat.testBit_and, testBit_not64 hm, Nat.testBit_div_two_pow, Nat.testBit_div_two_pow, Nat.testBit_two_pow_sub_one]
  simp only [ht, decide_true, Bool.true_and]
  by_cases h : t < off + k - 64
  · have : t + (64 - off) < k := by omega
    simp [h, this]
  · have h3 : ¬ t + (64 - off) < k := by omega
    have h4 : v.testBit (t + (64 - off)) = false := Nat.testBit_lt_two_pow (Nat.lt_of_lt_of_le hv (Nat.pow_le_pow_right (by decide) (by omega)))
    simp [h, h3, h4]
theorem s1_lt (k x v off : Nat) (hx : x < 2 ^ 64) : s1 k x v off < 2 ^ 64 :=
  Nat.or_lt_two_pow (Nat.lt_of_le_of_lt Nat.and_le_left hx) (Nat.mod_lt _ (by decide))
theorem s2_lt (k y v off : Nat) (hy : y < 2 ^ 64) (hv : v < 2 ^ k) (hk : k ≤ 64) : s2 k y v off < 2 ^ 64 :=
  Nat.or_lt_two_pow (Nat.lt_of_le_of_lt Nat.and_le_left hy) (Nat.lt_of_le_of_lt (Nat.div_le_self _ _) (Nat.lt_of_lt_of_le hv (Nat.pow_le_pow_right (by decide) hk)))

theorem length_setW (k : Nat) (W : List Nat) (i v : Nat) : (setW k W i v).length = W.length := by unfold setW; split <;> simp
theorem setW_ok {k : Nat} {W : List Nat} (hW : ∀ x ∈ W, x < 2 ^ 64) (i : Nat) {v : Nat} (hv : v < 2 ^ k) (hk : k ≤ 64) : ∀ x ∈ setW k W i v, x < 2 ^ 64 := by
  intro x hx
  unfold setW at hx
  have a1 := s1_lt k (W.getD (i * k / 64) 0) v (i * k % 64) (getD_lt hW _)
  have a2 := s2_lt k (W.getD (i * k / 64 + 1) 0) v (i * k % 64) (getD_lt hW _) hv hk
  split at hx
  · rcases List.mem_or_eq_of_mem_set hx with hx | rfl
    · rcases List.mem_or_eq_of_mem_set hx with hx | rfl
      · exact hW _ hx
      · exact a1
    · exact a2
  · rcases List.mem_or_eq_of_mem_set hx with hx | rfl
    · exact hW _ hx
    · exact a1

theorem getD_set (W : List Nat) (a j x : Nat) (ha : a < W.length) : (W.set a x).getD j 0 = if j = a then x else W.getD j 0 := by
  simp only [List.getD, List.getElem?_set]
  by_cases h : j = a
  · subst h; simp [ha]
  · have : ¬ a = j := fun e => h e.symm
    simp [h, this]

theorem bt_setW {k : Nat} {W : List Nat} (hW : ∀ x ∈ W, x < 2 ^ 64) (i : Nat) {v : Nat} (hv : v < 2 ^ k) (hk1 : 1 ≤ k) (hk : k ≤ 64) (hlen : (i * k + k + 63) / 64 ≤ W.length) (p : Nat) :
    bt (setW k W i v) p = if i * k ≤ p ∧ p < i * k + k then v.testBit (p - i * k) else bt W p := by
  have hp : p % 64 < 64 := by omega
  have ho : i * k % 64 < 64 := by omega
  unfold bt setW
  generalize hs : i * k = s at *
  by_cases hov : 64 < s % 64 + k
  · rw [if_pos hov, getD_set _ _ _ _ (by simp; omega), getD_set _ _ _ _ (by omega)]
    by_cases h1 : p / 64 = s / 64 + 1
    · rw [if_pos h1, h1, testBit_s2 _ _ _ _ (getD_lt hW _) hv hk hov ho _ hp]
      by_cases h2 : p % 64 < s % 64 + k - 64
      · rw [if_pos h2, if_pos (by omega)]; congr 1; omega
      · rw [if_neg h2, if_neg (by omega)]
    · rw [if_neg h1]
      by_cases h0 : p / 64 = s / 64
      · rw [if_pos h0, h0, testBit_s1 _ _ _ _ (getD_lt hW _) hv ho _ hp]
        by_cases h2 : s % 64 ≤ p % 64 ∧ p % 64 < s % 64 + k
        · rw [if_pos h2, if_pos (by omega)]; congr 1; omega
        · rw [if_neg h2, if_neg (by omega)]
      · rw [if_neg h0, if_neg (by omega)]
  · rw [if_neg hov, getD_set _ _ _ _ (by omega)]
    by_cases h0 : p / 64 = s / 64
    · rw [if_pos h0, h0, testBit_s1 _ _ _ _ (getD_lt hW _) hv ho _ hp]
      by_cases h2 : s % 64 ≤ p % 64 ∧ p % 64 < s % 64 + k
      · rw [if_pos h2, if_pos (by omega)]; congr 1; omega
      · rw [if_neg h2, if_neg (by omega)]
    · rw [if_neg h0, if_neg (by omega)]

theorem mul_fits {k i n : Nat} (hi : i < n) : i * k + k ≤ k * n := by
  calc i * k + k = (i + 1) * k := by rw [Nat.add_mul, Nat.one_mul]
    _ ≤ n * k := Nat.mul_le_mul_right k hi
    _ = k * n := Nat.mul_comm _ _

theorem setW_canon {k : Nat} {l : List Nat} (hk1 : 1 ≤ k) (hk : k ≤ 64) {i : Nat} (hi : i < l.length) {v : Nat} (hv : v < 2 ^ k) :
    setW k (canon k l) i v = canon k (l.set i v) := by
  have hf := mul_fits (k := k) hi
  apply canon_ext
  · rw [length_setW, canon_length, List.length_set]
  · exact setW_ok (canon_ok k l) i hv hk
  · intro p hp
    rw [length_setW, canon_length] at hp
    rw [bt_setW (canon_ok k l) i hv hk1 hk (by rw [canon_length]; omega), bt_canon, List.length_set, getD_set _ _ _ _ hi]
    by_cases hin : i * k ≤ p ∧ p < i * k + k
    · have h2 : p / k = i := by
        have e : p = k * i + (p - i * k) := by rw [Nat.mul_comm]; omega
        rw [e, Nat.mul_add_div (by omega), Nat.div_eq_of_lt (by omega), Nat.add_zero]
      have h3 : p % k = p - i * k := by
        have e : p = k * i + (p - i * k) := by rw [Nat.mul_comm]; omega
        rw [e, Nat.mul_add_mod, Nat.mod_eq_of_lt (by omega)]
        rw [Nat.mul_comm]; omega
      have h4 : p < k * l.length := by omega
      simp [hin, h2, h3, h4]
    · rw [if_neg hin]
      have h2 : p / k ≠ i := by
        intro e
        apply hin
        have h5 := Nat.div_add_mod p k
        have h6 := Nat.mod_lt p (show 0 < k by omega)
        rw [e] at h5
        rw [Nat.mul_comm] at h5
        omega
      simp [h2]

/-- the row of which the first m bits are laid -/
def bitsTo (k : Nat) (l : List Nat) (m : Nat) : List Nat :=
  (List.range ((k * l.length + 63) / 64)).map fun j => mkbits (fun t => decide (64 * j + t < m) && (l.getD ((64 * j + t) / k) 0).testBit ((64 * j + t) % k)) 64
theorem bitsTo_length (k : Nat) (l : List Nat) (m : Nat) : (bitsTo k l m).length = (k * l.length + 63) / 64 := by simp [bitsTo]
theorem bitsTo_ok (k : Nat) (l : List Nat) (m : Nat) : ∀ x ∈ bitsTo k l m, x < 2 ^ 64 := by
  intro x hx
  obtain ⟨j, _, rfl⟩ := List.mem_map.1 hx
  exact mkbits_lt _ _
theorem bitsTo_all (k : Nat) (l : List Nat) : bitsTo k l (k * l.length) = canon k l := rfl
theorem bt_bitsTo (k : Nat) (l : List Nat) (m : Nat) (hm : m ≤ k * l.length) (p : Nat) : bt (bitsTo k l m) p = (decide (p < m) && (l.getD (p / k) 0).testBit (p % k)) := by
  unfold bt
  have e : 64 * (p / 64) + p % 64 = p := by omega
  by_cases h : p / 64 < (k * l.length + 63) / 64
  · have h1 : (bitsTo k l m).getD (p / 64) 0 = mkbits (fun t => decide (64 * (p / 64) + t < m) && (l.getD ((64 * (p / 64) + t) / k) 0).testBit ((64 * (p / 64) + t) % k)) 64 := by
      simp [bitsTo, List.getD, List.getElem?_map, List.getElem?_range h]
    rw [h1, testBit_mkbits, e]
    have : p % 64 < 64 := by omega
    simp [this]
  · rw [List.getD, List.getElem?_eq_none (by rw [bitsTo_length]; omega)]
    have : ¬ p < m := by omega
    simp [this]
theorem bitsTo_zero (k : Nat) (l : List Nat) : bitsTo k l 0 = List.replicate ((k * l.length + 63) / 64) 0 := by
  apply words_ext
  · simp [bitsTo_length]
  · exact bitsTo_ok k l 0
  · intro x hx; rw [(List.mem_replicate.1 hx).2]; exact Nat.two_pow_pos _
  · intro p _
    rw [bt_bitsTo k l 0 (Nat.zero_le _)]
    have h0 : ∀ m j : Nat, (List.replicate m 0).getD j 0 = 0 := fun m j => by
      simp only [List.getD, List.getElem?_replicate]; split <;> rfl
    unfold bt
    rw [h0]
    simp
/-- one bit more -/
theorem bitsTo_succ (k : Nat) (l : List Nat) (m : Nat) (hm : m < k * l.length) :
    bitsTo k l (m + 1) = (bitsTo k l m).set (m / 64) ((bitsTo k l m).getD (m / 64) 0 ||| (((l.getD (m / k) 0).testBit (m % k)).toNat * 2 ^ (m % 64))) := by
  have hlt : m / 64 < (bitsTo k l m).length := by rw [bitsTo_length]; omega
  have hb : ((l.getD (m / k) 0).testBit (m % k)).toNat * 2 ^ (m % 64) < 2 ^ 64 := by
    have h1 : 2 ^ (m % 64) < 2 ^ 64 := Nat.pow_lt_pow_right (by decide) (by omega)
    cases (l.getD (m / k) 0).testBit (m % k) <;> simp <;> omega
  apply words_ext
  · simp [bitsTo_length]
  · exact bitsTo_ok k l _
  · intro x hx
    rcases List.mem_or_eq_of_mem_set hx with hx | rfl
    · exact bitsTo_ok k l m _ hx
    · exact Nat.or_lt_two_pow (getD_lt (bitsTo_ok k l m) _) hb
  · intro p _
    rw [bt_bitsTo k l (m + 1) hm]
    have h2 := bt_bitsTo k l m (by omega) p
    unfold bt at h2 ⊢
    rw [getD_set _ _ _ _ hlt]
    by_cases he : p / 64 = m / 64
    · rw [if_pos he, Nat.testBit_or, Nat.testBit_mul_two_pow, ← he, h2]
      by_cases hp : p = m
      · subst hp
        have : ¬ p < p := Nat.lt_irrefl p
        simp only [this, decide_false, Bool.false_and, Bool.false_or, Nat.le_refl, decide_true, Bool.true_and, Nat.sub_self, Nat.lt_succ_self]
        cases (l.getD (p / k) 0).testBit (p % k) <;> rfl
      · by_cases hlt2 : m % 64 ≤ p % 64
        · have h5 : ((l.getD (m / k) 0).testBit (m % k)).toNat.testBit (p % 64 - m % 64) = false := by
            cases (l.getD (m / k) 0).testBit (m % k)
            · simp
            · simp only [Bool.toNat_true, Nat.testBit_one_eq_true_iff_self_eq_zero, Bool.eq_false_iff, ne_eq]
              omega
          have h6 : (decide (p < m + 1)) = decide (p < m) := by simp; omega
          rw [h5, h6]; simp
        · have h6 : (decide (p < m + 1)) = decide (p < m) := by simp; omega
          have h7 : ¬ m % 64 ≤ p % 64 := hlt2
          rw [h6]; simp [h7]
    · rw [if_neg he, h2]
      have h6 : (decide (p < m + 1)) = decide (p < m) := by
        have : p ≠ m := fun e => he (by rw [e])
        simp; omega
      rw [h6]

end Go.Proofs.Ytfgkkffgcgjhfaa.PkMath
