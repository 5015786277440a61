/- Rows of bits with counts ahead of each word: plain lists, no program. -/
import Derived.Test.YtfgkkffgcgjhfaaPkMath
import Derived.Test.YtfgkkffgcgjhfaaPop
import Derived.Test.YtfgkkffgcgjhfaaRank
namespace Go.Proofs.Ytfgkkffgcgjhfaa.BtMath
set_option linter.unusedVariables false
set_option linter.unusedSimpArgs false
open PkMath Pop Rank

/-- a word of a row of bits -/
def bword (l : List Bool) (j : Nat) : Nat := mkbits (fun t => l.getD (64 * j + t) false) 64
def bwords (l : List Bool) : List Nat := (List.range ((l.length + 63) / 64)).map (bword l)
theorem bwords_length (l : List Bool) : (bwords l).length = (l.length + 63) / 64 := by simp [bwords]
theorem bwords_ok (l : List Bool) : ∀ x ∈ bwords l, x < 2 ^ 64 := by
  intro x hx
  obtain ⟨j, _, rfl⟩ := List.mem_map.1 hx
  exact mkbits_lt _ _
theorem bwords_getD (l : List Bool) (j : Nat) (h : j < (l.length + 63) / 64) : (bwords l).getD j 0 = bword l j := by
  simp [bwords, List.getD, List.getElem?_map, List.getElem?_range h]
theorem bt_bwords (l : List Bool) (p : Nat) : bt (bwords l) p = l.getD p false := by
  unfold bt
  have e : 64 * (p / 64) + p % 64 = p := by omega
  by_cases h : p / 64 < (l.length + 63) / 64
  · rw [bwords_getD _ _ h, bword, testBit_mkbits, e]
    have : p % 64 < 64 := by omega
    simp [this]
  · rw [List.getD, List.getElem?_eq_none (by rw [bwords_length]; omega)]
    have : ¬ p < l.length := by omega
    simp [List.getD, List.getElem?_eq_none (show l.length ≤ p by omega)]
theorem bwords_none (n : Nat) : bwords (List.replicate n false) = List.replicate ((n + 63) / 64) 0 := by
  apply words_ext
  · rw [bwords_length, List.length_replicate, List.length_replicate]
  · exact bwords_ok _
  · intro x hx; rw [(List.mem_replicate.1 hx).2]; exact Nat.two_pow_pos _
  · intro p _
    have h0 : ∀ m j : Nat, (List.replicate m 0).getD j 0 = 0 := fun m j => by
      simp only [List.getD, List.getElem?_replicate]; split <;> rfl
    have h1 : (List.replicate n false).getD p false = false := by
      simp only [List.getD, List.getElem?_replicate]; split <;> rfl
    rw [bt_bwords, h1]
    unfold bt
    rw [h0]
    simp
theorem getD_setB (l : List Bool) (i j : Nat) (h : i < l.length) : (l.set i true).getD j false = if j = i then true else l.getD j false := by
  simp only [List.getD, List.getElem?_set]
  by_cases e : j = i
  · subst e; simp [h]
  · have : ¬ i = j := fun x => e x.symm
    simp [e, this]
/-- one bit laid -/
theorem bwords_set (l : List Bool) (i : Nat) (h : i < l.length) : bwords (l.set i true) = (bwords l).set (i / 64) ((bwords l).getD (i / 64) 0 ||| 2 ^ (i % 64)) := by
  have hlt : i / 64 < (bwords l).length := by rw [bwords_length]; omega
  have hp : 2 ^ (i % 64) < 2 ^ 64 := Nat.pow_lt_pow_right (by decide) (by omega)
  apply words_ext
  · simp [bwords_length]
  · exact bwords_ok _
  · intro x hx
    rcases List.mem_or_eq_of_mem_set hx with hx | rfl
    · exact bwords_ok l _ hx
    · exact Nat.or_lt_two_pow (getD_lt (bwords_ok l) _) hp
  · intro p _
    rw [bt_bwords, getD_setB _ _ _ h]
    have h2 := bt_bwords l p
    unfold bt at h2 ⊢
    rw [getD_set _ _ _ _ hlt]
    by_cases he : p / 64 = i / 64
    · rw [if_pos he, Nat.testBit_or, ← he, h2, Nat.testBit_two_pow]
      by_cases hpi : p = i
      · subst hpi; simp
      · have : ¬ i % 64 = p % 64 := by omega
        simp [hpi, this]
    · rw [if_neg he, h2]
      have : ¬ p = i := fun e => he (by rw [e])
      simp [this]

theorem pc_congr (x y n : Nat) (h : ∀ t, t < n → x.testBit t = y.testBit t) : pc x n = pc y n := by
  induction n with
  | zero => rfl
  | succ n ih => simp only [pc]; rw [ih fun t ht => h t (by omega), h n (by omega)]
/-- the ones among the first n bits, by counting on -/
theorem rk_add (l : List Bool) (s n : Nat) (x : Nat) (h : ∀ t, t < n → x.testBit t = l.getD (s + t) false) (hl : s + n ≤ l.length) : rk l true (s + n) = rk l true s + pc x n := by
  induction n with
  | zero => simp [pc]
  | succ n ih =>
    have := ih (fun t ht => h t (by omega)) (by omega)
    rw [← Nat.add_assoc, rk_succ l true (s + n) (by omega), this]
    simp only [pc]
    have hb := h n (by omega)
    rw [List.getD, List.getElem?_eq_getElem (show s + n < l.length by omega)] at hb
    rw [hb]
    simp only [Option.getD_some]
    cases l[s + n]'(by omega) <;> simp <;> omega
theorem pc_zero (n : Nat) : pc 0 n = 0 := by
  induction n with
  | zero => rfl
  | succ n ih => simp [pc, ih]
/-- the counts ahead of each word, and in all -/
def aheadN (l : List Bool) (j : Nat) : Nat := rk l true (64 * j)
theorem pc_over (x m n : Nat) (h : ∀ t, m ≤ t → x.testBit t = false) (hm : m ≤ n) : pc x n = pc x m := by
  obtain ⟨d, rfl⟩ : ∃ d, n = m + d := ⟨n - m, by omega⟩
  rw [pc_add]
  have : x / 2 ^ m = 0 := by
    apply Nat.eq_of_testBit_eq
    intro t
    rw [Nat.testBit_div_two_pow, h _ (by omega)]
    simp
  rw [this, pc_zero, Nat.add_zero]
theorem aheadN_succ (l : List Bool) (j : Nat) (h : j < (l.length + 63) / 64) : aheadN l (j + 1) = aheadN l j + pc ((bwords l).getD j 0) 64 := by
  unfold aheadN
  rw [bwords_getD _ _ h]
  have hb : ∀ t, (bword l j).testBit t = (decide (t < 64) && l.getD (64 * j + t) false) := fun t => by rw [bword, testBit_mkbits]
  by_cases hf : 64 * (j + 1) ≤ l.length
  · rw [show 64 * (j + 1) = 64 * j + 64 by omega]
    exact rk_add l _ 64 _ (fun t ht => by rw [hb]; simp [ht]) (by omega)
  · rw [rk_big l true (64 * (j + 1)) (by omega)]
    have h1 := rk_add l (64 * j) (l.length - 64 * j) (bword l j) (fun t ht => by
      rw [hb]
      have : t < 64 := by omega
      simp [this]) (by omega)
    rw [show 64 * j + (l.length - 64 * j) = l.length by omega] at h1
    rw [h1]
    congr 1
    symm
    apply pc_over
    · intro t ht
      rw [hb]
      have : l.getD (64 * j + t) false = false := by rw [List.getD, List.getElem?_eq_none (by omega)]; rfl
      rw [this]; simp
    · omega
theorem aheadN_zero (l : List Bool) : aheadN l 0 = 0 := by simp [aheadN, rk_zero]
/-- ones within a word -/
theorem rank_word (l : List Bool) (i : Nat) (h : i ≤ l.length) : rk l true i = aheadN l (i / 64) + (if 0 < i % 64 then pc ((bwords l).getD (i / 64) 0 &&& (2 ^ (i % 64) - 1)) 64 else 0) := by
  unfold aheadN
  split
  · rename_i hr
    have hlt : i / 64 < (l.length + 63) / 64 := by omega
    rw [bwords_getD _ _ hlt]
    have hb : ∀ t, (bword l (i / 64) &&& (2 ^ (i % 64) - 1)).testBit t = ((decide (t < 64) && l.getD (64 * (i / 64) + t) false) && decide (t < i % 64)) := fun t => by
      rw [Nat.testBit_and, Nat.testBit_two_pow_sub_one, bword, testBit_mkbits]
    have h1 := rk_add l (64 * (i / 64)) (i % 64) (bword l (i / 64) &&& (2 ^ (i % 64) - 1)) (fun t ht => by
      rw [hb]
      have : t < 64 := by omega
      simp [this, ht]) (by omega)
    rw [show 64 * (i / 64) + i % 64 = i by omega] at h1
    rw [h1]
    congr 1
    symm
    apply pc_over
    · intro t ht
      rw [hb]
      have : ¬ t < i % 64 := by omega
      simp [this]
    · omega
  · rename_i hr
    rw [show 64 * (i / 64) = i by omega]; omega
theorem rk_false (l : List Bool) (i : Nat) (h : i ≤ l.length) : rk l true i + rk l false i = i := by
  induction i with
  | zero => simp [rk_zero]
  | succ i ih =>
    have := ih (by omega)
    rw [rk_succ l true i (by omega), rk_succ l false i (by omega)]
    cases l[i]'(by omega) <;> simp <;> omega
end Go.Proofs.Ytfgkkffgcgjhfaa.BtMath
