/- The bits of a word, counted at once (math/bits.OnesCount64): plain numbers, no program. -/
namespace Go.Proofs.Ytfgkkffgcgjhfaa.Pop
set_option linter.unusedVariables false
set_option linter.unusedSimpArgs false

/-- the ones among the first n bits -/
def pc (x : Nat) : Nat → Nat
  | 0 => 0
  | n + 1 => pc x n + (x.testBit n).toNat

theorem and_split (s h l M m : Nat) (hl : l < 256) (hs : s ≤ 8) (hm : m < 2 ^ (8 - s)) :
    ((256 * h + l) >>> s) &&& (256 * M + m) = 256 * ((h >>> s) &&& M) + ((l >>> s) &&& m) := by
  have hm8 : m < 2 ^ 8 := Nat.lt_of_lt_of_le hm (Nat.pow_le_pow_right (by decide) (by omega))
  have hlt : (l >>> s) &&& m < 2 ^ 8 := Nat.lt_of_le_of_lt Nat.and_le_right hm8
  apply Nat.eq_of_testBit_eq
  intro i
  have e1 : 256 * h + l = 2 ^ 8 * h + l := rfl
  have e2 : 256 * M + m = 2 ^ 8 * M + m := rfl
  have e3 : 256 * ((h >>> s) &&& M) + ((l >>> s) &&& m) = 2 ^ 8 * ((h >>> s) &&& M) + ((l >>> s) &&& m) := rfl
  rw [e1, e2, e3, Nat.testBit_and, Nat.testBit_shiftRight, Nat.testBit_two_pow_mul_add _ (show l < 2 ^ 8 from hl), Nat.testBit_two_pow_mul_add _ hm8, Nat.testBit_two_pow_mul_add _ hlt]
  by_cases hi : i < 8
  · rw [if_pos hi, if_pos hi]
    by_cases h2 : s + i < 8
    · rw [if_pos h2, Nat.testBit_and, Nat.testBit_shiftRight]
    · have hz : m.testBit i = false := Nat.testBit_lt_two_pow (Nat.lt_of_lt_of_le hm (Nat.pow_le_pow_right (by decide) (by omega)))
      rw [hz, Nat.testBit_and, hz]; simp
  · rw [if_neg hi, if_neg hi, if_neg (by omega), Nat.testBit_and, Nat.testBit_shiftRight, show s + i - 8 = s + (i - 8) by omega]
theorem and_split0 (h l M m : Nat) (hl : l < 256) (hm : m < 256) : (256 * h + l) &&& (256 * M + m) = 256 * (h &&& M) + (l &&& m) := by
  have := and_split 0 h l M m hl (by decide) hm
  simpa using this

/-- a mask of n bytes, each m -/
def mask (m : Nat) : Nat → Nat
  | 0 => 0
  | n + 1 => 256 * mask m n + m
def f1 (n x : Nat) : Nat := ((x >>> 1) &&& mask 85 n) + (x &&& mask 85 n)
def f2 (n x : Nat) : Nat := ((x >>> 2) &&& mask 51 n) + (x &&& mask 51 n)
def f3 (n x : Nat) : Nat := ((x >>> 4) + x) &&& mask 15 n
def g1 (y : Nat) : Nat := ((y >>> 1) &&& 85) + (y &&& 85)
def g2 (y : Nat) : Nat := ((y >>> 2) &&& 51) + (y &&& 51)
def g3 (y : Nat) : Nat := ((y >>> 4) + y) % 16

theorem f1_split (n h l : Nat) (hl : l < 256) : f1 (n + 1) (256 * h + l) = 256 * f1 n h + g1 l := by
  unfold f1 g1
  simp only [mask]
  rw [and_split 1 h l _ 85 hl (by decide) (by decide), and_split0 h l _ 85 hl (by decide)]
  omega
theorem f2_split (n h l : Nat) (hl : l < 256) : f2 (n + 1) (256 * h + l) = 256 * f2 n h + g2 l := by
  unfold f2 g2
  simp only [mask]
  rw [and_split 2 h l _ 51 hl (by decide) (by decide), and_split0 h l _ 51 hl (by decide)]
  omega
/-- every nibble is at most 4 -/
def low (n x : Nat) : Prop := match n with
  | 0 => x = 0
  | n + 1 => x % 16 ≤ 4 ∧ x / 16 % 16 ≤ 4 ∧ low n (x / 256)
theorem f3_split (n h l : Nat) (hl : l < 256) (h0 : l % 16 ≤ 4) (h1 : l / 16 ≤ 4) (h2 : h % 16 ≤ 4) : f3 (n + 1) (256 * h + l) = 256 * f3 n h + g3 l := by
  unfold f3 g3
  simp only [mask]
  have e : ((256 * h + l) >>> 4) + (256 * h + l) = 256 * ((h >>> 4) + h) + (l + l / 16 + 16 * (h % 16)) := by
    rw [Nat.shiftRight_eq_div_pow, Nat.shiftRight_eq_div_pow]
    omega
  rw [e, and_split0 _ _ _ 15 (by omega) (by decide)]
  congr 1
  rw [show (15 : Nat) = 2 ^ 4 - 1 from rfl, Nat.and_two_pow_sub_one_eq_mod, Nat.shiftRight_eq_div_pow]
  omega
/-- the bytes of a word -/
def g (y : Nat) : Nat := g3 (g2 (g1 y))
theorem byte_ok : ∀ y : Fin 256, g y.val = pc y.val 8 ∧ g1 y.val < 256 ∧ g2 (g1 y.val) < 256 ∧ g2 (g1 y.val) % 16 ≤ 4 ∧ g2 (g1 y.val) / 16 ≤ 4 ∧ g y.val ≤ 8 := by decide +kernel
theorem f12_low : ∀ n x, f2 n (f1 n x) % 16 ≤ 4 := by
  intro n
  cases n with
  | zero => intro x; simp [f2, mask]
  | succ n =>
    intro x
    have e : x = 256 * (x / 256) + x % 256 := by omega
    have hb := byte_ok ⟨x % 256, Nat.mod_lt _ (by decide)⟩
    rw [e, f1_split n _ _ (Nat.mod_lt _ (by decide)), f2_split n _ _ hb.2.1]
    have := hb.2.2.2.1
    simp only at this
    omega
/-- the word as bytes: the sums of the bytes -/
def sums : Nat → Nat → Nat
  | 0, _ => 0
  | n + 1, x => 256 * sums n (x / 256) + pc (x % 256) 8
theorem f_sums : ∀ n x, f3 n (f2 n (f1 n x)) = sums n x := by
  intro n
  induction n with
  | zero => intro x; simp [f3, mask, sums]
  | succ n ih =>
    intro x
    have e : x = 256 * (x / 256) + x % 256 := by omega
    have hb := byte_ok ⟨x % 256, Nat.mod_lt _ (by decide)⟩
    simp only at hb
    have hl : f2 n (f1 n (x / 256)) % 16 ≤ 4 := f12_low n (x / 256)
    conv => lhs; rw [e]
    rw [f1_split n _ _ (Nat.mod_lt _ (by decide)), f2_split n _ _ hb.2.1, f3_split n _ _ hb.2.2.1 hb.2.2.2.1 hb.2.2.2.2.1 hl, ih, sums]
    have h5 : g3 (g2 (g1 (x % 256))) = pc (x % 256) 8 := hb.1
    rw [h5]
theorem pc_le (x n : Nat) : pc x n ≤ n := by
  induction n with
  | zero => simp [pc]
  | succ n ih => simp only [pc]; cases x.testBit n <;> simp <;> omega
theorem pc_mod (x : Nat) : pc (x % 256) 8 = pc x 8 := by
  simp only [pc, show (256 : Nat) = 2 ^ 8 from rfl, Nat.testBit_mod_two_pow]
  simp
theorem pc_add (x m n : Nat) : pc x (m + n) = pc x m + pc (x / 2 ^ m) n := by
  induction n with
  | zero => simp [pc]
  | succ n ih =>
    rw [← Nat.add_assoc]
    simp only [pc, ih, Nat.testBit_div_two_pow]
    rw [Nat.add_comm m n]; omega
theorem pc_bytes (x n : Nat) : pc x (8 * n + 8) = pc (x % 256) 8 + pc (x / 256) (8 * n) := by
  rw [Nat.add_comm, pc_add, pc_mod]

/-- what Go's text reckons -/
def pop (x : Nat) : Nat :=
  let x1 := ((x >>> 1) &&& 6148914691236517205) + (x &&& 6148914691236517205)
  let x2 := ((x1 >>> 2) &&& 3689348814741910323) + (x1 &&& 3689348814741910323)
  let x3 := ((x2 >>> 4) + x2) &&& 1085102592571150095
  let x4 := x3 + x3 >>> 8
  let x5 := x4 + x4 >>> 16
  let x6 := x5 + x5 >>> 32
  x6 % 128
theorem mask1 : mask 85 8 = 6148914691236517205 := by decide
theorem mask2 : mask 51 8 = 3689348814741910323 := by decide
theorem mask3 : mask 15 8 = 1085102592571150095 := by decide
theorem x3_eq (x : Nat) : ((((((x >>> 1) &&& 6148914691236517205) + (x &&& 6148914691236517205)) >>> 2) &&& 3689348814741910323) + ((((x >>> 1) &&& 6148914691236517205) + (x &&& 6148914691236517205)) &&& 3689348814741910323)) = f2 8 (f1 8 x) := by
  unfold f2 f1
  rw [mask1, mask2]
theorem fold1 (p q : Nat) (hp : p < 256) : (256 * q + p) / 256 = q := by omega
theorem fold2 (a b q : Nat) (ha : a < 256) (hb : b < 256) : (256 * (256 * q + b) + a) / 65536 = q := by omega
theorem fold4 (a b c d q : Nat) (ha : a < 256) (hb : b < 256) (hc : c < 256) (hd : d < 256) : (256 * (256 * (256 * (256 * q + d) + c) + b) + a) / 4294967296 = q := by omega
/-- a word by its eight bytes -/
def H (p7 p6 p5 p4 p3 p2 p1 p0 : Nat) : Nat := 256 * (256 * (256 * (256 * (256 * (256 * (256 * (256 * 0 + p7) + p6) + p5) + p4) + p3) + p2) + p1) + p0
theorem H1 (p0 p1 p2 p3 p4 p5 p6 p7 : Nat) (h0 : p0 ≤ 8) : H p7 p6 p5 p4 p3 p2 p1 p0 + H p7 p6 p5 p4 p3 p2 p1 p0 / 256 = H p7 (p6 + p7) (p5 + p6) (p4 + p5) (p3 + p4) (p2 + p3) (p1 + p2) (p0 + p1) := by
  unfold H
  rw [fold1 p0 _ (by omega)]
  omega
theorem H2 (p0 p1 p2 p3 p4 p5 p6 p7 : Nat) (h0 : p0 ≤ 16) (h1 : p1 ≤ 16) : H p7 p6 p5 p4 p3 p2 p1 p0 + H p7 p6 p5 p4 p3 p2 p1 p0 / 65536 = H p7 p6 (p5 + p7) (p4 + p6) (p3 + p5) (p2 + p4) (p1 + p3) (p0 + p2) := by
  unfold H
  rw [fold2 p0 p1 _ (by omega) (by omega)]
  omega
theorem H4 (p0 p1 p2 p3 p4 p5 p6 p7 : Nat) (h0 : p0 ≤ 32) (h1 : p1 ≤ 32) (h2 : p2 ≤ 32) (h3 : p3 ≤ 32) : H p7 p6 p5 p4 p3 p2 p1 p0 + H p7 p6 p5 p4 p3 p2 p1 p0 / 4294967296 = H p7 p6 p5 p4 (p3 + p7) (p2 + p6) (p1 + p5) (p0 + p4) := by
  unfold H
  rw [fold4 p0 p1 p2 p3 _ (by omega) (by omega) (by omega) (by omega)]
  omega
theorem H_lt (p0 p1 p2 p3 p4 p5 p6 p7 : Nat) (h0 : p0 ≤ 64) (h1 : p1 ≤ 64) (h2 : p2 ≤ 64) (h3 : p3 ≤ 64) (h4 : p4 ≤ 64) (h5 : p5 ≤ 64) (h6 : p6 ≤ 64) (h7 : p7 ≤ 64) : H p7 p6 p5 p4 p3 p2 p1 p0 < 9223372036854775808 := by
  unfold H; omega
theorem H_mod (p0 p1 p2 p3 p4 p5 p6 p7 : Nat) (h0 : p0 < 128) : H p7 p6 p5 p4 p3 p2 p1 p0 % 128 = p0 := by
  unfold H; omega
theorem fold_eq (p0 p1 p2 p3 p4 p5 p6 p7 : Nat) (h0 : p0 ≤ 8) (h1 : p1 ≤ 8) (h2 : p2 ≤ 8) (h3 : p3 ≤ 8) (h4 : p4 ≤ 8) (h5 : p5 ≤ 8) (h6 : p6 ≤ 8) (h7 : p7 ≤ 8) :
    ∃ x4 x5 x6 : Nat, x4 = H p7 p6 p5 p4 p3 p2 p1 p0 + H p7 p6 p5 p4 p3 p2 p1 p0 / 256 ∧
      x5 = x4 + x4 / 65536 ∧ x6 = x5 + x5 / 4294967296 ∧ x6 % 128 = p0 + (p1 + (p2 + (p3 + (p4 + (p5 + (p6 + p7)))))) ∧ x4 < 9223372036854775808 ∧ x5 < 9223372036854775808 ∧ x6 < 9223372036854775808 := by
  refine ⟨_, _, _, rfl, rfl, rfl, ?_⟩
  rw [H1 _ _ _ _ _ _ _ _ h0, H2 _ _ _ _ _ _ _ _ (by omega) (by omega), H4 _ _ _ _ _ _ _ _ (by omega) (by omega) (by omega) (by omega)]
  exact ⟨by rw [H_mod _ _ _ _ _ _ _ _ (by omega)]; omega, H_lt _ _ _ _ _ _ _ _ (by omega) (by omega) (by omega) (by omega) (by omega) (by omega) (by omega) (by omega),
    H_lt _ _ _ _ _ _ _ _ (by omega) (by omega) (by omega) (by omega) (by omega) (by omega) (by omega) (by omega), H_lt _ _ _ _ _ _ _ _ (by omega) (by omega) (by omega) (by omega) (by omega) (by omega) (by omega) (by omega)⟩
theorem pop_eq (x : Nat) (hx : x < 2 ^ 64) : pop x = pc x 64 := by
  have hs := f_sums 8 x
  have hb : ∀ y, pc y 8 ≤ 8 := fun y => pc_le y 8
  obtain ⟨x4, x5, x6, e4, e5, e6, hr, _⟩ := fold_eq _ _ _ _ _ _ _ _ (hb (x % 256)) (hb (x / 256 % 256)) (hb (x / 256 / 256 % 256)) (hb (x / 256 / 256 / 256 % 256)) (hb (x / 256 / 256 / 256 / 256 % 256)) (hb (x / 256 / 256 / 256 / 256 / 256 % 256)) (hb (x / 256 / 256 / 256 / 256 / 256 / 256 % 256)) (hb (x / 256 / 256 / 256 / 256 / 256 / 256 / 256 % 256))
  unfold pop
  simp only [x3_eq]
  simp only [Nat.shiftRight_eq_div_pow]
  have h3 : (f2 8 (f1 8 x) / 2 ^ 4 + f2 8 (f1 8 x)) &&& 1085102592571150095 = sums 8 x := by
    rw [← hs]; unfold f3; rw [mask3, Nat.shiftRight_eq_div_pow]
  rw [h3]
  have hH : sums 8 x = H (pc (x / 256 / 256 / 256 / 256 / 256 / 256 / 256 % 256) 8) (pc (x / 256 / 256 / 256 / 256 / 256 / 256 % 256) 8) (pc (x / 256 / 256 / 256 / 256 / 256 % 256) 8) (pc (x / 256 / 256 / 256 / 256 % 256) 8) (pc (x / 256 / 256 / 256 % 256) 8) (pc (x / 256 / 256 % 256) 8) (pc (x / 256 % 256) 8) (pc (x % 256) 8) := rfl
  rw [hH, show (2 ^ 8 : Nat) = 256 from rfl, show (2 ^ 16 : Nat) = 65536 from rfl, show (2 ^ 32 : Nat) = 4294967296 from rfl, ← e4, ← e5, ← e6, hr]
  have b1 := pc_bytes x 7
  have b2 := pc_bytes (x / 256) 6
  have b3 := pc_bytes (x / 256 / 256) 5
  have b4 := pc_bytes (x / 256 / 256 / 256) 4
  have b5 := pc_bytes (x / 256 / 256 / 256 / 256) 3
  have b6 := pc_bytes (x / 256 / 256 / 256 / 256 / 256) 2
  have b7 := pc_bytes (x / 256 / 256 / 256 / 256 / 256 / 256) 1
  have b8 := pc_bytes (x / 256 / 256 / 256 / 256 / 256 / 256 / 256) 0
  have b9 : pc (x / 256 / 256 / 256 / 256 / 256 / 256 / 256 / 256) (8 * 0) = 0 := rfl
  rw [show (8 * 7 + 8 : Nat) = 64 from rfl] at b1
  simp only [show (8 * 6 + 8 : Nat) = 8 * 7 from rfl, show (8 * 5 + 8 : Nat) = 8 * 6 from rfl, show (8 * 4 + 8 : Nat) = 8 * 5 from rfl, show (8 * 3 + 8 : Nat) = 8 * 4 from rfl, show (8 * 2 + 8 : Nat) = 8 * 3 from rfl, show (8 * 1 + 8 : Nat) = 8 * 2 from rfl, show (8 * 0 + 8 : Nat) = 8 * 1 from rfl] at b2 b3 b4 b5 b6 b7 b8
  omega

end Go.Proofs.Ytfgkkffgcgjhfaa.Pop
