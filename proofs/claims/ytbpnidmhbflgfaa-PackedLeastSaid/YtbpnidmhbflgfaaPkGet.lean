/- packed: a row in memory; Len, Width, mask, has, Get. -/
import Derived.Test.YtbpnidmhbflgfaaBase
import Derived.Test.YtbpnidmhbflgfaaPkMath
import Derived.Laws.BitsAllLaws
namespace Go.Proofs.Ytbpnidmhbflgfaa
set_option linter.unusedVariables false
set_option linter.unusedSimpArgs false
open Go.RowKit PkMath

/-- a packed.Array in memory: block b, its words in block g -/
structure PArr (w : World) (b g : Nat) (k : Nat) (l : List Nat) : Prop where
  hd : w.heap[b]? = some (.cells #[.int .i64 (k : Int), .int .i64 (l.length : Int), .slice (some ⟨g, 0, none⟩) (canon k l).length (canon k l).length] 55 (0, 0))
  ws : w.heap[g]? = some (.cells (U (canon k l)) 25 (0, 0))
  k1 : 1 ≤ k
  k64 : k ≤ 64
  len : l.length ≤ 1048576
  lt : ∀ x ∈ l, x < 2 ^ k

theorem PArr.c0 {w : World} {b g k : Nat} {l : List Nat} (h : PArr w b g k l) : w.cell? ⟨b, 0, none⟩ = some (.int .i64 (k : Int)) := by
  rw [cell_blk h.hd]; rfl
theorem PArr.c1 {w : World} {b g k : Nat} {l : List Nat} (h : PArr w b g k l) : w.cell? ⟨b, 1, none⟩ = some (.int .i64 (l.length : Int)) := by
  rw [cell_blk h.hd]; rfl
theorem PArr.c2 {w : World} {b g k : Nat} {l : List Nat} (h : PArr w b g k l) : w.cell? ⟨b, 2, none⟩ = some (.slice (some ⟨g, 0, none⟩) (canon k l).length (canon k l).length) := by
  rw [cell_blk h.hd]; rfl
theorem PArr.cw {w : World} {b g k : Nat} {l : List Nat} (h : PArr w b g k l) (j : Nat) (hj : j < (canon k l).length) : w.cell? ⟨g, j, none⟩ = some (.int .u64 (((canon k l).getD j 0 : Nat) : Int)) := by
  rw [cell_blk h.ws, U_get _ _ hj]
theorem PArr.ne {w : World} {b g k : Nat} {l : List Nat} (h : PArr w b g k l) : b ≠ g := by
  intro e; subst e; have h1 := h.hd; rw [h.ws] at h1; simp at h1
theorem PArr.kept {w w' : World} {b g k : Nat} {l : List Nat} (h : PArr w b g k l) (hb : w'.heap[b]? = w.heap[b]?) (hg : w'.heap[g]? = w.heap[g]?) : PArr w' b g k l :=
  ⟨hb.trans h.hd, hg.trans h.ws, h.k1, h.k64, h.len, h.lt⟩
theorem PArr.grown {w w' : World} {b g k : Nat} {l : List Nat} (h : PArr w b g k l) {r : Option Nat} (hw : w.grownBy w' r) (hb : some b ≠ r) (hg : some g ≠ r) : PArr w' b g k l :=
  h.kept (hw.block b (blk_lt h.hd) hb) (hw.block g (blk_lt h.ws) hg)

theorem len_nil (w : World) : Calls Try.prog 18 #[.pointer none] w fun e w' => e = .returned (.int .i64 0) ∧ w = w' := by
  go_enter Try.func18, Try.ntmps18
  go_wp2
  go_ret
  exact ⟨rfl, rfl⟩
theorem width_nil (w : World) : Calls Try.prog 19 #[.pointer none] w fun e w' => e = .returned (.int .i64 0) ∧ w = w' := by
  go_enter Try.func19, Try.ntmps19
  go_wp2
  go_ret
  exact ⟨rfl, rfl⟩
theorem len_cell (b : Nat) (n : Int) (w : World) (h1 : w.cell? ⟨b, 1, none⟩ = some (.int .i64 n)) :
    Calls Try.prog 18 #[.pointer (some ⟨b, 0, none⟩)] w fun e w' => e = .returned (.int .i64 n) ∧ w = w' := by
  go_enter Try.func18, Try.ntmps18
  go_wp2
  go_ret
  exact ⟨rfl, rfl⟩
theorem width_cell (b : Nat) (n : Int) (w : World) (h1 : w.cell? ⟨b, 0, none⟩ = some (.int .i64 n)) :
    Calls Try.prog 19 #[.pointer (some ⟨b, 0, none⟩)] w fun e w' => e = .returned (.int .i64 n) ∧ w = w' := by
  go_enter Try.func19, Try.ntmps19
  go_wp2
  go_ret
  exact ⟨rfl, rfl⟩

/-- all digits of a number, as the walk spells it -/
theorem shr_nat (x m : Nat) : (x : Int) / 2 ^ m = ((x / 2 ^ m : Nat) : Int) := by
  rw [Int.natCast_ediv, Int.natCast_pow]; rfl
theorem shl_nat (x m : Nat) : IntKind.u64.wrap ((x : Int) * 2 ^ m) = ((x * 2 ^ m % 2 ^ 64 : Nat) : Int) := by
  rw [IntKind.wrap_u64, Int.natCast_emod, Int.natCast_mul, Int.natCast_pow]; rfl
theorem mask_lt {k : Nat} (h2 : k ≤ 64) : 2 ^ k - 1 < 18446744073709551616 := by
  have : 2 ^ k ≤ 2 ^ 64 := Nat.pow_le_pow_right (by decide) h2
  have := Nat.two_pow_pos k
  omega
theorem div_lt64 {x : Nat} (h : x < 2 ^ 64) (m : Nat) : x / 2 ^ m < 18446744073709551616 := Nat.lt_of_le_of_lt (Nat.div_le_self _ _) h
theorem gw_one {k x off : Nat} (hk2 : k ≤ 64) (hx : x < 2 ^ 64) (hov : off + k ≤ 64) (y : Nat) :
    bits BinOp.and IntKind.u64 ((x : Int) / 2 ^ off) ((2 ^ k - 1 : Nat) : Int) = ((gw k x y off : Nat) : Int) := by
  rw [shr_nat, u64_and_nat _ _ (div_lt64 hx _) (mask_lt hk2)]
  unfold gw
  rw [if_neg (by omega), Nat.shiftRight_eq_div_pow]
theorem gw_two {k x y off : Nat} (hk2 : k ≤ 64) (hx : x < 2 ^ 64) (hov : 64 < off + k) :
    bits BinOp.and IntKind.u64 (bits BinOp.or IntKind.u64 ((x : Int) / 2 ^ off) (IntKind.u64.wrap ((y : Int) * 2 ^ (64 - off)))) ((2 ^ k - 1 : Nat) : Int) = ((gw k x y off : Nat) : Int) := by
  have h1 := div_lt64 hx off
  have h2 : y * 2 ^ (64 - off) % 2 ^ 64 < 18446744073709551616 := Nat.mod_lt _ (by decide)
  rw [shr_nat, shl_nat, u64_or_nat _ _ h1 h2, u64_and_nat _ _ (Nat.or_lt_two_pow (n := 64) h1 h2) (mask_lt hk2)]
  unfold gw
  rw [if_pos hov, Nat.shiftRight_eq_div_pow, Nat.shiftLeft_eq]

theorem mask_eq {k : Nat} (h1 : 1 ≤ k) (h2 : k ≤ 64) : (18446744073709551615 : Int) / 2 ^ (64 - k) = ((2 ^ k - 1 : Nat) : Int) := by
  have e : (18446744073709551615 : Int) / 2 ^ (64 - k) = (((2 ^ 64 - 1) / 2 ^ (64 - k) : Nat) : Int) := by
    rw [Int.natCast_ediv, Int.natCast_pow]; rfl
  rw [e]
  congr 1
  apply Nat.eq_of_testBit_eq
  intro t
  rw [Nat.testBit_div_two_pow, Nat.testBit_two_pow_sub_one, Nat.testBit_two_pow_sub_one]
  congr 1
  simp only [eq_iff_iff]
  omega

theorem mask_any (b k : Nat) (w : World) (h1 : w.cell? ⟨b, 0, none⟩ = some (.int .i64 (k : Int))) (hk : 1 ≤ k) (hk2 : k ≤ 64) :
    Calls Try.prog 28 #[.pointer (some ⟨b, 0, none⟩)] w fun e w' => e = .returned (.int .u64 ((2 ^ k - 1 : Nat) : Int)) ∧ w = w' := by
  go_enter Try.func28, Try.ntmps28
  go_wp2
  go_ret
  refine ⟨ret_int ?_, rfl⟩
  rw [← mask_eq hk hk2]

theorem has_any (b : Nat) (n i : Int) (w : World) (h1 : w.cell? ⟨b, 1, none⟩ = some (.int .i64 n)) :
    Calls Try.prog 27 #[.pointer (some ⟨b, 0, none⟩), .int .i64 i] w fun e w' => e = .returned (.bool (decide (0 ≤ i ∧ i < n))) ∧ w = w' := by
  by_cases h : 0 ≤ i
  all_goals
    go_enter Try.func27, Try.ntmps27
    go_wp2_with (go_at_call 18; refine (len_cell _ _ _ h1).mono ?_; rintro e w' ⟨rfl, rfl⟩)
    go_ret
    exact ⟨ret_bool (by simp; omega), rfl⟩
theorem has_nil (i : Int) (w : World) :
    Calls Try.prog 27 #[.pointer none, .int .i64 i] w fun e w' => e = .returned (.bool false) ∧ w = w' := by
  by_cases h : 0 ≤ i
  all_goals
    go_enter Try.func27, Try.ntmps27
    go_wp2_with (go_at_call 18; refine (len_nil _).mono ?_; rintro e w' ⟨rfl, rfl⟩)
    go_ret
    exact ⟨ret_bool (by first | rfl | (simp; omega)), rfl⟩
theorem has_true (b : Nat) (n i : Int) (w : World) (h1 : w.cell? ⟨b, 1, none⟩ = some (.int .i64 n)) (h : 0 ≤ i ∧ i < n) :
    Calls Try.prog 27 #[.pointer (some ⟨b, 0, none⟩), .int .i64 i] w fun e w' => e = .returned (.bool true) ∧ w = w' :=
  (has_any b n i w h1).mono fun e w' ⟨he, hw⟩ => ⟨by rw [he]; simp [h], hw⟩
theorem has_false (b : Nat) (n i : Int) (w : World) (h1 : w.cell? ⟨b, 1, none⟩ = some (.int .i64 n)) (h : i < 0 ∨ n ≤ i) :
    Calls Try.prog 27 #[.pointer (some ⟨b, 0, none⟩), .int .i64 i] w fun e w' => e = .returned (.bool false) ∧ w = w' :=
  (has_any b n i w h1).mono fun e w' ⟨he, hw⟩ => ⟨by rw [he]; simp; omega, hw⟩

theorem get_nil (i : Int) (w : World) :
    Calls Try.prog 20 #[.pointer none, .int .i64 i] w fun e w' => e = .returned (.int .u64 0) ∧ ∃ n, w' = w.drewN n := by
  go_enter Try.func20, Try.ntmps20
  go_wp2_with (go_at_call 27; refine (has_nil _ _).mono ?_; rintro e w' ⟨rfl, rfl⟩)
  go_ret
  exact ⟨rfl, 0, rfl⟩
theorem get_out (b : Nat) (n i : Int) (w : World) (h1 : w.cell? ⟨b, 1, none⟩ = some (.int .i64 n)) (h : i < 0 ∨ n ≤ i) :
    Calls Try.prog 20 #[.pointer (some ⟨b, 0, none⟩), .int .i64 i] w fun e w' => e = .returned (.int .u64 0) ∧ ∃ n, w' = w.drewN n := by
  go_enter Try.func20, Try.ntmps20
  go_wp2_with (go_at_call 27; refine (has_false _ _ _ _ h1 h).mono ?_; rintro e w' ⟨rfl, rfl⟩)
  go_ret
  exact ⟨rfl, 0, rfl⟩

theorem get_one (b g k n i s : Nat) (len cap : Nat) (x y : Nat) (w : World) (hxl : x < 2 ^ 64) (h0 : w.cell? ⟨b, 0, none⟩ = some (.int .i64 (k : Int))) (h1 : w.cell? ⟨b, 1, none⟩ = some (.int .i64 (n : Int)))
    (h2 : w.cell? ⟨b, 2, none⟩ = some (.slice (some ⟨g, 0, none⟩) len cap)) (hk : 1 ≤ k) (hk2 : k ≤ 64) (hi : i < n) (hn : n ≤ 1048576)
    (hs : (i : Int) * (k : Int) = (s : Int)) (hs2 : s ≤ 100000000) (hlt : s / 64 < len) (hx : w.cell? ⟨g, s / 64, none⟩ = some (.int .u64 (x : Int))) (hov : s % 64 + k ≤ 64) :
    Calls Try.prog 20 #[.pointer (some ⟨b, 0, none⟩), .int .i64 (i : Int)] w fun e w' => e = .returned (.int .u64 ((gw k x y (s % 64) : Nat) : Int)) ∧ ∃ n, w' = w.drewN n := by
  go_enter Try.func20, Try.ntmps20
  go_wp2_with (go_at_call 27; refine (has_true _ _ _ _ h1 ⟨by omega, by omega⟩).mono ?_; rintro e w' ⟨rfl, rfl⟩)
  go_quiet (fail)
  go_wp2_with fail
  refine (mask_any b k _ (by simpa using h0) hk hk2).mono ?_
  rintro e w' ⟨rfl, rfl⟩
  go_wp2
  go_ret
  exact ⟨ret_int (gw_one hk2 hxl (by omega) y), _, rfl⟩

theorem get_two (b g k n i s : Nat) (len cap : Nat) (x y : Nat) (w : World) (hxl : x < 2 ^ 64) (h0 : w.cell? ⟨b, 0, none⟩ = some (.int .i64 (k : Int))) (h1 : w.cell? ⟨b, 1, none⟩ = some (.int .i64 (n : Int)))
    (h2 : w.cell? ⟨b, 2, none⟩ = some (.slice (some ⟨g, 0, none⟩) len cap)) (hk : 1 ≤ k) (hk2 : k ≤ 64) (hi : i < n) (hn : n ≤ 1048576)
    (hs : (i : Int) * (k : Int) = (s : Int)) (hs2 : s ≤ 100000000) (hlt : s / 64 + 1 < len) (hx : w.cell? ⟨g, s / 64, none⟩ = some (.int .u64 (x : Int)))
    (hy : w.cell? ⟨g, s / 64 + 1, none⟩ = some (.int .u64 (y : Int))) (hov : 64 < s % 64 + k) :
    Calls Try.prog 20 #[.pointer (some ⟨b, 0, none⟩), .int .i64 (i : Int)] w fun e w' => e = .returned (.int .u64 ((gw k x y (s % 64) : Nat) : Int)) ∧ ∃ n, w' = w.drewN n := by
  go_enter Try.func20, Try.ntmps20
  go_wp2_with (go_at_call 27; refine (has_true _ _ _ _ h1 ⟨by omega, by omega⟩).mono ?_; rintro e w' ⟨rfl, rfl⟩)
  go_quiet (fail)
  go_wp2_with fail
  refine (mask_any b k _ (by simpa using h0) hk hk2).mono ?_
  rintro e w' ⟨rfl, rfl⟩
  go_wp2
  go_ret
  exact ⟨ret_int (gw_two hk2 hxl (by omega)), _, rfl⟩

theorem canon_ok' (k : Nat) (l : List Nat) (j : Nat) : (canon k l).getD j 0 < 2 ^ 64 := getD_lt (canon_ok k l) j

/-- Get, within the row -/
theorem get_in {w : World} {b g k : Nat} {l : List Nat} (h : PArr w b g k l) (i : Nat) (hi : i < l.length) :
    Calls Try.prog 20 #[.pointer (some ⟨b, 0, none⟩), .int .i64 (i : Int)] w fun e w' => e = .returned (.int .u64 ((l.getD i 0 : Nat) : Int)) ∧ ∃ n, w' = w.drewN n := by
  have hf := mul_fits (k := k) hi
  have hcl := canon_length k l
  have hkl : k * l.length ≤ 64 * 1048576 := Nat.mul_le_mul h.k64 h.len
  have hk1 := h.k1
  have hk2 := h.k64
  have hs : (i : Int) * (k : Int) = ((i * k : Nat) : Int) := by rw [Int.natCast_mul]
  rw [← gw_canon hk1 hk2 h.lt hi]
  by_cases hov : 64 < i * k % 64 + k
  · exact get_two b g k l.length i (i * k) _ _ _ _ w (canon_ok' k l _) h.c0 h.c1 h.c2 hk1 hk2 hi h.len hs (by omega) (by omega) (h.cw _ (by omega)) (h.cw _ (by omega)) hov
  · exact get_one b g k l.length i (i * k) _ _ _ _ w (canon_ok' k l _) h.c0 h.c1 h.c2 hk1 hk2 hi h.len hs (by omega) (by omega) (h.cw _ (by omega)) (by omega)

end Go.Proofs.Ytbpnidmhbflgfaa
