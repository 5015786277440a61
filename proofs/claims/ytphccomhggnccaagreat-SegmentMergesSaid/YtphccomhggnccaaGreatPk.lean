/- packed: a row in memory; Len, Width, mask, has, Get. -/
import Derived.Test.YtphccomhggnccaaGreatGen
import Derived.Laws.BitsAllLaws
import Derived.StillTailTactics
import Derived.WalkSpells
import Derived.LoopTactic
import Derived.Test.YtphccomhggnccaaGreatShelf
namespace Go.Proofs.YtphccomhggnccaaGreat
set_option maxRecDepth 100000
set_option linter.unusedVariables false
set_option linter.unusedSimpArgs false
open Go.RowKit PkMath
structure PArr (w : World) (b g : Nat) (k : Nat) (l : List Nat) : Prop where
  hd : w.heap[b]? = some (.cells #[.int .i64 (k : Int), .int .i64 (l.length : Int), .slice (some ⟨g, 0, none⟩) (canon k l).length (canon k l).length] 195 (0, 0))
  ws : w.heap[g]? = some (.cells (U (canon k l)) 154 (0, 0))
  k1 : 1 ≤ k
  k64 : k ≤ 64
  len : l.length ≤ 1048576
  lt : ∀ x ∈ l, x < 2 ^ k

theorem PArr.c0 {w : World} {b g k : Nat} {l : List Nat} (h : PArr w b g k l) : w.cell? ⟨b, 0, none⟩ = some (.int .i64 (k : Int)) := by
  rw [cell_blk h.hd]; rfl
theorem PArr.c1 {w : World} {b g k : Nat} {l : List Nat} (h : PArr w b g k l) : w.cell? ⟨b, 1, none⟩ = some (.int .i64 (l.length : Int)) := by
  rw [cell_blk h.hd]; rfl
theorem PArr.c2 {w : World} {b g k : Nat} {l : List Nat} (h : PArr w b g k l) : w.cell? ⟨b, 2, none⟩ = some (.slice (some ⟨g, 0, none⟩) (canon k l).length (canon k l).length) := by
  rw [cell_blk h.hd]; rfl
theorem PArr.cw {w : World} {b g k : Nat} {l : List Nat} (h : PArr w b g k l) (j : Nat) (hj : j < (canon k l).length) : w.cell? ⟨g, j, none⟩ = some (.int .u64 (((canon k l).getD j 0 : Nat) : Int)) := by
  rw [cell_blk h.ws, U_get _ _ hj]
theorem PArr.ne {w : World} {b g k : Nat} {l : List Nat} (h : PArr w b g k l) : b ≠ g := by
  intro e; subst e; have h1 := h.hd; rw [h.ws] at h1; simp at h1
theorem PArr.kept {w w' : World} {b g k : Nat} {l : List Nat} (h : PArr w b g k l) (hb : w'.heap[b]? = w.heap[b]?) (hg : w'.heap[g]? = w.heap[g]?) : PArr w' b g k l :=
  ⟨hb.trans h.hd, hg.trans h.ws, h.k1, h.k64, h.len, h.lt⟩
theorem PArr.grown {w w' : World} {b g k : Nat} {l : List Nat} (h : PArr w b g k l) {r : Option Nat} (hw : w.grownBy w' r) (hb : some b ≠ r) (hg : some g ≠ r) : PArr w' b g k l :=
  h.kept (hw.block b (blk_lt h.hd) hb) (hw.block g (blk_lt h.ws) hg)

theorem len_cell (b : Nat) (n : Int) (w : World) (h1 : w.cell? ⟨b, 1, none⟩ = some (.int .i64 n)) :
    Calls Tryz.prog 199 #[.pointer (some ⟨b, 0, none⟩)] w fun e w' => e = .returned (.int .i64 n) ∧ w = w' := by
  go_enter Tryz.func199, Tryz.ntmps199
  go_wp2
  go_ret
  exact ⟨rfl, rfl⟩
theorem shr_nat (x m : Nat) : (x : Int) / 2 ^ m = ((x / 2 ^ m : Nat) : Int) := by
  rw [Int.natCast_ediv, Int.natCast_pow]; rfl
theorem shl_nat (x m : Nat) : IntKind.u64.wrap ((x : Int) * 2 ^ m) = ((x * 2 ^ m % 2 ^ 64 : Nat) : Int) := by
  rw [IntKind.wrap_u64, Int.natCast_emod, Int.natCast_mul, Int.natCast_pow]; rfl
theorem mask_lt {k : Nat} (h2 : k ≤ 64) : 2 ^ k - 1 < 18446744073709551616 := by
  have : 2 ^ k ≤ 2 ^ 64 := Nat.pow_le_pow_right (by decide) h2
  have := Nat.two_pow_pos k
  omega
theorem div_lt64 {x : Nat} (h : x < 2 ^ 64) (m : Nat) : x / 2 ^ m < 18446744073709551616 := Nat.lt_of_le_of_lt (Nat.div_le_self _ _) h
theorem gw_one {k x off : Nat} (hk2 : k ≤ 64) (hx : x < 2 ^ 64) (hov : off + k ≤ 64) (y : Nat) :
    bits BinOp.and IntKind.u64 ((x : Int) / 2 ^ off) ((2 ^ k - 1 : Nat) : Int) = ((gw k x y off : Nat) : Int) := by
  rw [shr_nat, u64_and_nat _ _ (div_lt64 hx _) (mask_lt hk2)]
  unfold gw
  rw [if_neg (by omega), Nat.shiftRight_eq_div_pow]
theorem gw_two {k x y off : Nat} (hk2 : k ≤ 64) (hx : x < 2 ^ 64) (hov : 64 < off + k) :
    bits BinOp.and IntKind.u64 (bits BinOp.or IntKind.u64 ((x : Int) / 2 ^ off) (IntKind.u64.wrap ((y : Int) * 2 ^ (64 - off)))) ((2 ^ k - 1 : Nat) : Int) = ((gw k x y off : Nat) : Int) := by
  have h1 := div_lt64 hx off
  have h2 : y * 2 ^ (64 - off) % 2 ^ 64 < 18446744073709551616 := Nat.mod_lt _ (by decide)
  rw [shr_nat, shl_nat, u64_or_nat _ _ h1 h2, u64_and_nat _ _ (Nat.or_lt_two_pow (n := 64) h1 h2) (mask_lt hk2)]
  unfold gw
  rw [if_pos hov, Nat.shiftRight_eq_div_pow, Nat.shiftLeft_eq]

theorem mask_eq {k : Nat} (h1 : 1 ≤ k) (h2 : k ≤ 64) : (18446744073709551615 : Int) / 2 ^ (64 - k) = ((2 ^ k - 1 : Nat) : Int) := by
  have e : (18446744073709551615 : Int) / 2 ^ (64 - k) = (((2 ^ 64 - 1) / 2 ^ (64 - k) : Nat) : Int) := by
    rw [Int.natCast_ediv, Int.natCast_pow]; rfl
  rw [e]
  congr 1
  apply Nat.eq_of_testBit_eq
  intro t
  rw [Nat.testBit_div_two_pow, Nat.testBit_two_pow_sub_one, Nat.testBit_two_pow_sub_one]
  congr 1
  simp only [eq_iff_iff]
  omega

theorem mask_any (b k : Nat) (w : World) (h1 : w.cell? ⟨b, 0, none⟩ = some (.int .i64 (k : Int))) (hk : 1 ≤ k) (hk2 : k ≤ 64) :
    Calls Tryz.prog 153 #[.pointer (some ⟨b, 0, none⟩)] w fun e w' => e = .returned (.int .u64 ((2 ^ k - 1 : Nat) : Int)) ∧ w = w' := by
  go_enter Tryz.func153, Tryz.ntmps153
  go_wp2
  go_ret
  refine ⟨ret_int ?_, rfl⟩
  rw [← mask_eq hk hk2]

theorem has_any (b : Nat) (n i : Int) (w : World) (h1 : w.cell? ⟨b, 1, none⟩ = some (.int .i64 n)) :
    Calls Tryz.prog 152 #[.pointer (some ⟨b, 0, none⟩), .int .i64 i] w fun e w' => e = .returned (.bool (decide (0 ≤ i ∧ i < n))) ∧ w = w' := by
  by_cases h : 0 ≤ i
  all_goals
    go_enter Tryz.func152, Tryz.ntmps152
    go_wp2_with (go_at_call 199; refine (len_cell _ _ _ h1).mono ?_; rintro e w' ⟨rfl, rfl⟩)
    go_ret
    exact ⟨ret_bool (by simp; omega), rfl⟩
theorem has_true (b : Nat) (n i : Int) (w : World) (h1 : w.cell? ⟨b, 1, none⟩ = some (.int .i64 n)) (h : 0 ≤ i ∧ i < n) :
    Calls Tryz.prog 152 #[.pointer (some ⟨b, 0, none⟩), .int .i64 i] w fun e w' => e = .returned (.bool true) ∧ w = w' :=
  (has_any b n i w h1).mono fun e w' ⟨he, hw⟩ => ⟨by rw [he]; simp [h], hw⟩
theorem get_one (b g k n i s : Nat) (len cap : Nat) (x y : Nat) (w : World) (hxl : x < 2 ^ 64) (h0 : w.cell? ⟨b, 0, none⟩ = some (.int .i64 (k : Int))) (h1 : w.cell? ⟨b, 1, none⟩ = some (.int .i64 (n : Int)))
    (h2 : w.cell? ⟨b, 2, none⟩ = some (.slice (some ⟨g, 0, none⟩) len cap)) (hk : 1 ≤ k) (hk2 : k ≤ 64) (hi : i < n) (hn : n ≤ 1048576)
    (hs : (i : Int) * (k : Int) = (s : Int)) (hs2 : s ≤ 100000000) (hlt : s / 64 < len) (hx : w.cell? ⟨g, s / 64, none⟩ = some (.int .u64 (x : Int))) (hov : s % 64 + k ≤ 64) :
    Calls Tryz.prog 112 #[.pointer (some ⟨b, 0, none⟩), .int .i64 (i : Int)] w fun e w' => e = .returned (.int .u64 ((gw k x y (s % 64) : Nat) : Int)) ∧ ∃ n, w' = w.drewN n := by
  go_enter Tryz.func112, Tryz.ntmps112
  go_wp2_with (go_at_call 152; refine (has_true _ _ _ _ h1 ⟨by omega, by omega⟩).mono ?_; rintro e w' ⟨rfl, rfl⟩)
  go_quiet (fail)
  go_wp2_with fail
  refine (mask_any b k _ (by simpa using h0) hk hk2).mono ?_
  rintro e w' ⟨rfl, rfl⟩
  go_wp2
  go_ret
  exact ⟨ret_int (gw_one hk2 hxl (by omega) y), _, rfl⟩

theorem get_two (b g k n i s : Nat) (len cap : Nat) (x y : Nat) (w : World) (hxl : x < 2 ^ 64) (h0 : w.cell? ⟨b, 0, none⟩ = some (.int .i64 (k : Int))) (h1 : w.cell? ⟨b, 1, none⟩ = some (.int .i64 (n : Int)))
    (h2 : w.cell? ⟨b, 2, none⟩ = some (.slice (some ⟨g, 0, none⟩) len cap)) (hk : 1 ≤ k) (hk2 : k ≤ 64) (hi : i < n) (hn : n ≤ 1048576)
    (hs : (i : Int) * (k : Int) = (s : Int)) (hs2 : s ≤ 100000000) (hlt : s / 64 + 1 < len) (hx : w.cell? ⟨g, s / 64, none⟩ = some (.int .u64 (x : Int)))
    (hy : w.cell? ⟨g, s / 64 + 1, none⟩ = some (.int .u64 (y : Int))) (hov : 64 < s % 64 + k) :
    Calls Tryz.prog 112 #[.pointer (some ⟨b, 0, none⟩), .int .i64 (i : Int)] w fun e w' => e = .returned (.int .u64 ((gw k x y (s % 64) : Nat) : Int)) ∧ ∃ n, w' = w.drewN n := by
  go_enter Tryz.func112, Tryz.ntmps112
  go_wp2_with (go_at_call 152; refine (has_true _ _ _ _ h1 ⟨by omega, by omega⟩).mono ?_; rintro e w' ⟨rfl, rfl⟩)
  go_quiet (fail)
  go_wp2_with fail
  refine (mask_any b k _ (by simpa using h0) hk hk2).mono ?_
  rintro e w' ⟨rfl, rfl⟩
  go_wp2
  go_ret
  exact ⟨ret_int (gw_two hk2 hxl (by omega)), _, rfl⟩

theorem canon_ok' (k : Nat) (l : List Nat) (j : Nat) : (canon k l).getD j 0 < 2 ^ 64 := getD_lt (canon_ok k l) j

theorem get_in {w : World} {b g k : Nat} {l : List Nat} (h : PArr w b g k l) (i : Nat) (hi : i < l.length) :
    Calls Tryz.prog 112 #[.pointer (some ⟨b, 0, none⟩), .int .i64 (i : Int)] w fun e w' => e = .returned (.int .u64 ((l.getD i 0 : Nat) : Int)) ∧ ∃ n, w' = w.drewN n := by
  have hf := mul_fits (k := k) hi
  have hcl := canon_length k l
  have hkl : k * l.length ≤ 64 * 1048576 := Nat.mul_le_mul h.k64 h.len
  have hk1 := h.k1
  have hk2 := h.k64
  have hs : (i : Int) * (k : Int) = ((i * k : Nat) : Int) := by rw [Int.natCast_mul]
  rw [← gw_canon hk1 hk2 h.lt hi]
  by_cases hov : 64 < i * k % 64 + k
  · exact get_two b g k l.length i (i * k) _ _ _ _ w (canon_ok' k l _) h.c0 h.c1 h.c2 hk1 hk2 hi h.len hs (by omega) (by omega) (h.cw _ (by omega)) (h.cw _ (by omega)) hov
  · exact get_one b g k l.length i (i * k) _ _ _ _ w (canon_ok' k l _) h.c0 h.c1 h.c2 hk1 hk2 hi h.len hs (by omega) (by omega) (h.cw _ (by omega)) (by omega)

end Go.Proofs.YtphccomhggnccaaGreat
namespace Go.Proofs.YtphccomhggnccaaGreat
set_option maxRecDepth 100000
set_option linter.unusedVariables false
set_option linter.unusedSimpArgs false
open Go.RowKit PkMath
theorem fits_eq {k v : Nat} (hk2 : k ≤ 64) (hv : v < 2 ^ 64) : bits BinOp.andNot IntKind.u64 (v : Int) ((2 ^ k - 1 : Nat) : Int) = ((v / 2 ^ k * 2 ^ k : Nat) : Int) := by
  rw [u64_andNot_nat _ _ hv (mask_lt hk2)]
  congr 1
  apply Nat.eq_of_testBit_eq
  intro t
  rw [Nat.testBit_and, Nat.testBit_mul_two_pow, Nat.testBit_div_two_pow]
  have := testBit_not64 (mask_lt hk2) t
  rw [show (2 ^ 64 - 1 - (2 ^ k - 1)) = 18446744073709551615 - (2 ^ k - 1) by omega] at this
  rw [this, Nat.testBit_two_pow_sub_one]
  by_cases ht : t < 64
  · by_cases h : t < k
    · have : ¬ k ≤ t := by omega
      simp [h, this]
    · have h1 : k ≤ t := by omega
      simp [ht, h1, Nat.sub_add_cancel h1, Nat.not_lt.2 h1]
  · have h1 : v.testBit t = false := Nat.testBit_lt_two_pow (Nat.lt_of_lt_of_le hv (Nat.pow_le_pow_right (by decide) (by omega)))
    rw [h1]
    by_cases h : k ≤ t
    · simp [Nat.sub_add_cancel h, h1]
    · simp [h]
theorem fits_zero {k v : Nat} (hk2 : k ≤ 64) (hv : v < 2 ^ 64) (hf : v < 2 ^ k) : (bits BinOp.andNot IntKind.u64 (v : Int) ((2 ^ k - 1 : Nat) : Int) != 0) = false := by
  rw [fits_eq hk2 hv, Nat.div_eq_of_lt hf]; simp
theorem mask_still (b k : Nat) (w : World) (h1 : w.cell? ⟨b, 0, none⟩ = some (.int .i64 (k : Int))) (hk : 1 ≤ k) (hk2 : k ≤ 64) :
    Calls Tryz.prog 153 #[.pointer (some ⟨b, 0, none⟩)] w fun e w' => e = .returned (.int .u64 ((2 ^ k - 1 : Nat) : Int)) ∧ w' = w :=
  (mask_any b k w h1 hk hk2).mono fun _ _ ⟨h, h'⟩ => ⟨h, h'.symm⟩
theorem s1_eq {k x v off : Nat} (hk2 : k ≤ 64) (hx : x < 2 ^ 64) :
    bits BinOp.or IntKind.u64 (bits BinOp.andNot IntKind.u64 (x : Int) (IntKind.u64.wrap (((2 ^ k - 1 : Nat) : Int) * 2 ^ off))) (IntKind.u64.wrap ((v : Int) * 2 ^ off)) = ((s1 k x v off : Nat) : Int) := by
  have h1 : (2 ^ k - 1) * 2 ^ off % 2 ^ 64 < 18446744073709551616 := Nat.mod_lt _ (by decide)
  have h2 : v * 2 ^ off % 2 ^ 64 < 18446744073709551616 := Nat.mod_lt _ (by decide)
  rw [shl_nat, shl_nat, u64_andNot_nat _ _ hx h1, u64_or_nat _ _ (Nat.lt_of_le_of_lt Nat.and_le_left hx) h2]
  rfl
theorem s2_eq {k y v off : Nat} (hk2 : k ≤ 64) (hy : y < 2 ^ 64) (hv : v < 2 ^ 64) :
    bits BinOp.or IntKind.u64 (bits BinOp.andNot IntKind.u64 (y : Int) (((2 ^ k - 1 : Nat) : Int) / 2 ^ (64 - off))) ((v : Int) / 2 ^ (64 - off)) = ((s2 k y v off : Nat) : Int) := by
  have h1 : (2 ^ k - 1) / 2 ^ (64 - off) < 18446744073709551616 := Nat.lt_of_le_of_lt (Nat.div_le_self _ _) (mask_lt hk2)
  rw [shr_nat, shr_nat, u64_andNot_nat _ _ hy h1, u64_or_nat _ _ (Nat.lt_of_le_of_lt Nat.and_le_left hy) (div_lt64 hv _)]
  rfl

theorem set_one (b g k n i s : Nat) (hne : ¬ b = g) (hne2 : ¬ g = b) (len cap : Nat) (x v : Nat) (w : World) (hxl : x < 2 ^ 64) (hv : v < 2 ^ 64) (hf : v < 2 ^ k) (h0 : w.cell? ⟨b, 0, none⟩ = some (.int .i64 (k : Int))) (h1 : w.cell? ⟨b, 1, none⟩ = some (.int .i64 (n : Int)))
    (h2 : w.cell? ⟨b, 2, none⟩ = some (.slice (some ⟨g, 0, none⟩) len cap)) (hk : 1 ≤ k) (hk2 : k ≤ 64) (hi : i < n) (hn : n ≤ 1048576)
    (hs : (i : Int) * (k : Int) = (s : Int)) (hs2 : s ≤ 100000000) (hlt : s / 64 < len) (hx : w.cell? ⟨g, s / 64, none⟩ = some (.int .u64 (x : Int))) (hfr : w.frozen? ⟨g, s / 64, none⟩ = false) (hov : s % 64 + k ≤ 64) :
    Calls Tryz.prog 196 #[.pointer (some ⟨b, 0, none⟩), .int .i64 (i : Int), .int .u64 (v : Int)] w fun e w' => e = .returned (.int .i64 0) ∧ ∃ n, w' = (w.drewN n).setCell ⟨g, s / 64, none⟩ (.int .u64 ((s1 k x v (s % 64) : Nat) : Int)) := by
  have hz := fits_zero hk2 hv hf
  have Hf := Lib.hid hf
  have Hv := Lib.hid hv
  have Hx := Lib.hid hxl
  clear hf hv hxl
  go_enter Tryz.func196, Tryz.ntmps196
  go_wp2_with fail
  refine (has_true _ _ _ _ h1 ⟨by omega, by omega⟩).mono ?_
  rintro e w' ⟨rfl, rfl⟩
  go_wp2_with fail
  refine (mask_any b k _ h0 hk hk2).mono ?_
  rintro e w' ⟨rfl, rfl⟩
  go_wp2_with fail
  go_quiet (fail)
  go_wp2_with fail
  have e1 : ((s : Int) / 64).toNat = s / 64 := by omega
  have e2 : ((s : Int) % 64).toNat = s % 64 := by omega
  have e3 : (0 : Int) ≤ (s : Int) / 64 := by omega
  have e4 : (s : Int) / 64 < (len : Int) := by omega
  have e5 : ¬ ((s : Int) % 64 < 0) := by omega
  have e6 : min (s % 64) 64 = s % 64 := by omega
  refine wp_region_still_tail 22 (by kernel_rfl) (by kernel_rfl) ?_
  simp only [List.take_succ_cons, List.take_zero, List.drop_succ_cons, List.drop_zero]
  change wpStill _ _ (w.drewN nq).drew (fun a' => wpList _ _ _ _ a' (w.drewN nq).drew) _ _
  repeat (first | still_step | still_call (mask_still b k _ h0 hk hk2))
  refine wpStill_nil ?_
  go_wp2_with fail
  go_ret
  exact ⟨rfl, nq + 1, by rw [s1_eq hk2 Hx.out]⟩

set_option maxHeartbeats 1000000 in
theorem set_two (b g k n i s : Nat) (hne : ¬ b = g) (hne2 : ¬ g = b) (len cap : Nat) (x y v : Nat) (w : World) (hxl : x < 2 ^ 64) (hyl : y < 2 ^ 64) (hv : v < 2 ^ 64) (hf : v < 2 ^ k) (h0 : w.cell? ⟨b, 0, none⟩ = some (.int .i64 (k : Int))) (h1 : w.cell? ⟨b, 1, none⟩ = some (.int .i64 (n : Int)))
    (h2 : w.cell? ⟨b, 2, none⟩ = some (.slice (some ⟨g, 0, none⟩) len cap)) (hk : 1 ≤ k) (hk2 : k ≤ 64) (hi : i < n) (hn : n ≤ 1048576)
    (hs : (i : Int) * (k : Int) = (s : Int)) (hs2 : s ≤ 100000000) (hlt : s / 64 + 1 < len) (hx : w.cell? ⟨g, s / 64, none⟩ = some (.int .u64 (x : Int))) (hfr : w.frozen? ⟨g, s / 64, none⟩ = false)
    (hy : w.cell? ⟨g, s / 64 + 1, none⟩ = some (.int .u64 (y : Int))) (hfr2 : w.frozen? ⟨g, s / 64 + 1, none⟩ = false) (hov : 64 < s % 64 + k) :
    Calls Tryz.prog 196 #[.pointer (some ⟨b, 0, none⟩), .int .i64 (i : Int), .int .u64 (v : Int)] w fun e w' => e = .returned (.int .i64 0) ∧ ∃ n, w' = ((w.drewN n).setCell ⟨g, s / 64, none⟩ (.int .u64 ((s1 k x v (s % 64) : Nat) : Int))).setCell ⟨g, s / 64 + 1, none⟩ (.int .u64 ((s2 k y v (s % 64) : Nat) : Int)) := by
  have hz := fits_zero hk2 hv hf
  have Hf := Lib.hid hf
  have Hv := Lib.hid hv
  have Hx := Lib.hid hxl
  have Hy := Lib.hid hyl
  clear hf hv hxl hyl
  go_enter Tryz.func196, Tryz.ntmps196
  go_wp2_with fail
  refine (has_true _ _ _ _ h1 ⟨by omega, by omega⟩).mono ?_
  rintro e w' ⟨rfl, rfl⟩
  go_wp2_with fail
  refine (mask_any b k _ h0 hk hk2).mono ?_
  rintro e w' ⟨rfl, rfl⟩
  go_wp2_with fail
  go_quiet (fail)
  go_wp2_with fail
  have e1 : ((s : Int) / 64).toNat = s / 64 := by omega
  have e1' : ((s : Int) / 64 + 1).toNat = s / 64 + 1 := by omega
  have e2 : ((s : Int) % 64).toNat = s % 64 := by omega
  have e2' : (64 - (s : Int) % 64).toNat = 64 - s % 64 := by omega
  have e2' : IntKind.i64.wrap (64 - (s : Int) % 64) = 64 - (s : Int) % 64 := IntWalk.i64_in _ (by omega)
  have e2'' : IntKind.i64.wrap ((s : Int) / 64 + 1) = (s : Int) / 64 + 1 := IntWalk.i64_in _ (by omega)
  have e3 : (0 : Int) ≤ (s : Int) / 64 := by omega
  have e4 : (s : Int) / 64 < (len : Int) := by omega
  have e3' : (0 : Int) ≤ (s : Int) / 64 + 1 := by omega
  have e4' : (s : Int) / 64 + 1 < (len : Int) := by omega
  have e5 : ¬ ((s : Int) % 64 < 0) := by omega
  have e5' : ¬ (64 - (s : Int) % 64 < 0) := by omega
  have e6 : min (s % 64) 64 = s % 64 := by omega
  have e6' : min (64 - s % 64) 64 = 64 - s % 64 := by omega
  refine wp_region_still_tail 22 (by kernel_rfl) (by kernel_rfl) ?_
  simp only [List.take_succ_cons, List.take_zero, List.drop_succ_cons, List.drop_zero]
  change wpStill _ _ (w.drewN nq).drew (fun a' => wpList _ _ _ _ a' (w.drewN nq).drew) _ _
  repeat (first | still_step | still_call (mask_still b k _ h0 hk hk2))
  refine wpStill_nil ?_
  go_wp2_with fail
  refine wp_region_still_tail 26 (by kernel_rfl) (by kernel_rfl) ?_
  simp only [List.take_succ_cons, List.take_zero, List.drop_succ_cons, List.drop_zero]
  generalize hW : World.setCell _ _ _ = W
  have h0' : W.cell? ⟨b, 0, none⟩ = some (.int .i64 (k : Int)) := by rw [← hW, cell_set_blk hne]; exact h0
  have h2' : W.cell? ⟨b, 2, none⟩ = some (.slice (some ⟨g, 0, none⟩) len cap) := by rw [← hW, cell_set_blk hne]; exact h2
  have hy' : W.cell? ⟨g, s / 64 + 1, none⟩ = some (.int .u64 (y : Int)) := by rw [← hW, cell_set_off (by omega)]; exact hy
  have hfr' : W.frozen? ⟨g, s / 64 + 1, none⟩ = false := by rw [← hW, World.frozen?_setCell]; exact hfr2
  have HW := Lib.hid hW
  clear hW
  change wpStill _ _ W.drew (fun a' => wpList _ _ _ _ a' W.drew) _ _
  repeat (first | still_step | still_call (mask_still b k _ h0' hk hk2))
  refine wpStill_nil ?_
  go_wp2_with fail
  go_ret
  refine ⟨rfl, nq + 2, ?_⟩
  rw [← HW.out, s1_eq hk2 Hx.out, s2_eq hk2 Hy.out Hv.out]
  rfl

theorem setW_one {k i v : Nat} {W : List Nat} (hov : ¬ 64 < i * k % 64 + k) : setW k W i v = W.set (i * k / 64) (s1 k (W.getD (i * k / 64) 0) v (i * k % 64)) := by
  unfold setW; rw [if_neg hov]
theorem setW_two {k i v : Nat} {W : List Nat} (hov : 64 < i * k % 64 + k) :
    setW k W i v = (W.set (i * k / 64) (s1 k (W.getD (i * k / 64) 0) v (i * k % 64))).set (i * k / 64 + 1) (s2 k (W.getD (i * k / 64 + 1) 0) v (i * k % 64)) := by
  unfold setW; rw [if_pos hov]

theorem set_in {w : World} {b g k : Nat} {l : List Nat} (h : PArr w b g k l) (i v : Nat) (hi : i < l.length) (hf : v < 2 ^ k) :
    Calls Tryz.prog 196 #[.pointer (some ⟨b, 0, none⟩), .int .i64 (i : Int), .int .u64 (v : Int)] w fun e w' => e = .returned (.int .i64 0) ∧ PArr w' b g k (l.set i v) ∧ w.grownBy w' (some g) := by
  have hm := mul_fits (k := k) hi
  have hcl := canon_length k l
  have hkl : k * l.length ≤ 64 * 1048576 := Nat.mul_le_mul h.k64 h.len
  have hk1 := h.k1
  have hk2 := h.k64
  have hv : v < 2 ^ 64 := Nat.lt_of_lt_of_le hf (Nat.pow_le_pow_right (by decide) hk2)
  have hs : (i : Int) * (k : Int) = ((i * k : Nat) : Int) := by rw [Int.natCast_mul]
  have hne : ¬ b = g := h.ne
  have hne2 : ¬ g = b := fun e => hne e.symm
  have hlt : ∀ x ∈ l.set i v, x < 2 ^ k := fun x hx => by
    rcases List.mem_or_eq_of_mem_set hx with hx | rfl
    · exact h.lt _ hx
    · exact hf
  have hc := setW_canon hk1 hk2 hi hf
  have hlen : (canon k (l.set i v)).length = (canon k l).length := by rw [canon_length, canon_length, List.length_set]
  by_cases hov : 64 < i * k % 64 + k
  · refine (set_two b g k l.length i (i * k) hne hne2 _ _ _ _ v w (canon_ok' k l _) (canon_ok' k l _) hv hf h.c0 h.c1 h.c2 hk1 hk2 hi h.len hs (by omega) (by omega) (h.cw _ (by omega)) (frozen_blk h.ws _) (h.cw _ (by omega)) (frozen_blk h.ws _) hov).mono ?_
    rintro e w' ⟨he, n, rfl⟩
    refine ⟨he, ⟨?_, ?_, hk1, hk2, by rw [List.length_set]; exact h.len, hlt⟩, ?_⟩
    · rw [hlen, List.length_set]
      exact blk_other (blk_other h.hd hne _ _) hne _ _
    · have h1 := blk_set (blk_set (w := w.drewN n) h.ws (i * k / 64) (.int .u64 ((s1 k ((canon k l).getD (i * k / 64) 0) v (i * k % 64) : Nat) : Int))) (i * k / 64 + 1) (.int .u64 ((s2 k ((canon k l).getD (i * k / 64 + 1) 0) v (i * k % 64) : Nat) : Int))
      rw [U_set, U_set, ← setW_two hov, hc] at h1
      exact h1
    · exact grown_trans (grown_trans (grown_drewN w n _) (grown_set _ _ _ _)) (grown_set _ _ _ _)
  · refine (set_one b g k l.length i (i * k) hne hne2 _ _ _ v w (canon_ok' k l _) hv hf h.c0 h.c1 h.c2 hk1 hk2 hi h.len hs (by omega) (by omega) (h.cw _ (by omega)) (frozen_blk h.ws _) (by omega)).mono ?_
    rintro e w' ⟨he, n, rfl⟩
    refine ⟨he, ⟨?_, ?_, hk1, hk2, by rw [List.length_set]; exact h.len, hlt⟩, ?_⟩
    · rw [hlen, List.length_set]
      exact blk_other h.hd hne _ _
    · have h1 := blk_set (w := w.drewN n) h.ws (i * k / 64) (.int .u64 ((s1 k ((canon k l).getD (i * k / 64) 0) v (i * k % 64) : Nat) : Int))
      rw [U_set, ← setW_one hov, hc] at h1
      exact h1
    · exact grown_trans (grown_drewN w n _) (grown_set _ _ _ _)
end Go.Proofs.YtphccomhggnccaaGreat
namespace Go.Proofs.YtphccomhggnccaaGreat
set_option maxRecDepth 100000
set_option linter.unusedVariables false
set_option linter.unusedSimpArgs false
open Go.RowKit PkMath
theorem canon_zero (k n : Nat) (hk : 1 ≤ k) : canon k (List.replicate n 0) = List.replicate ((k * n + 63) / 64) 0 := by
  symm
  apply canon_ext
  · rw [List.length_replicate, List.length_replicate]
  · intro x hx; rw [(List.mem_replicate.1 hx).2]; exact Nat.two_pow_pos _
  · intro p _
    have h0 : ∀ m j : Nat, (List.replicate m 0).getD j 0 = 0 := fun m j => by
      simp only [List.getD, List.getElem?_replicate]; split <;> rfl
    unfold bt
    rw [h0, h0]
    simp

theorem new_raw (k n s c : Nat) (w : World) (h1 : 1 ≤ k) (h2 : k ≤ 64) (h3 : n ≤ 1048576) (hs : (k : Int) * (n : Int) = (s : Int)) (hc : ((s : Int) + 64 - 1) / 64 = (c : Int)) (hsb : s ≤ 67108864) (hcb : c ≤ 1048577) :
    Calls Tryz.prog 195 #[.int .i64 (k : Int), .int .i64 (n : Int)] w fun e w' => e = .returned (.tuple #[.pointer (some ⟨w.heap.size + 1, 0, none⟩), .int .i64 0]) ∧
      w' = (w.alloc (.cells (U (List.replicate c 0)) 154)).alloc (.cells #[.int .i64 (k : Int), .int .i64 (n : Int), .slice (some ⟨w.heap.size, 0, none⟩) c c] 195) := by
  have hmk := make_u64 c (by omega)
  go_enter Tryz.func195, Tryz.ntmps195
  go_wp2
  go_ret2
  exact ⟨rfl, rfl⟩

theorem new_in (k n : Nat) (w : World) (h1 : 1 ≤ k) (h2 : k ≤ 64) (h3 : n ≤ 1048576) :
    Calls Tryz.prog 195 #[.int .i64 (k : Int), .int .i64 (n : Int)] w fun e w' => e = .returned (.tuple #[.pointer (some ⟨w.heap.size + 1, 0, none⟩), .int .i64 0]) ∧
      PArr w' (w.heap.size + 1) w.heap.size k (List.replicate n 0) ∧ Below w.heap.size w w' ∧ w'.heap.size = w.heap.size + 2 := by
  have hm : k * n ≤ 64 * 1048576 := Nat.mul_le_mul h2 h3
  refine (new_raw k n (k * n) ((k * n + 63) / 64) w h1 h2 h3 (by rw [Int.natCast_mul]) (by omega) (by omega) (by omega)).mono ?_
  rintro e w' ⟨he, rfl⟩
  have hcz := canon_zero k n h1
  refine ⟨he, ⟨?_, ?_, h1, h2, by simpa using h3, fun x hx => by rw [(List.mem_replicate.1 hx).2]; exact Nat.two_pow_pos _⟩, ((Below.refl _ _).alloc (Nat.le_refl _) _).alloc (by simp) _, by simp⟩
  · rw [hcz, List.length_replicate, List.length_replicate]
    simpa using heap_alloc_new (w.alloc (.cells (U (List.replicate ((k * n + 63) / 64) 0)) 154)) _
  · rw [hcz]
    exact blk_alloc (heap_alloc_new w _) _

end Go.Proofs.YtphccomhggnccaaGreat
namespace Go.Proofs.YtphccomhggnccaaGreat
set_option maxRecDepth 100000
set_option linter.unusedVariables false
set_option linter.unusedSimpArgs false
open Go.RowKit PkMath
theorem bitLen_le : ∀ (k x : Nat), x < 2 ^ 64 → (Lib.bitLen x ≤ k ↔ x < 2 ^ k) := by
  intro k
  induction k with
  | zero =>
    intro x hx
    by_cases h0 : x = 0
    · subst h0; simp [Lib.bitLen, Lib.bitLenAux]
    · rw [Lib.bitLen_half x h0 hx]; simp; omega
  | succ k ih =>
    intro x hx
    by_cases h0 : x = 0
    · subst h0; simp [Lib.bitLen, Lib.bitLenAux, Nat.two_pow_pos]
    · rw [Lib.bitLen_half x h0 hx, Nat.pow_succ]
      have := ih (x / 2) (by omega)
      omega
def wid : List Nat → Nat
  | [] => 1
  | x :: r => max (Lib.bitLen x) (wid r)
def widTo (l : List Nat) (j : Nat) : Nat := wid (l.take j)
theorem wid_snoc (l : List Nat) (x : Nat) : wid (l ++ [x]) = max (wid l) (Lib.bitLen x) := by
  induction l with
  | nil => simp [wid, Nat.max_comm]
  | cons a r ih => simp only [List.cons_append, wid, ih]; omega
theorem widTo_succ (l : List Nat) (j : Nat) (h : j < l.length) : widTo l (j + 1) = max (widTo l j) (Lib.bitLen (l.getD j 0)) := by
  unfold widTo
  rw [List.take_succ_eq_append_getElem h, wid_snoc]
  simp [List.getD, List.getElem?_eq_getElem h]
theorem wid_lo (l : List Nat) : 1 ≤ wid l := by
  induction l with
  | nil => simp [wid]
  | cons a r ih => simp only [wid]; omega
theorem wid_hi (l : List Nat) (h : ∀ x ∈ l, x < 2 ^ 64) : wid l ≤ 64 := by
  induction l with
  | nil => simp [wid]
  | cons a r ih =>
    simp only [wid]
    have h1 := (bitLen_le 64 a (h a (List.mem_cons_self ..))).2 (h a (List.mem_cons_self ..))
    have := ih fun x hx => h x (List.mem_cons_of_mem _ hx)
    omega
theorem wid_fits (l : List Nat) (h : ∀ x ∈ l, x < 2 ^ 64) : ∀ x ∈ l, x < 2 ^ wid l := by
  induction l with
  | nil => intro x hx; cases hx
  | cons a r ih =>
    intro x hx
    simp only [wid]
    rcases List.mem_cons.1 hx with rfl | hx
    · exact (bitLen_le _ x (h x (List.mem_cons_self ..))).1 (by omega)
    · exact Nat.lt_of_lt_of_le (ih (fun y hy => h y (List.mem_cons_of_mem _ hy)) x hx) (Nat.pow_le_pow_right (by decide) (by omega))
theorem widTo_zero (l : List Nat) : widTo l 0 = 1 := by simp [widTo, wid]
theorem widTo_all (l : List Nat) : widTo l l.length = wid l := by simp [widTo]
theorem widTo_lo (l : List Nat) (j : Nat) : 1 ≤ widTo l j := wid_lo _
theorem widTo_hi (l : List Nat) (j : Nat) (h : ∀ x ∈ l, x < 2 ^ 64) : widTo l j ≤ 64 := wid_hi _ fun x hx => h x (List.mem_of_mem_take hx)

def upd (l : List Nat) (j : Nat) : List Nat := l.take j ++ List.replicate (l.length - j) 0
theorem upd_zero (l : List Nat) : upd l 0 = List.replicate l.length 0 := by simp [upd]
theorem upd_all (l : List Nat) : upd l l.length = l := by simp [upd]
theorem upd_length (l : List Nat) (j : Nat) (h : j ≤ l.length) : (upd l j).length = l.length := by simp [upd]; omega
theorem upd_succ (l : List Nat) (j : Nat) (h : j < l.length) : (upd l j).set j (l.getD j 0) = upd l (j + 1) := by
  apply List.ext_getElem?
  intro i
  rw [List.getElem?_set]
  unfold upd
  have e1 : (l.take j).length = j := by simp; omega
  have e2 : (l.take (j + 1)).length = j + 1 := by simp; omega
  by_cases hij : j = i
  · subst hij
    have : j < (l.take j ++ List.replicate (l.length - j) 0).length := by simp; omega
    rw [if_pos rfl, if_pos this, List.getElem?_append_left (by omega)]
    simp [List.getD, List.getElem?_eq_getElem h]
  · rw [if_neg hij]
    by_cases hlt : i < j
    · rw [List.getElem?_append_left (by omega), List.getElem?_append_left (by omega), List.getElem?_take, List.getElem?_take, if_pos hlt, if_pos (by omega)]
    · rw [List.getElem?_append_right (by omega), List.getElem?_append_right (by omega), List.getElem?_replicate, List.getElem?_replicate, e1, e2]
      by_cases hl : i < l.length
      · rw [if_pos (by omega), if_pos (by omega)]
      · rw [if_neg (by omega), if_neg (by omega)]

def Made (k : Nat) (l : List Nat) (w : World) (e : Ending) (w' : World) : Prop :=
  ∃ b g, e = .returned (.pointer (some ⟨b, 0, none⟩)) ∧ PArr w' b g k l ∧ w.heap.size ≤ b ∧ w.heap.size ≤ g ∧ Below w.heap.size w w'

theorem pack_any (A : Option Addr) (l : List Nat) (n c : Nat) (w : World) (hA : Sl w A (V l)) (hl : l.length = n) (hc : n ≤ c) (hn : n ≤ 1048576) (hlt' : ∀ x ∈ l, x < 2 ^ 64) :
    Calls Tryz.prog 141 #[.slice A n c] w (Made (wid l) l w) := by
  have Hl := Lib.hid hl
  have HO := Lib.hid hlt'
  clear hl hlt'
  have hmin : min (n : Int) 1048576 = (n : Int) := by omega
  go_enter Tryz.func141, Tryz.ntmps141
  go_wp2_with fail
  go_loop [3, 17] (fun k i => ∃ j : Nat, j ≤ n ∧ i = .int .i64 (j : Int) ∧ k = .int .i64 ((widTo l j : Nat) : Int)) (fun _ i => n - (intOf i).toNat)
  case atStart => exact ⟨0, Nat.zero_le _, rfl, by rw [widTo_zero]; rfl⟩
  case round =>
    obtain ⟨j, hj, rfl, rfl⟩ := hrel
    by_cases hlt : j < n
    · obtain ⟨a, rfl, hca⟩ := hA.some (j := j) (by rw [V_length, Hl.out]; exact hlt)
      rw [V_get _ _ (by rw [Hl.out]; exact hlt)] at hca
      have hx64 : l.getD j 0 < 2 ^ 64 := by
        rw [List.getD, List.getElem?_eq_getElem (by rw [Hl.out]; exact hlt)]; exact HO.out _ (List.getElem_mem _)
      have hsucc := Lib.hid (widTo_succ l j (by rw [Hl.out]; exact hlt))
      have h1 := widTo_hi l j HO.out
      have h2 := (bitLen_le 64 _ hx64).2 hx64
      have HX := Lib.hid hx64
      generalize hx : l.getD j 0 = x at *
      clear hx hx64
      go_wp2_with fail
      refine (Tryz.bits_Len64 _ _ (by omega) (by have := HX.out; omega)).mono ?_
      rw [Int.toNat_natCast]
      rintro e w' ⟨rfl, rfl⟩
      go_wp2_with fail
      go_round
      case rel => exact ⟨j + 1, by omega, by go_num, by rw [hsucc.out]; go_num⟩
      case measure => simp [intOf]; omega
    · obtain rfl : j = n := by omega
      have hk1 := widTo_lo l j
      have hk2 := widTo_hi l j HO.out
      have hw : widTo l j = wid l := by rw [← Hl.out, widTo_all]
      rw [hw] at hk1 hk2 ⊢
      clear hw
      have HF := Lib.hid (wid_fits l HO.out)
      obtain ⟨k, hk⟩ : ∃ k, wid l = k := ⟨_, rfl⟩
      rw [hk] at hk1 hk2 HF ⊢
      have Hk := Lib.hid hk
      clear hk
      go_wp2_with fail
      refine (new_in k j _ hk1 hk2 hn).mono ?_
      rintro e w1 ⟨rfl, hP, hB, hz⟩
      go_wp2_with fail
      go_loopw [35] (fun i wr => ∃ m : Nat, m ≤ j ∧ i = .int .i64 (m : Int) ∧ PArr wr (w.heap.size + 1) w.heap.size k (upd l m) ∧ Below w.heap.size w wr) (fun i _ => j - (intOf i).toNat)
      case atStart => exact ⟨0, Nat.zero_le _, rfl, by rw [upd_zero, Hl.out]; exact hP, hB⟩
      case round =>
        clear hP hB hz
        obtain ⟨m, hm, rfl, hP, hB⟩ := hrel
        by_cases hlt2 : m < j
        · obtain ⟨a, rfl, hca0⟩ := hA.some (j := m) (by rw [V_length, Hl.out]; exact hlt2)
          rw [V_get _ _ (by rw [Hl.out]; exact hlt2)] at hca0
          have hca := ((hA.below hB).cell a rfl m _ (V_get l m (by rw [Hl.out]; exact hlt2)))
          clear hca0
          have hsucc := Lib.hid (upd_succ l m (by rw [Hl.out]; exact hlt2))
          have hfit : l.getD m 0 < 2 ^ k := by
            rw [List.getD, List.getElem?_eq_getElem (by rw [Hl.out]; exact hlt2)]; exact HF.out _ (List.getElem_mem _)
          have HFx := Lib.hid hfit
          generalize hx : l.getD m 0 = x at *
          clear hx hfit
          go_wp2_with fail
          refine (set_in hP m x (by rw [upd_length _ _ (by rw [Hl.out]; exact hm), Hl.out]; exact hlt2) HFx.out).mono ?_
          rintro e w2 ⟨rfl, hP2, hg⟩
          go_wp2_with fail
          go_roundw
          case rel => exact ⟨m + 1, by omega, by go_num, by rw [← hsucc.out]; exact hP2, hB.grown hg hB.size (fun q hq => by have : some w.heap.size = some q := hq; injection this with this; omega)⟩
          case measure => simp [intOf]; omega
        · obtain rfl : m = j := by omega
          go_wp2_with fail
          go_ret
          exact ⟨_, _, rfl, by rw [← Hl.out, upd_all] at hP; rw [Hk.out]; exact hP, by omega, Nat.le_refl _, hB⟩

end Go.Proofs.YtphccomhggnccaaGreat
