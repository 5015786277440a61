/- packed: Set. -/
import Derived.Test.YtbpnidmhbflgfaaPkGet
import Derived.StillTailTactics
namespace Go.Proofs.Ytbpnidmhbflgfaa
set_option linter.unusedVariables false
set_option linter.unusedSimpArgs false
open Go.RowKit PkMath

theorem fits_eq {k v : Nat} (hk2 : k ≤ 64) (hv : v < 2 ^ 64) : bits BinOp.andNot IntKind.u64 (v : Int) ((2 ^ k - 1 : Nat) : Int) = ((v / 2 ^ k * 2 ^ k : Nat) : Int) := by
  rw [u64_andNot_nat _ _ hv (mask_lt hk2)]
  congr 1
  apply Nat.eq_of_testBit_eq
  intro t
  rw [Nat.testBit_and, Nat.testBit_mul_two_pow, Nat.testBit_div_two_pow]
  have := testBit_not64 (mask_lt hk2) t
  rw [show (2 ^ 64 - 1 - (2 ^ k - 1)) = 18446744073709551615 - (2 ^ k - 1) by omega] at this
  rw [this, Nat.testBit_two_pow_sub_one]
  by_cases ht : t < 64
  · by_cases h : t < k
    · have : ¬ k ≤ t := by omega
      simp [h, this]
    · have h1 : k ≤ t := by omega
      simp [ht, h1, Nat.sub_add_cancel h1, Nat.not_lt.2 h1]
  · have h1 : v.testBit t = false := Nat.testBit_lt_two_pow (Nat.lt_of_lt_of_le hv (Nat.pow_le_pow_right (by decide) (by omega)))
    rw [h1]
    by_cases h : k ≤ t
    · simp [Nat.sub_add_cancel h, h1]
    · simp [h]
theorem fits_zero {k v : Nat} (hk2 : k ≤ 64) (hv : v < 2 ^ 64) (hf : v < 2 ^ k) : (bits BinOp.andNot IntKind.u64 (v : Int) ((2 ^ k - 1 : Nat) : Int) != 0) = false := by
  rw [fits_eq hk2 hv, Nat.div_eq_of_lt hf]; simp
theorem fits_not {k v : Nat} (hk2 : k ≤ 64) (hv : v < 2 ^ 64) (hf : ¬ v < 2 ^ k) : (bits BinOp.andNot IntKind.u64 (v : Int) ((2 ^ k - 1 : Nat) : Int) != 0) = true := by
  rw [fits_eq hk2 hv]
  have h1 : 0 < 2 ^ k := Nat.two_pow_pos k
  have h2 : 0 < v / 2 ^ k := Nat.div_pos (by omega) h1
  have h3 : 0 < v / 2 ^ k * 2 ^ k := Nat.mul_pos h2 h1
  rw [bne_iff_ne]
  omega

theorem mask_still (b k : Nat) (w : World) (h1 : w.cell? ⟨b, 0, none⟩ = some (.int .i64 (k : Int))) (hk : 1 ≤ k) (hk2 : k ≤ 64) :
    Calls Try.prog 28 #[.pointer (some ⟨b, 0, none⟩)] w fun e w' => e = .returned (.int .u64 ((2 ^ k - 1 : Nat) : Int)) ∧ w' = w :=
  (mask_any b k w h1 hk hk2).mono fun _ _ ⟨h, h'⟩ => ⟨h, h'.symm⟩
theorem s1_eq {k x v off : Nat} (hk2 : k ≤ 64) (hx : x < 2 ^ 64) :
    bits BinOp.or IntKind.u64 (bits BinOp.andNot IntKind.u64 (x : Int) (IntKind.u64.wrap (((2 ^ k - 1 : Nat) : Int) * 2 ^ off))) (IntKind.u64.wrap ((v : Int) * 2 ^ off)) = ((s1 k x v off : Nat) : Int) := by
  have h1 : (2 ^ k - 1) * 2 ^ off % 2 ^ 64 < 18446744073709551616 := Nat.mod_lt _ (by decide)
  have h2 : v * 2 ^ off % 2 ^ 64 < 18446744073709551616 := Nat.mod_lt _ (by decide)
  rw [shl_nat, shl_nat, u64_andNot_nat _ _ hx h1, u64_or_nat _ _ (Nat.lt_of_le_of_lt Nat.and_le_left hx) h2]
  rfl
theorem s2_eq {k y v off : Nat} (hk2 : k ≤ 64) (hy : y < 2 ^ 64) (hv : v < 2 ^ 64) :
    bits BinOp.or IntKind.u64 (bits BinOp.andNot IntKind.u64 (y : Int) (((2 ^ k - 1 : Nat) : Int) / 2 ^ (64 - off))) ((v : Int) / 2 ^ (64 - off)) = ((s2 k y v off : Nat) : Int) := by
  have h1 : (2 ^ k - 1) / 2 ^ (64 - off) < 18446744073709551616 := Nat.lt_of_le_of_lt (Nat.div_le_self _ _) (mask_lt hk2)
  rw [shr_nat, shr_nat, u64_andNot_nat _ _ hy h1, u64_or_nat _ _ (Nat.lt_of_le_of_lt Nat.and_le_left hy) (div_lt64 hv _)]
  rfl

theorem set_nil (i v : Int) (w : World) :
    Calls Try.prog 15 #[.pointer none, .int .i64 i, .int .u64 v] w fun e w' => e = .returned (.int .i64 1) ∧ w = w' := by
  go_enter Try.func15, Try.ntmps15
  go_wp2_with (go_at_call 27; refine (has_nil _ _).mono ?_; rintro e w' ⟨rfl, rfl⟩)
  go_ret
  exact ⟨rfl, rfl⟩
theorem set_out (b : Nat) (n i v : Int) (w : World) (h1 : w.cell? ⟨b, 1, none⟩ = some (.int .i64 n)) (h : i < 0 ∨ n ≤ i) :
    Calls Try.prog 15 #[.pointer (some ⟨b, 0, none⟩), .int .i64 i, .int .u64 v] w fun e w' => e = .returned (.int .i64 1) ∧ w = w' := by
  go_enter Try.func15, Try.ntmps15
  go_wp2_with (go_at_call 27; refine (has_false _ _ _ _ h1 h).mono ?_; rintro e w' ⟨rfl, rfl⟩)
  go_ret
  exact ⟨rfl, rfl⟩
theorem set_big (b k : Nat) (n i : Int) (v : Nat) (w : World) (h0 : w.cell? ⟨b, 0, none⟩ = some (.int .i64 (k : Int))) (h1 : w.cell? ⟨b, 1, none⟩ = some (.int .i64 n)) (hi : 0 ≤ i ∧ i < n)
    (hk : 1 ≤ k) (hk2 : k ≤ 64) (hv : v < 2 ^ 64) (hf : ¬ v < 2 ^ k) :
    Calls Try.prog 15 #[.pointer (some ⟨b, 0, none⟩), .int .i64 i, .int .u64 (v : Int)] w fun e w' => e = .returned (.int .i64 1) ∧ w = w' := by
  have hn := fits_not hk2 hv hf
  clear hf hv
  go_enter Try.func15, Try.ntmps15
  go_wp2_with fail
  refine (has_true _ _ _ _ h1 hi).mono ?_
  rintro e w' ⟨rfl, rfl⟩
  go_wp2_with fail
  refine (mask_any b k _ h0 hk hk2).mono ?_
  rintro e w' ⟨rfl, rfl⟩
  go_wp2_with fail
  go_ret
  exact ⟨rfl, rfl⟩

theorem set_one (b g k n i s : Nat) (hne : ¬ b = g) (hne2 : ¬ g = b) (len cap : Nat) (x v : Nat) (w : World) (hxl : x < 2 ^ 64) (hv : v < 2 ^ 64) (hf : v < 2 ^ k) (h0 : w.cell? ⟨b, 0, none⟩ = some (.int .i64 (k : Int))) (h1 : w.cell? ⟨b, 1, none⟩ = some (.int .i64 (n : Int)))
    (h2 : w.cell? ⟨b, 2, none⟩ = some (.slice (some ⟨g, 0, none⟩) len cap)) (hk : 1 ≤ k) (hk2 : k ≤ 64) (hi : i < n) (hn : n ≤ 1048576)
    (hs : (i : Int) * (k : Int) = (s : Int)) (hs2 : s ≤ 100000000) (hlt : s / 64 < len) (hx : w.cell? ⟨g, s / 64, none⟩ = some (.int .u64 (x : Int))) (hfr : w.frozen? ⟨g, s / 64, none⟩ = false) (hov : s % 64 + k ≤ 64) :
    Calls Try.prog 15 #[.pointer (some ⟨b, 0, none⟩), .int .i64 (i : Int), .int .u64 (v : Int)] w fun e w' => e = .returned (.int .i64 0) ∧ ∃ n, w' = (w.drewN n).setCell ⟨g, s / 64, none⟩ (.int .u64 ((s1 k x v (s % 64) : Nat) : Int)) := by
  have hz := fits_zero hk2 hv hf
  have Hf := Lib.hid hf
  have Hv := Lib.hid hv
  have Hx := Lib.hid hxl
  clear hf hv hxl
  go_enter Try.func15, Try.ntmps15
  go_wp2_with fail
  refine (has_true _ _ _ _ h1 ⟨by omega, by omega⟩).mono ?_
  rintro e w' ⟨rfl, rfl⟩
  go_wp2_with fail
  refine (mask_any b k _ h0 hk hk2).mono ?_
  rintro e w' ⟨rfl, rfl⟩
  go_wp2_with fail
  go_quiet (fail)
  go_wp2_with fail
  have e1 : ((s : Int) / 64).toNat = s / 64 := by omega
  have e2 : ((s : Int) % 64).toNat = s % 64 := by omega
  have e3 : (0 : Int) ≤ (s : Int) / 64 := by omega
  have e4 : (s : Int) / 64 < (len : Int) := by omega
  have e5 : ¬ ((s : Int) % 64 < 0) := by omega
  have e6 : min (s % 64) 64 = s % 64 := by omega
  refine wp_region_still_tail 22 (by kernel_rfl) (by kernel_rfl) ?_
  simp only [List.take_succ_cons, List.take_zero, List.drop_succ_cons, List.drop_zero]
  change wpStill _ _ (w.drewN nq).drew (fun a' => wpList _ _ _ _ a' (w.drewN nq).drew) _ _
  repeat (first | still_step | still_call (mask_still b k _ h0 hk hk2))
  refine wpStill_nil ?_
  go_wp2_with fail
  go_ret
  exact ⟨rfl, nq + 1, by rw [s1_eq hk2 Hx.out]⟩

set_option maxHeartbeats 1000000 in
theorem set_two (b g k n i s : Nat) (hne : ¬ b = g) (hne2 : ¬ g = b) (len cap : Nat) (x y v : Nat) (w : World) (hxl : x < 2 ^ 64) (hyl : y < 2 ^ 64) (hv : v < 2 ^ 64) (hf : v < 2 ^ k) (h0 : w.cell? ⟨b, 0, none⟩ = some (.int .i64 (k : Int))) (h1 : w.cell? ⟨b, 1, none⟩ = some (.int .i64 (n : Int)))
    (h2 : w.cell? ⟨b, 2, none⟩ = some (.slice (some ⟨g, 0, none⟩) len cap)) (hk : 1 ≤ k) (hk2 : k ≤ 64) (hi : i < n) (hn : n ≤ 1048576)
    (hs : (i : Int) * (k : Int) = (s : Int)) (hs2 : s ≤ 100000000) (hlt : s / 64 + 1 < len) (hx : w.cell? ⟨g, s / 64, none⟩ = some (.int .u64 (x : Int))) (hfr : w.frozen? ⟨g, s / 64, none⟩ = false)
    (hy : w.cell? ⟨g, s / 64 + 1, none⟩ = some (.int .u64 (y : Int))) (hfr2 : w.frozen? ⟨g, s / 64 + 1, none⟩ = false) (hov : 64 < s % 64 + k) :
    Calls Try.prog 15 #[.pointer (some ⟨b, 0, none⟩), .int .i64 (i : Int), .int .u64 (v : Int)] w fun e w' => e = .returned (.int .i64 0) ∧ ∃ n, w' = ((w.drewN n).setCell ⟨g, s / 64, none⟩ (.int .u64 ((s1 k x v (s % 64) : Nat) : Int))).setCell ⟨g, s / 64 + 1, none⟩ (.int .u64 ((s2 k y v (s % 64) : Nat) : Int)) := by
  have hz := fits_zero hk2 hv hf
  have Hf := Lib.hid hf
  have Hv := Lib.hid hv
  have Hx := Lib.hid hxl
  have Hy := Lib.hid hyl
  clear hf hv hxl hyl
  go_enter Try.func15, Try.ntmps15
  go_wp2_with fail
  refine (has_true _ _ _ _ h1 ⟨by omega, by omega⟩).mono ?_
  rintro e w' ⟨rfl, rfl⟩
  go_wp2_with fail
  refine (mask_any b k _ h0 hk hk2).mono ?_
  rintro e w' ⟨rfl, rfl⟩
  go_wp2_with fail
  go_quiet (fail)
  go_wp2_with fail
  have e1 : ((s : Int) / 64).toNat = s / 64 := by omega
  have e1' : ((s : Int) / 64 + 1).toNat = s / 64 + 1 := by omega
  have e2 : ((s : Int) % 64).toNat = s % 64 := by omega
  have e2' : (64 - (s : Int) % 64).toNat = 64 - s % 64 := by omega
  have e2' : IntKind.i64.wrap (64 - (s : Int) % 64) = 64 - (s : Int) % 64 := IntWalk.i64_in _ (by omega)
  have e2'' : IntKind.i64.wrap ((s : Int) / 64 + 1) = (s : Int) / 64 + 1 := IntWalk.i64_in _ (by omega)
  have e3 : (0 : Int) ≤ (s : Int) / 64 := by omega
  have e4 : (s : Int) / 64 < (len : Int) := by omega
  have e3' : (0 : Int) ≤ (s : Int) / 64 + 1 := by omega
  have e4' : (s : Int) / 64 + 1 < (len : Int) := by omega
  have e5 : ¬ ((s : Int) % 64 < 0) := by omega
  have e5' : ¬ (64 - (s : Int) % 64 < 0) := by omega
  have e6 : min (s % 64) 64 = s % 64 := by omega
  have e6' : min (64 - s % 64) 64 = 64 - s % 64 := by omega
  refine wp_region_still_tail 22 (by kernel_rfl) (by kernel_rfl) ?_
  simp only [List.take_succ_cons, List.take_zero, List.drop_succ_cons, List.drop_zero]
  change wpStill _ _ (w.drewN nq).drew (fun a' => wpList _ _ _ _ a' (w.drewN nq).drew) _ _
  repeat (first | still_step | still_call (mask_still b k _ h0 hk hk2))
  refine wpStill_nil ?_
  go_wp2_with fail
  refine wp_region_still_tail 26 (by kernel_rfl) (by kernel_rfl) ?_
  simp only [List.take_succ_cons, List.take_zero, List.drop_succ_cons, List.drop_zero]
  generalize hW : World.setCell _ _ _ = W
  have h0' : W.cell? ⟨b, 0, none⟩ = some (.int .i64 (k : Int)) := by rw [← hW, cell_set_blk hne]; exact h0
  have h2' : W.cell? ⟨b, 2, none⟩ = some (.slice (some ⟨g, 0, none⟩) len cap) := by rw [← hW, cell_set_blk hne]; exact h2
  have hy' : W.cell? ⟨g, s / 64 + 1, none⟩ = some (.int .u64 (y : Int)) := by rw [← hW, cell_set_off (by omega)]; exact hy
  have hfr' : W.frozen? ⟨g, s / 64 + 1, none⟩ = false := by rw [← hW, World.frozen?_setCell]; exact hfr2
  have HW := Lib.hid hW
  clear hW
  change wpStill _ _ W.drew (fun a' => wpList _ _ _ _ a' W.drew) _ _
  repeat (first | still_step | still_call (mask_still b k _ h0' hk hk2))
  refine wpStill_nil ?_
  go_wp2_with fail
  go_ret
  refine ⟨rfl, nq + 2, ?_⟩
  rw [← HW.out, s1_eq hk2 Hx.out, s2_eq hk2 Hy.out Hv.out]
  rfl

theorem setW_one {k i v : Nat} {W : List Nat} (hov : ¬ 64 < i * k % 64 + k) : setW k W i v = W.set (i * k / 64) (s1 k (W.getD (i * k / 64) 0) v (i * k % 64)) := by
  unfold setW; rw [if_neg hov]
theorem setW_two {k i v : Nat} {W : List Nat} (hov : 64 < i * k % 64 + k) :
    setW k W i v = (W.set (i * k / 64) (s1 k (W.getD (i * k / 64) 0) v (i * k % 64))).set (i * k / 64 + 1) (s2 k (W.getD (i * k / 64 + 1) 0) v (i * k % 64)) := by
  unfold setW; rw [if_pos hov]

/-- Set, within the row, of a number that fits -/
theorem set_in {w : World} {b g k : Nat} {l : List Nat} (h : PArr w b g k l) (i v : Nat) (hi : i < l.length) (hf : v < 2 ^ k) :
    Calls Try.prog 15 #[.pointer (some ⟨b, 0, none⟩), .int .i64 (i : Int), .int .u64 (v : Int)] w fun e w' => e = .returned (.int .i64 0) ∧ PArr w' b g k (l.set i v) ∧ w.grownBy w' (some g) := by
  have hm := mul_fits (k := k) hi
  have hcl := canon_length k l
  have hkl : k * l.length ≤ 64 * 1048576 := Nat.mul_le_mul h.k64 h.len
  have hk1 := h.k1
  have hk2 := h.k64
  have hv : v < 2 ^ 64 := Nat.lt_of_lt_of_le hf (Nat.pow_le_pow_right (by decide) hk2)
  have hs : (i : Int) * (k : Int) = ((i * k : Nat) : Int) := by rw [Int.natCast_mul]
  have hne : ¬ b = g := h.ne
  have hne2 : ¬ g = b := fun e => hne e.symm
  have hlt : ∀ x ∈ l.set i v, x < 2 ^ k := fun x hx => by
    rcases List.mem_or_eq_of_mem_set hx with hx | rfl
    · exact h.lt _ hx
    · exact hf
  have hc := setW_canon hk1 hk2 hi hf
  have hlen : (canon k (l.set i v)).length = (canon k l).length := by rw [canon_length, canon_length, List.length_set]
  by_cases hov : 64 < i * k % 64 + k
  · refine (set_two b g k l.length i (i * k) hne hne2 _ _ _ _ v w (canon_ok' k l _) (canon_ok' k l _) hv hf h.c0 h.c1 h.c2 hk1 hk2 hi h.len hs (by omega) (by omega) (h.cw _ (by omega)) (frozen_blk h.ws _) (h.cw _ (by omega)) (frozen_blk h.ws _) hov).mono ?_
    rintro e w' ⟨he, n, rfl⟩
    refine ⟨he, ⟨?_, ?_, hk1, hk2, by rw [List.length_set]; exact h.len, hlt⟩, ?_⟩
    · rw [hlen, List.length_set]
      exact blk_other (blk_other h.hd hne _ _) hne _ _
    · have h1 := blk_set (blk_set (w := w.drewN n) h.ws (i * k / 64) (.int .u64 ((s1 k ((canon k l).getD (i * k / 64) 0) v (i * k % 64) : Nat) : Int))) (i * k / 64 + 1) (.int .u64 ((s2 k ((canon k l).getD (i * k / 64 + 1) 0) v (i * k % 64) : Nat) : Int))
      rw [U_set, U_set, ← setW_two hov, hc] at h1
      exact h1
    · exact grown_trans (grown_trans (grown_drewN w n _) (grown_set _ _ _ _)) (grown_set _ _ _ _)
  · refine (set_one b g k l.length i (i * k) hne hne2 _ _ _ v w (canon_ok' k l _) hv hf h.c0 h.c1 h.c2 hk1 hk2 hi h.len hs (by omega) (by omega) (h.cw _ (by omega)) (frozen_blk h.ws _) (by omega)).mono ?_
    rintro e w' ⟨he, n, rfl⟩
    refine ⟨he, ⟨?_, ?_, hk1, hk2, by rw [List.length_set]; exact h.len, hlt⟩, ?_⟩
    · rw [hlen, List.length_set]
      exact blk_other h.hd hne _ _
    · have h1 := blk_set (w := w.drewN n) h.ws (i * k / 64) (.int .u64 ((s1 k ((canon k l).getD (i * k / 64) 0) v (i * k % 64) : Nat) : Int))
      rw [U_set, ← setW_one hov, hc] at h1
      exact h1
    · exact grown_trans (grown_drewN w n _) (grown_set _ _ _ _)
theorem set_not {w : World} {b g k : Nat} {l : List Nat} (h : PArr w b g k l) (i : Int) (v : Nat) (hv : v < 2 ^ 64) (hf : i < 0 ∨ (l.length : Int) ≤ i ∨ ¬ v < 2 ^ k) :
    Calls Try.prog 15 #[.pointer (some ⟨b, 0, none⟩), .int .i64 i, .int .u64 (v : Int)] w fun e w' => e = .returned (.int .i64 1) ∧ w = w' := by
  by_cases hi : 0 ≤ i ∧ i < (l.length : Int)
  · exact set_big b k _ i v w h.c0 h.c1 hi h.k1 h.k64 hv (by omega)
  · exact set_out b _ i v w h.c1 (by omega)

end Go.Proofs.Ytbpnidmhbflgfaa
