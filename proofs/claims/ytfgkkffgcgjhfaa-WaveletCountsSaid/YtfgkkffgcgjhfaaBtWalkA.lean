/- math/bits.OnesCount64; a bits.Vector in memory; Len, Get, Rank, Ones. -/
import Derived.Test.YtfgkkffgcgjhfaaMake
import Derived.Test.YtfgkkffgcgjhfaaMakeInt
import Derived.Test.YtfgkkffgcgjhfaaBtMath
import Derived.Laws.BitsAllLaws
import Derived.StillTailTactics
namespace Go.Proofs.Ytfgkkffgcgjhfaa
set_option linter.unusedVariables false
set_option linter.unusedSimpArgs false
open Go.RowKit PkMath Pop Rank BtMath

theorem u64_and_lit (a c : Nat) (ha : a < 18446744073709551616) (hc : c < 18446744073709551616) : bits .and .u64 (a : Int) (c : Int) = ((a &&& c : Nat) : Int) := u64_and_nat a c ha hc
theorem wrap_nat {a : Nat} (h : a < 18446744073709551616) : IntKind.u64.wrap (a : Int) = (a : Int) := by rw [IntKind.wrap_u64]; omega
theorem step_and (x d M : Nat) (hx : x < 18446744073709551616) (hM : 2 * M < 18446744073709551616) :
    IntKind.u64.wrap (bits .and .u64 ((x : Int) / (d : Int)) (M : Int) + bits .and .u64 (x : Int) (M : Int)) = (((x / d &&& M) + (x &&& M) : Nat) : Int) := by
  have h1 : x / d < 18446744073709551616 := Nat.lt_of_le_of_lt (Nat.div_le_self _ _) hx
  have h2 : x / d &&& M ≤ M := Nat.and_le_right
  have h3 : x &&& M ≤ M := Nat.and_le_right
  rw [show (x : Int) / (d : Int) = ((x / d : Nat) : Int) from (Int.natCast_ediv x d).symm, u64_and_nat _ _ h1 (by omega), u64_and_nat _ _ hx (by omega), ← Int.natCast_add]
  exact wrap_nat (by omega)
theorem step_add (x d : Nat) (hs : x + x / d < 18446744073709551616) : IntKind.u64.wrap ((x : Int) + (x : Int) / (d : Int)) = ((x + x / d : Nat) : Int) := by
  rw [show (x : Int) / (d : Int) = ((x / d : Nat) : Int) from (Int.natCast_ediv x d).symm, ← Int.natCast_add]
  exact wrap_nat hs
theorem step_add' (x d : Nat) (hs : x / d + x < 18446744073709551616) : IntKind.u64.wrap ((x : Int) / (d : Int) + (x : Int)) = ((x / d + x : Nat) : Int) := by
  rw [show (x : Int) / (d : Int) = ((x / d : Nat) : Int) from (Int.natCast_ediv x d).symm, ← Int.natCast_add]
  exact wrap_nat hs
theorem last_and (x : Nat) (hx : x < 9223372036854775808) : bits .and .i64 (wrap64 (x : Int)) 127 = ((x % 128 : Nat) : Int) := by
  have hw : wrap64 (x : Int) = (x : Int) := by unfold wrap64; omega
  rw [hw]
  have h := (bits_nat .i64 63 (by decide) (fun n h0 h1 => by rw [IntKind.wrap_i64]; have : (2 : Int) ^ 63 = 9223372036854775808 := by decide
                                                             omega) x 127 (by have : 2 ^ 63 = 9223372036854775808 := by decide
                                                                              omega) (by decide)).1
  rw [show (127 : Int) = ((127 : Nat) : Int) from rfl, h, show (127 : Nat) = 2 ^ 7 - 1 from rfl, Nat.and_two_pow_sub_one_eq_mod]

/-- what Go's text reckons, step by step -/
theorem pop_steps (x : Nat) (hx : x < 18446744073709551616) : ∃ x1 x2 x3 x4 x5 x6 : Nat,
    x1 = (x / 2 &&& 6148914691236517205) + (x &&& 6148914691236517205) ∧ x2 = (x1 / 4 &&& 3689348814741910323) + (x1 &&& 3689348814741910323) ∧ x3 = (x2 / 16 + x2) &&& 1085102592571150095 ∧
    x4 = x3 + x3 / 256 ∧ x5 = x4 + x4 / 65536 ∧ x6 = x5 + x5 / 4294967296 ∧ x6 % 128 = pc x 64 ∧ x6 < 9223372036854775808 := by
  refine ⟨_, _, _, _, _, _, rfl, rfl, rfl, rfl, rfl, rfl, ?_, ?_⟩
  · rw [← pop_eq x hx]
    unfold pop
    simp only [Nat.shiftRight_eq_div_pow]
  · have hle : ∀ a : Nat, (a &&& 1085102592571150095) ≤ 1085102592571150095 := fun a => Nat.and_le_right
    have h := hle (((((x / 2 &&& 6148914691236517205) + (x &&& 6148914691236517205)) / 4 &&& 3689348814741910323) + ((x / 2 &&& 6148914691236517205) + (x &&& 6148914691236517205) &&& 3689348814741910323)) / 16 + ((((x / 2 &&& 6148914691236517205) + (x &&& 6148914691236517205)) / 4 &&& 3689348814741910323) + ((x / 2 &&& 6148914691236517205) + (x &&& 6148914691236517205) &&& 3689348814741910323)))
    omega

set_option maxHeartbeats 1000000 in
theorem ones_any (x : Nat) (w : World) (hx : x < 2 ^ 64) :
    Calls Try.prog 44 #[.int .u64 (x : Int)] w fun e w' => e = .returned (.int .i64 ((pc x 64 : Nat) : Int)) ∧ w = w' := by
  have Hx := Lib.hid hx
  clear hx
  go_enter Try.func44, Try.ntmps44
  go_wp2_with fail
  go_ret
  refine ⟨ret_int ?_, rfl⟩
  obtain ⟨x1, x2, x3, x4, x5, x6, h1, h2, h3, h4, h5, h6, hr, hb⟩ := pop_steps x Hx.out
  have a1 := step_and x 2 6148914691236517205 Hx.out (by decide)
  rw [← h1] at a1
  have b1 : x1 ≤ 2 * 6148914691236517205 := by
    have : (x / 2 &&& 6148914691236517205) ≤ 6148914691236517205 := Nat.and_le_right
    have : (x &&& 6148914691236517205) ≤ 6148914691236517205 := Nat.and_le_right
    omega
  have a2 := step_and x1 4 3689348814741910323 (by omega) (by decide)
  rw [← h2] at a2
  have b2 : x2 ≤ 2 * 3689348814741910323 := by
    have : (x1 / 4 &&& 3689348814741910323) ≤ 3689348814741910323 := Nat.and_le_right
    have : (x1 &&& 3689348814741910323) ≤ 3689348814741910323 := Nat.and_le_right
    omega
  have a3 := step_add' x2 16 (by omega)
  have a3' := u64_and_nat (x2 / 16 + x2) 1085102592571150095 (by omega) (by decide)
  rw [← h3] at a3'
  have b3 : x3 ≤ 1085102592571150095 := by rw [h3]; exact Nat.and_le_right
  have a4 := step_add x3 256 (by omega)
  rw [← h4] at a4
  have a5 := step_add x4 65536 (by omega)
  rw [← h5] at a5
  have a6 := step_add x5 4294967296 (by omega)
  rw [← h6] at a6
  have a7 := last_and x6 hb
  rw [hr] at a7
  simp only [Int.cast_ofNat_Int] at a1 a2 a3 a3' a4 a5 a6
  rw [a1, a2, a3, a3', a4, a5, a6, a7]

/-- the counts ahead of each word, as ints -/
def aheads (l : List Bool) (m : Nat) : List Int := (List.range m).map fun j => ((aheadN l j : Nat) : Int)
theorem aheads_length (l : List Bool) (m : Nat) : (aheads l m).length = m := by simp [aheads]
theorem aheads_getD (l : List Bool) (m j : Nat) (h : j < m) : (aheads l m).getD j 0 = ((aheadN l j : Nat) : Int) := by
  simp [aheads, List.getD, List.getElem?_map, List.getElem?_range h]
theorem aheads_succ (l : List Bool) (m : Nat) : aheads l (m + 1) = aheads l m ++ [((aheadN l m : Nat) : Int)] := by
  simp [aheads, List.range_succ]

/-- a bits.Vector in memory: block b, its blocks from base on -/
structure BVec (w : World) (base b : Nat) (l : List Bool) : Prop where
  len : l.length ≤ 1048576
  ge : base ≤ b
  blk : ∃ g h cap cur, base ≤ g ∧ base ≤ h ∧
    w.heap[b]? = some (.cells #[.int .i64 (l.length : Int), .slice (some ⟨g, 0, none⟩) (bwords l).length (bwords l).length, .slice (some ⟨h, 0, none⟩) ((bwords l).length + 1) cap] 65 (0, 0)) ∧
    w.heap[g]? = some (.cells (U (bwords l)) 67 (0, 0)) ∧
    w.heap[h]? = some (.cells cur 3 (0, 0)) ∧ cur.toList.take ((bwords l).length + 1) = VI (aheads l ((bwords l).length + 1))
theorem BVec.keep {w w' : World} {base b : Nat} {l : List Bool} (h : BVec w base b l) (hk : ∀ k, base ≤ k → k < w.heap.size → w'.heap[k]? = w.heap[k]?) : BVec w' base b l := by
  obtain ⟨h1, h2, g, hh, cap, cur, hg, hhh, hb, hw, ha, ht⟩ := h
  exact ⟨h1, h2, g, hh, cap, cur, hg, hhh, (hk b h2 (blk_lt hb)).trans hb, (hk g hg (blk_lt hw)).trans hw, (hk hh hhh (blk_lt ha)).trans ha, ht⟩
theorem BVec.below {w w' : World} {base b : Nat} {l : List Bool} (h : BVec w base b l) (hb : Below w.heap.size w w') : BVec w' base b l :=
  h.keep fun k _ hk => hb.block k hk
theorem BVec.drewN {w : World} {base b : Nat} {l : List Bool} (h : BVec w base b l) (n : Nat) : BVec (w.drewN n) base b l := h.keep fun _ _ _ => rfl
theorem BVec.drew {w : World} {base b : Nat} {l : List Bool} (h : BVec w base b l) : BVec w.drew base b l := h.keep fun _ _ _ => rfl
theorem BVec.mono {w : World} {base base' b : Nat} {l : List Bool} (h : BVec w base b l) (hb : base' ≤ base) : BVec w base' b l := by
  obtain ⟨h1, h2, g, hh, cap, cur, hg, hhh, r⟩ := h
  exact ⟨h1, by omega, g, hh, cap, cur, by omega, by omega, r⟩
theorem BVec.lt {w : World} {base b : Nat} {l : List Bool} (h : BVec w base b l) : b < w.heap.size := by
  obtain ⟨h1, h2, g, hh, cap, cur, hg, hhh, hb, r⟩ := h
  exact blk_lt hb
theorem BVec.c0 {w : World} {base b : Nat} {l : List Bool} (h : BVec w base b l) : w.cell? ⟨b, 0, none⟩ = some (.int .i64 (l.length : Int)) := by
  obtain ⟨h1, h2, g, hh, cap, cur, hg, hhh, hb, r⟩ := h
  rw [cell_blk hb]; rfl

theorem blen_nil (w : World) : Calls Try.prog 24 #[.pointer none] w fun e w' => e = .returned (.int .i64 0) ∧ w = w' := by
  go_enter Try.func24, Try.ntmps24
  go_wp2
  go_ret
  exact ⟨rfl, rfl⟩
theorem blen_cell (b : Nat) (n : Int) (w : World) (h1 : w.cell? ⟨b, 0, none⟩ = some (.int .i64 n)) :
    Calls Try.prog 24 #[.pointer (some ⟨b, 0, none⟩)] w fun e w' => e = .returned (.int .i64 n) ∧ w = w' := by
  go_enter Try.func24, Try.ntmps24
  go_wp2
  go_ret
  exact ⟨rfl, rfl⟩

theorem bit_get (x t : Nat) (hx : x < 2 ^ 64) : bits BinOp.and IntKind.u64 ((x : Int) / 2 ^ t) 1 = (((x.testBit t).toNat : Nat) : Int) := by
  have hs : (x : Int) / 2 ^ t = ((x / 2 ^ t : Nat) : Int) := by rw [Int.natCast_ediv, Int.natCast_pow]; rfl
  rw [hs]
  have := u64_and_nat (x / 2 ^ t) 1 (Nat.lt_of_le_of_lt (Nat.div_le_self _ _) hx) (by decide)
  rw [show ((1 : Int)) = ((1 : Nat) : Int) from rfl, this]
  congr 1
  rw [Nat.and_one_is_mod, Nat.toNat_testBit]

theorem bget_nil (i : Int) (w : World) : Calls Try.prog 23 #[.pointer none, .int .i64 i] w fun e w' => e = .returned (.bool false) ∧ w = w' := by
  by_cases h : 0 ≤ i
  all_goals
    go_enter Try.func23, Try.ntmps23
    go_wp2_with (go_at_call 24; refine (blen_nil _).mono ?_; rintro e w' ⟨rfl, rfl⟩)
    go_ret
    exact ⟨rfl, rfl⟩
/-- Get -/
theorem bget_any {w : World} {base b : Nat} {l : List Bool} (h : BVec w base b l) (i : Int) :
    Calls Try.prog 23 #[.pointer (some ⟨b, 0, none⟩), .int .i64 i] w fun e w' => e = .returned (.bool (decide (0 ≤ i) && l.getD i.toNat false)) ∧ w = w' := by
  have hc0 := h.c0
  have hlen := h.len
  by_cases hneg : i < 0
  · have hd : decide (0 ≤ i) = false := by simp; omega
    rw [hd]
    go_enter Try.func23, Try.ntmps23
    go_wp2_with (go_at_call 24; refine (blen_cell _ _ _ hc0).mono ?_; rintro e w' ⟨rfl, rfl⟩)
    go_ret
    exact ⟨rfl, rfl⟩
  · obtain ⟨j, rfl⟩ : ∃ j : Nat, i = (j : Int) := ⟨i.toNat, by omega⟩
    have hd : decide ((0 : Int) ≤ (j : Int)) = true := by simp
    rw [hd, Int.toNat_natCast, Bool.true_and]
    by_cases hout : l.length ≤ j
    · have hf : l.getD j false = false := by rw [List.getD, List.getElem?_eq_none hout]; rfl
      rw [hf]
      clear hd
      go_enter Try.func23, Try.ntmps23
      go_wp2_with (go_at_call 24; refine (blen_cell _ _ _ hc0).mono ?_; rintro e w' ⟨rfl, rfl⟩)
      go_ret
      exact ⟨rfl, rfl⟩
    · obtain ⟨_, h2, g, hh, cap, cur, hg, hhh, hb, hw, ha, ht⟩ := h
      have hc1 : w.cell? ⟨b, 1, none⟩ = some (.slice (some ⟨g, 0, none⟩) (bwords l).length (bwords l).length) := by rw [cell_blk hb]; rfl
      have hWl := bwords_length l
      have hjW : j / 64 < (bwords l).length := by omega
      have hcw : w.cell? ⟨g, j / 64, none⟩ = some (.int .u64 (((bwords l).getD (j / 64) 0 : Nat) : Int)) := by rw [cell_blk hw, U_get _ _ hjW]
      have hx := getD_lt (bwords_ok l) (j / 64)
      have hbt := bt_bwords l j
      unfold bt at hbt
      have hbg := bit_get _ (j % 64) hx
      rw [hbt] at hbg
      generalize (bwords l).getD (j / 64) 0 = x at *
      generalize (bwords l).length = W at *
      generalize hn : l.length = n at *
      have hbe : (bits BinOp.and IntKind.u64 ((x : Int) / 2 ^ (j % 64)) 1 == 1) = l.getD j false := by
        rw [hbg]; cases l.getD j false <;> rfl
      have Hbe := Lib.hid hbe
      have hmin : min (j % 64) 64 = j % 64 := by omega
      clear hbg hbt hx hWl hb hw ha ht hd hn hbe
      go_enter Try.func23, Try.ntmps23
      go_wp2_with (go_at_call 24; refine (blen_cell _ _ _ hc0).mono ?_; rintro e w' ⟨rfl, rfl⟩)
      go_ret
      exact ⟨ret_bool Hbe.out, rfl⟩

theorem rank_nil (c : Bool) (i : Int) (w : World) : Calls Try.prog 19 #[.pointer none, .bool c, .int .i64 i] w fun e w' => e = .returned (.int .i64 0) ∧ w = w' := by
  by_cases h : 0 ≤ i
  all_goals
    go_enter Try.func19, Try.ntmps19
    go_wp2_with (go_at_call 24; refine (blen_nil _).mono ?_; rintro e w' ⟨rfl, rfl⟩)
    go_ret
    exact ⟨rfl, rfl⟩

/-- a place brought within a row -/
def clip (n : Nat) (i : Int) : Nat := (min (n : Int) i).toNat
theorem ones_still (x : Nat) (w : World) (hx : x < 2 ^ 64) :
    Calls Try.prog 44 #[.int .u64 (x : Int)] w fun e w' => e = .returned (.int .i64 ((pc x 64 : Nat) : Int)) ∧ w' = w :=
  (ones_any x w hx).mono fun _ _ ⟨h, h'⟩ => ⟨h, h'.symm⟩
theorem low_and (x t : Nat) (hx : x < 2 ^ 64) (ht : t < 64) : bits BinOp.and IntKind.u64 (x : Int) (IntKind.u64.wrap ((2 : Int) ^ t - 1)) = ((x &&& (2 ^ t - 1) : Nat) : Int) := by
  have h1 : 2 ^ t < 2 ^ 64 := Nat.pow_lt_pow_right (by decide) ht
  have h2 := Nat.two_pow_pos t
  have e : ((2 : Int) ^ t - 1) = ((2 ^ t - 1 : Nat) : Int) := by
    rw [Int.natCast_sub h2, Int.natCast_pow]; rfl
  rw [e, wrap_nat (by omega), u64_and_nat _ _ hx (by omega)]

set_option maxHeartbeats 1000000 in
/-- Rank, at a place within the row that is not its begin -/
theorem rank_at {w : World} {base b : Nat} {l : List Bool} (h : BVec w base b l) (c : Bool) (i : Int) (j : Nat) (hj1 : 1 ≤ j) (hjn : j ≤ l.length) (hi : (i = (j : Int) ∧ j < l.length) ∨ ((l.length : Int) ≤ i ∧ j = l.length)) :
    Calls Try.prog 19 #[.pointer (some ⟨b, 0, none⟩), .bool c, .int .i64 i] w fun e w' => e = .returned (.int .i64 ((rk l c j : Nat) : Int)) ∧ ∃ n, w' = w.drewN n := by
  have hc0 := h.c0
  have hlen := h.len
  obtain ⟨_, h2, g, hh, cap, cur, hg, hhh, hb, hw, ha, ht⟩ := h
  have hc1 : w.cell? ⟨b, 1, none⟩ = some (.slice (some ⟨g, 0, none⟩) (bwords l).length (bwords l).length) := by rw [cell_blk hb]; rfl
  have hc2 : w.cell? ⟨b, 2, none⟩ = some (.slice (some ⟨hh, 0, none⟩) ((bwords l).length + 1) cap) := by rw [cell_blk hb]; rfl
  have hWl := bwords_length l
  have hjW : j / 64 < (bwords l).length + 1 := by omega
  have hca : w.cell? ⟨hh, j / 64, none⟩ = some (.int .i64 ((aheadN l (j / 64) : Nat) : Int)) := by
    rw [cell_blk ha]
    have h5 := VI_get (aheads l ((bwords l).length + 1)) (j / 64) (by rw [aheads_length]; exact hjW)
    rw [← ht, List.getElem?_take, if_pos hjW, aheads_getD _ _ _ hjW] at h5
    simpa using h5
  have hrw := rank_word l j hjn
  have hrf := rk_false l j hjn
  have hal : aheadN l (j / 64) ≤ j := Nat.le_trans (rk_le l true (64 * (j / 64))) (by omega)
  have hjb : ((j : Int) == 0) = false := by rw [beq_eq_false_iff_ne]; omega
  have hmx : max (j : Int) 0 = (j : Int) := by omega
  by_cases hr : 0 < j % 64
  · rw [if_pos hr] at hrw
    have hjW2 : j / 64 < (bwords l).length := by omega
    have hcw : w.cell? ⟨g, j / 64, none⟩ = some (.int .u64 (((bwords l).getD (j / 64) 0 : Nat) : Int)) := by rw [cell_blk hw, U_get _ _ hjW2]
    have hx := getD_lt (bwords_ok l) (j / 64)
    have hand := low_and ((bwords l).getD (j / 64) 0) (j % 64) hx (by omega)
    have hxa : ((bwords l).getD (j / 64) 0 &&& (2 ^ (j % 64) - 1)) < 2 ^ 64 := Nat.lt_of_le_of_lt Nat.and_le_left hx
    have hpc := pc_le ((bwords l).getD (j / 64) 0 &&& (2 ^ (j % 64) - 1)) 64
    generalize ((bwords l).getD (j / 64) 0 &&& (2 ^ (j % 64) - 1)) = y at *
    generalize (bwords l).getD (j / 64) 0 = x at *
    generalize (bwords l).length = W at *
    generalize l.length = n at *
    generalize aheadN l (j / 64) = A at *
    have Hrw := Lib.hid hrw
    have Hrf := Lib.hid hrf
    have Hxa := Lib.hid hxa
    have e1 : ((j : Int) / 64).toNat = j / 64 := by omega
    have e2 : ((j : Int) % 64).toNat = j % 64 := by omega
    have e3 : (0 : Int) ≤ (j : Int) / 64 := by omega
    have e4 : (j : Int) / 64 < (W : Int) := by omega
    have e5 : ¬ ((j : Int) % 64 < 0) := by omega
    have e6 : min (j % 64) 64 = j % 64 := by omega
    have f1 : ((j : Int)).tdiv 64 = (j : Int) / 64 := Int.tdiv_eq_ediv_of_nonneg (by omega)
    have f2 : ((j : Int)).tmod 64 = (j : Int) % 64 := Int.tmod_eq_emod_of_nonneg (by omega)
    have f3 : IntKind.i64.wrap ((j : Int) / 64) = (j : Int) / 64 := IntWalk.i64_in _ (by omega)
    have f4 : IntKind.u64.wrap ((2 : Int) ^ (j % 64)) = (2 : Int) ^ (j % 64) := by
      have h1 : 2 ^ (j % 64) < 2 ^ 64 := Nat.pow_lt_pow_right (by decide) (by omega)
      have e : ((2 : Int) ^ (j % 64)) = ((2 ^ (j % 64) : Nat) : Int) := by rw [Int.natCast_pow]; rfl
      rw [e]; exact wrap_nat (by omega)
    have Hr := Lib.hid hr
    clear hrw hrf hxa hb hw ha ht hx hWl
    rcases hi with ⟨rfl, hi⟩ | ⟨hi, rfl⟩
    all_goals cases c
    all_goals
      go_enter Try.func19, Try.ntmps19
      go_wp2_with (go_at_call 24; refine (blen_cell _ _ _ hc0).mono ?_; rintro e w' ⟨rfl, rfl⟩)
      go_quiet ((go_at_call 44; exact Calls.quiet_of_same (ones_still y _ Hxa.out)))
      go_wp2_with fail
      go_ret
      refine ⟨ret_int ?_, _, rfl⟩
      have := Hrw.out
      have := Hrf.out
      omega
  · rw [if_neg hr, Nat.add_zero] at hrw
    generalize (bwords l).length = W at *
    generalize l.length = n at *
    generalize aheadN l (j / 64) = A at *
    have Hrw := Lib.hid hrw
    have Hrf := Lib.hid hrf
    clear hrw hrf hb hw ha ht hWl
    rcases hi with ⟨rfl, hi⟩ | ⟨hi, rfl⟩
    all_goals cases c
    all_goals
      go_enter Try.func19, Try.ntmps19
      go_wp2_with (go_at_call 24; refine (blen_cell _ _ _ hc0).mono ?_; rintro e w' ⟨rfl, rfl⟩)
      go_ret
      refine ⟨ret_int ?_, 0, rfl⟩
      have := Hrw.out
      have := Hrf.out
      omega

end Go.Proofs.Ytfgkkffgcgjhfaa
