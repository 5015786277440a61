/- haystackref3: fits, words, Words. -/
import Derived.Test.YtbpnidmhbflgfaaPkWords
import Derived.LoopTactic
import Derived.StillTailTactics
namespace Go.Proofs.Ytbpnidmhbflgfaa
set_option linter.unusedVariables false
set_option linter.unusedSimpArgs false
open Go.RowKit PkMath

theorem shr_zero {v k : Nat} : (((v : Int) / 2 ^ k == 0) = decide (v < 2 ^ k)) := by
  rw [shr_nat, Bool.eq_iff_iff, beq_iff_eq, decide_eq_true_eq, ← Nat.div_eq_zero_iff_lt (Nat.two_pow_pos k)]
  omega
theorem fits_any (k v : Nat) (w : World) (h1 : 1 ≤ k) (h2 : k ≤ 64) (hv : v < 2 ^ 64) :
    Calls Try.prog 25 #[.int .i64 (k : Int), .int .u64 (v : Int)] w fun e w' => e = .returned (.bool (decide (v < 2 ^ k))) ∧ w = w' := by
  by_cases hk : k = 64
  · subst hk
    go_enter Try.func25, Try.ntmps25
    go_wp2
    go_ret
    exact ⟨ret_bool (by simpa using hv), rfl⟩
  · have hb : ((k : Int) == 64) = false := by rw [beq_eq_false_iff_ne]; omega
    clear hk
    go_enter Try.func25, Try.ntmps25
    go_wp2
    go_ret
    exact ⟨ret_bool shr_zero, rfl⟩

theorem refwords_any (k n s : Nat) (w : World) (h2 : k ≤ 64) (hn : n ≤ 1048576) (hs : (k : Int) * (n : Int) = (s : Int)) (hsb : s ≤ 67108864) :
    Calls Try.prog 30 #[.int .i64 (k : Int), .int .i64 (n : Int)] w fun e w' => e = .returned (.int .i64 (((s + 63) / 64 : Nat) : Int)) ∧ w = w' := by
  go_enter Try.func30, Try.ntmps30
  go_wp2
  go_ret
  exact ⟨ret_int (by omega), rfl⟩

/-- two rows of numbers that are alike -/
theorem words_same (A B : Option Addr) (xs : List Nat) (n n2 c d : Nat) (w : World) (hA : Sl w A (V xs)) (hB : Sl w B (V xs)) (hl : xs.length = n) (hl2 : xs.length = n2) (hn : n ≤ 1099511627776) :
    Calls Try.prog 23 #[.slice A n c, .slice B n2 d] w fun e w' => e = .returned (.bool true) ∧ ∃ m, w' = w.drewN m := by
  obtain rfl : n = n2 := by omega
  have Hl := Lib.hid hl
  clear hl hl2
  go_enter Try.func23, Try.ntmps23
  go_wp2
  go_loopw [5] (fun i wr => ∃ k m : Nat, k ≤ n ∧ i = .int .i64 (k : Int) ∧ wr = w.drewN m) (fun i _ => n - (intOf i).toNat)
  case atStart => exact ⟨0, 0, Nat.zero_le _, rfl, rfl⟩
  case round =>
    obtain ⟨k, m, hk, rfl, rfl⟩ := hrel
    by_cases hlt : k < n
    · obtain ⟨a, rfl, hca⟩ := hA.some (j := k) (by rw [V_length, Hl.out]; exact hlt)
      obtain ⟨b, rfl, hcb⟩ := hB.some (j := k) (by rw [V_length, Hl.out]; exact hlt)
      rw [V_get _ _ (by rw [Hl.out]; exact hlt)] at hca hcb
      go_wp2
      go_quiet (fail)
      go_wp2
      go_roundw
      case rel => exact ⟨k + 1, m + nq, by omega, by go_num, by simp⟩
      case measure => simp [intOf]; omega
    · go_wp2
      go_ret
      exact ⟨rfl, m, rfl⟩

/-- the one bit that is laid, as the walk spells it -/
theorem bit_eq (x k t o : Nat) (hx : x < 2 ^ 64) (ho : o < 2 ^ 64) :
    bits BinOp.or IntKind.u64 (o : Int) (IntKind.u64.wrap (bits BinOp.and IntKind.u64 ((x : Int) / 2 ^ k) 1 * 2 ^ t)) = ((o ||| ((x.testBit k).toNat * 2 ^ t % 2 ^ 64) : Nat) : Int) := by
  have h1 : bits BinOp.and IntKind.u64 ((x : Int) / 2 ^ k) 1 = (((x.testBit k).toNat : Nat) : Int) := by
    rw [shr_nat]
    have := u64_and_nat (x / 2 ^ k) 1 (div_lt64 hx k) (by decide)
    rw [show ((1 : Int)) = ((1 : Nat) : Int) from rfl, this]
    congr 1
    rw [Nat.and_one_is_mod, Nat.toNat_testBit]
  rw [h1, shl_nat, u64_or_nat _ _ ho (Nat.mod_lt _ (by decide))]

def OwnBlk (w : World) (W : List Nat) (e : Ending) (w' : World) : Prop :=
  ∃ g, w.heap.size ≤ g ∧ e = .returned (.slice (some ⟨g, 0, none⟩) W.length W.length) ∧ w'.heap[g]? = some (.cells (U W) 25 (0, 0)) ∧ Below w.heap.size w w'

/-- Words, of the document -/
theorem refWords_any (k : Nat) (A : Option Addr) (l : List Nat) (n c : Nat) (w : World) (h1 : 1 ≤ k) (h2 : k ≤ 64) (hA : Sl w A (V l)) (hl : l.length = n) (hn : n ≤ 1048576) (hlt' : ∀ x ∈ l, x < 2 ^ 64) :
    Calls Try.prog 26 #[.int .i64 (k : Int), .slice A n c] w (OwnBlk w (canon k l)) := by
  have hkn : k * n ≤ 64 * 1048576 := Nat.mul_le_mul h2 hn
  obtain ⟨s, hs⟩ : ∃ s, k * n = s := ⟨_, rfl⟩
  obtain ⟨M, hM⟩ : ∃ M, (s + 63) / 64 = M := ⟨_, rfl⟩
  have hMb : M ≤ 1048577 := by omega
  have hmk := make_u64 M (by omega)
  have Hs := Lib.hid hs
  have HM := Lib.hid hM
  have Hl := Lib.hid hl
  have hsb : s ≤ 67108864 := by omega
  clear hs hM hl hkn
  go_enter Try.func26, Try.ntmps26
  go_wp2_with fail
  refine (refwords_any k n s _ h2 hn (by rw [← Hs.out, Int.natCast_mul]) hsb).mono ?_
  rw [HM.out]
  rintro e w' ⟨rfl, rfl⟩
  go_wp2_with fail
  go_loopw [6] (fun i wr => ∃ j : Nat, j ≤ n ∧ i = .int .i64 (j : Int) ∧ Hid (wr.heap[w.heap.size]? = some (.cells (U (bitsTo k l (j * k))) 25 (0, 0))) ∧ Below w.heap.size w wr) (fun i _ => n - (intOf i).toNat)
  case atStart =>
    refine ⟨0, Nat.zero_le _, rfl, ?_, (Below.refl _ _).alloc (Nat.le_refl _) _⟩
    rw [Nat.zero_mul, bitsTo_zero, Hl.out, Hs.out, HM.out]
    exact heap_alloc_new w _
  case round =>
    obtain ⟨j, hj, rfl, hblk, hbel⟩ := hrel
    by_cases hlt : j < n
    · obtain ⟨wo, rfl⟩ : ∃ wo : World, wo = wr := ⟨_, rfl⟩
      obtain ⟨a, rfl, hca0⟩ := hA.some (j := j) (by rw [V_length, Hl.out]; exact hlt)
      rw [V_get _ _ (by rw [Hl.out]; exact hlt)] at hca0
      have hxl : l.getD j 0 < 2 ^ 64 := by
        rw [List.getD, List.getElem?_eq_getElem (by rw [Hl.out]; exact hlt)]; exact hlt' _ (List.getElem_mem _)
      have hablk : a.block < w.heap.size := hA.lt a rfl (by intro e; rw [← List.length_eq_zero_iff, V_length, Hl.out] at e; omega)
      obtain ⟨q, hq⟩ : ∃ q, j * k = q := ⟨_, rfl⟩
      have hqi : (j : Int) * (k : Int) = (q : Int) := by rw [← hq, Int.natCast_mul]
      have hqb : q + k ≤ s := by rw [← hq, ← Hs.out]; exact mul_fits hlt
      have Hq := Lib.hid hq
      rw [hq] at hblk
      have hdiv : ∀ kk, kk < k → (q + kk) / k = j ∧ (q + kk) % k = kk := fun kk hkk => by
        rw [← Hq.out, Nat.mul_comm, Nat.mul_add_div (by omega), Nat.div_eq_of_lt hkk, Nat.mul_add_mod, Nat.mod_eq_of_lt hkk]; exact ⟨by omega, rfl⟩
      have HX := Lib.hid hxl
      have HD := Lib.hid hdiv
      have HO := Lib.hid hlt'
      generalize hx : l.getD j 0 = x at *
      have HXe := Lib.hid hx
      clear hq hxl hdiv hlt' hx
      go_wp2_with fail
      go_loopw [7] (fun i wr => ∃ kk : Nat, kk ≤ k ∧ i = .int .i64 (kk : Int) ∧ Hid (wr.heap[w.heap.size]? = some (.cells (U (bitsTo k l (q + kk))) 25 (0, 0))) ∧ Below w.heap.size w wr) (fun i _ => k - (intOf i).toNat)
      case atStart => exact ⟨0, Nat.zero_le _, rfl, hblk, hbel⟩
      case round =>
        clear hblk hbel
        obtain ⟨kk, hkk, rfl, hblk, hbel⟩ := hrel
        by_cases hlk : kk < k
        · obtain ⟨p, hp⟩ : ∃ p, q + kk = p := ⟨_, rfl⟩
          have hpi : (q : Int) + (kk : Int) = (p : Int) := by omega
          have hps : p < s := by omega
          have hlen : (bitsTo k l p).length = M := by rw [bitsTo_length, Hl.out, Hs.out, HM.out]
          have hpM : p / 64 < M := by have := HM.out; omega
          rw [hp] at hblk
          have ho : (bitsTo k l p).getD (p / 64) 0 < 2 ^ 64 := getD_lt (bitsTo_ok k l p) _
          have hco : wr.cell? ⟨w.heap.size, p / 64, none⟩ = some (.int .u64 (((bitsTo k l p).getD (p / 64) 0 : Nat) : Int)) := by
            rw [cell_blk hblk.out, U_get _ _ (by omega)]
          have hfr : wr.frozen? ⟨w.heap.size, p / 64, none⟩ = false := frozen_blk hblk.out _
          have hca : wr.cell? (a.add j) = some (.int .u64 (x : Int)) := by
            rw [World.cell?_of_block (w := w) (hbel.block _ (by rw [show (a.add j).block = a.block by unfold Addr.add; split <;> rfl]; exact hablk))]; exact hca0
          have HP := Lib.hid hp
          have HL := Lib.hid hlen
          have HO' := Lib.hid ho
          generalize hoo : (bitsTo k l p).getD (p / 64) 0 = o at *
          have HOO := Lib.hid hoo
          have e1 : ((p : Int) / 64).toNat = p / 64 := by omega
          have e2 : ((p : Int) % 64).toNat = p % 64 := by omega
          have e3 : (0 : Int) ≤ (p : Int) / 64 := by omega
          have e4 : (p : Int) / 64 < (M : Int) := by omega
          have e5 : ¬ ((p : Int) % 64 < 0) := by omega
          have e6 : min (p % 64) 64 = p % 64 := by omega
          have e7 : min kk 64 = kk := by omega
          have f1 : ((p : Int)).tdiv 64 = (p : Int) / 64 := Int.tdiv_eq_ediv_of_nonneg (by omega)
          have f2 : ((p : Int)).tmod 64 = (p : Int) % 64 := Int.tmod_eq_emod_of_nonneg (by omega)
          have f3 : IntKind.i64.wrap ((p : Int) / 64) = (p : Int) / 64 := IntWalk.i64_in _ (by omega)
          have f4 : IntKind.u64.wrap ((p : Int) % 64) = (p : Int) % 64 := by rw [IntKind.wrap_u64]; omega
          have f5 : IntKind.u64.wrap (kk : Int) = (kk : Int) := by rw [IntKind.wrap_u64]; omega
          have f6 : (j : Int) < (n : Int) := by omega
          clear hp hlen ho hoo hca0
          go_wp2_with fail
          refine wp_region_still_tail 22 (by kernel_rfl) (by kernel_rfl) ?_
          simp only [List.take_succ_cons, List.take_zero, List.drop_succ_cons, List.drop_zero]
          change wpStill _ _ wr.drew (fun a' => wpList _ _ _ _ a' wr.drew) _ _
          repeat still_step
          refine wpStill_nil ?_
          go_wp2_with fail
          go_roundw
          case rel =>
            refine ⟨kk + 1, by omega, by go_num, ?_, hbel.drew.setCell (Nat.le_refl _) _⟩
            have hb := blk_set (w := wr.drew) hblk.out (p / 64) (.int .u64 ((o ||| ((x.testBit kk).toNat * 2 ^ (p % 64) % 2 ^ 64) : Nat) : Int))
            rw [bit_eq x kk (p % 64) o HX.out HO'.out]
            rw [U_set] at hb
            have hsucc := bitsTo_succ k l p (by rw [Hl.out, Hs.out]; exact hps)
            have hd := HD.out kk hlk
            rw [HP.out] at hd
            rw [hd.1, hd.2, HXe.out, HOO.out] at hsucc
            have hmod : (x.testBit kk).toNat * 2 ^ (p % 64) % 2 ^ 64 = (x.testBit kk).toNat * 2 ^ (p % 64) := by
              apply Nat.mod_eq_of_lt
              have h1 : 2 ^ (p % 64) < 2 ^ 64 := Nat.pow_lt_pow_right (by decide) (by omega)
              cases x.testBit kk <;> simp <;> omega
            rw [hmod, ← hsucc] at hb
            rw [show q + (kk + 1) = p + 1 by have := HP.out; omega]
            rw [hmod]
            exact hb
          case measure => simp [intOf]; omega
        · obtain rfl : kk = k := by omega
          go_wp2
          go_roundw
          case rel =>
            refine ⟨j + 1, by omega, by go_num, ?_, hbel⟩
            rw [Nat.add_mul, Nat.one_mul, Hq.out]
            exact hblk
          case measure => simp [intOf]; omega
    · obtain rfl : j = n := by omega
      go_wp2
      go_ret
      refine ⟨w.heap.size, Nat.le_refl _, ?_, ?_, hbel⟩
      · rw [canon_length, Hl.out, Hs.out, HM.out]
        rfl
      · have := hblk.out
        rw [← bitsTo_all, Hl.out, Nat.mul_comm]
        exact this

end Go.Proofs.Ytbpnidmhbflgfaa
