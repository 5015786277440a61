/- haystackref3: From. -/
import Derived.Test.YtbpnidmhbflgfaaPkLawD
namespace Go.Proofs.Ytbpnidmhbflgfaa
set_option linter.unusedVariables false
set_option linter.unusedSimpArgs false
open Go.RowKit PkMath

def RefFail (r : Int) (w : World) (e : Ending) (w' : World) : Prop := e = .returned (.tuple #[.slice none 0 0, .int .i64 r]) ∧ Below w.heap.size w w'
def RefOk (l : List Nat) (w : World) (e : Ending) (w' : World) : Prop :=
  ∃ r, e = .returned (.tuple #[.slice (some ⟨r, 0, none⟩) l.length l.length, .int .i64 0]) ∧ w.heap.size ≤ r ∧ w'.heap[r]? = some (.cells (U l) 25 (0, 0)) ∧ Below w.heap.size w w'

theorem refFrom_arg (k n : Int) (v : Value) (w : World) (h : k < 1 ∨ 64 < k ∨ n < 0) :
    Calls Try.prog 22 #[.int .i64 k, .int .i64 n, v] w (RefFail 1 w) := by
  go_enter Try.func22, Try.ntmps22
  go_wp2_with fail
  refine (refNew_arg k n _ h).mono ?_
  rintro e w' ⟨rfl, rfl⟩
  go_wp2_with fail
  go_ret2
  exact ⟨rfl, Below.refl _ _⟩
theorem refFrom_len (k n s M : Nat) (A : Option Addr) (m c : Nat) (w : World) (h1 : 1 ≤ k) (h2 : k ≤ 64) (h3 : n ≤ 1048576) (hs : k * n = s) (hM : (s + 63) / 64 = M) (hm : m ≠ M) (hmb : m ≤ 1099511627776) :
    Calls Try.prog 22 #[.int .i64 (k : Int), .int .i64 (n : Int), .slice A m c] w (RefFail 3 w) := by
  have hsb : k * n ≤ 64 * 1048576 := Nat.mul_le_mul h2 h3
  have hne : ((m : Int) != (M : Int)) = true := by rw [bne_iff_ne]; omega
  have Hs := Lib.hid hs
  have HM := Lib.hid hM
  have hsb2 : s ≤ 67108864 := by omega
  clear hs hM hm hsb
  go_enter Try.func22, Try.ntmps22
  go_wp2_with fail
  refine (refNew_in k n _ h1 h2 h3).mono ?_
  rintro e w1 ⟨rfl, hw1⟩
  have hB : Below w.heap.size w w1 := by rw [hw1]; exact (Below.refl _ _).alloc (Nat.le_refl _) _
  clear hw1
  go_wp2_with fail
  refine (refwords_any k n s _ h2 h3 (by rw [← Hs.out, Int.natCast_mul]) hsb2).mono ?_
  rw [HM.out]
  rintro e w' ⟨rfl, rfl⟩
  go_wp2_with fail
  go_ret2
  exact ⟨rfl, hB⟩

theorem bit_get (x t : Nat) (hx : x < 2 ^ 64) : bits BinOp.and IntKind.u64 ((x : Int) / 2 ^ t) 1 = (((x.testBit t).toNat : Nat) : Int) := by
  rw [shr_nat]
  have := u64_and_nat (x / 2 ^ t) 1 (div_lt64 hx t) (by decide)
  rw [show ((1 : Int)) = ((1 : Nat) : Int) from rfl, this]
  congr 1
  rw [Nat.and_one_is_mod, Nat.toNat_testBit]

/-- what stands behind the loops, by whether a bit stands behind the numbers -/
def RefFromPost (k n : Nat) (W : List Nat) (w : World) (e : Ending) (w' : World) : Prop :=
  ((∀ p, k * n ≤ p → p < 64 * W.length → bt W p = false) ∧ RefOk (dec k n W) w e w') ∨ (¬ (∀ p, k * n ≤ p → p < 64 * W.length → bt W p = false) ∧ RefFail 3 w e w')

theorem refFrom_any (k n M : Nat) (A : Option Addr) (c : Nat) (W : List Nat) (w : World) (hA : Sl w A (V W)) (h1 : 1 ≤ k) (h2 : k ≤ 64) (h3 : n ≤ 1048576) (hM : (k * n + 63) / 64 = M) (hl : W.length = M) (hW : ∀ x ∈ W, x < 2 ^ 64) :
    Calls Try.prog 22 #[.int .i64 (k : Int), .int .i64 (n : Int), .slice A M c] w (RefFromPost k n W w) := by
  have hsb : k * n ≤ 64 * 1048576 := Nat.mul_le_mul h2 h3
  obtain ⟨s, hs⟩ : ∃ s, k * n = s := ⟨_, rfl⟩
  have hsi : (k : Int) * (n : Int) = (s : Int) := by rw [← hs, Int.natCast_mul]
  have Hs := Lib.hid hs
  rw [hs] at hM hsb
  have HM := Lib.hid hM
  have Hl := Lib.hid hl
  have HW := Lib.hid hW
  have hMb : M ≤ 1048577 := by omega
  clear hs hM hl hW
  go_enter Try.func22, Try.ntmps22
  go_wp2_with fail
  refine (refNew_in k n _ h1 h2 h3).mono ?_
  rintro e w1 ⟨rfl, hw1⟩
  have hB : Below w.heap.size w w1 := by rw [hw1]; exact (Below.refl _ _).alloc (Nat.le_refl _) _
  have hr : w1.heap[w.heap.size]? = some (.cells (U (decTo k n W 0)) 25 (0, 0)) := by rw [hw1, decTo_zero]; exact heap_alloc_new w _
  clear hw1
  go_wp2_with fail
  refine (refwords_any k n s _ h2 h3 hsi hsb).mono ?_
  rw [HM.out]
  rintro e w' ⟨rfl, rfl⟩
  go_wp2_with fail
  go_loopw [10] (fun i wr => ∃ j : Nat, j ≤ n ∧ i = .int .i64 (j : Int) ∧ Hid (wr.heap[w.heap.size]? = some (.cells (U (decTo k n W (j * k))) 25 (0, 0))) ∧ Below w.heap.size w wr) (fun i _ => n - (intOf i).toNat)
  case atStart => exact ⟨0, Nat.zero_le _, rfl, by rw [Nat.zero_mul]; exact hr, hB⟩
  case round =>
    clear hr hB
    obtain ⟨j, hj, rfl, hblk, hbel⟩ := hrel
    by_cases hlt : j < n
    · obtain ⟨wo, rfl⟩ : ∃ wo : World, wo = wr := ⟨_, rfl⟩
      obtain ⟨q, hq⟩ : ∃ q, j * k = q := ⟨_, rfl⟩
      have hqi : (j : Int) * (k : Int) = (q : Int) := by rw [← hq, Int.natCast_mul]
      have hqb : q + k ≤ s := by rw [← hq, ← Hs.out]; exact mul_fits hlt
      have Hq := Lib.hid hq
      rw [hq] at hblk
      clear hq
      go_wp2_with fail
      go_loopw [11] (fun i wr => ∃ kk : Nat, kk ≤ k ∧ i = .int .i64 (kk : Int) ∧ Hid (wr.heap[w.heap.size]? = some (.cells (U (decTo k n W (q + kk))) 25 (0, 0))) ∧ Below w.heap.size w wr) (fun i _ => k - (intOf i).toNat)
      case atStart => exact ⟨0, Nat.zero_le _, rfl, hblk, hbel⟩
      case round =>
        clear hblk hbel
        obtain ⟨kk, hkk, rfl, hblk, hbel⟩ := hrel
        by_cases hlk : kk < k
        · obtain ⟨p, hp⟩ : ∃ p, q + kk = p := ⟨_, rfl⟩
          have hpi : (q : Int) + (kk : Int) = (p : Int) := by omega
          have hps : p < s := by omega
          have hpM : p / 64 < M := by have := HM.out; omega
          rw [hp] at hblk
          obtain ⟨a, rfl, hca0⟩ := (hA.below hbel).some (j := p / 64) (by rw [V_length, Hl.out]; exact hpM)
          rw [V_get _ _ (by rw [Hl.out]; exact hpM)] at hca0
          have hsucc := decTo_succ k n W j kk hlt hlk
          rw [Hq.out, hp] at hsucc
          have hxl : W.getD (p / 64) 0 < 2 ^ 64 := getD_lt HW.out _
          have hco : wr.cell? ⟨w.heap.size, j, none⟩ = some (.int .u64 (((decTo k n W p).getD j 0 : Nat) : Int)) := by
            rw [cell_blk hblk.out, U_get _ _ (by rw [decTo_length]; exact hlt)]
          have hfr : wr.frozen? ⟨w.heap.size, j, none⟩ = false := frozen_blk hblk.out _
          have ho : (decTo k n W p).getD j 0 < 2 ^ 64 := by
            rw [List.getD, List.getElem?_eq_getElem (by rw [decTo_length]; exact hlt)]
            exact Nat.lt_of_lt_of_le (decTo_lt k n W p _ (List.getElem_mem _)) (Nat.pow_le_pow_right (by decide) h2)
          have hbt : bt W p = (W.getD (p / 64) 0).testBit (p % 64) := rfl
          rw [hbt] at hsucc
          have HP := Lib.hid hp
          have HS := Lib.hid hsucc
          have HX := Lib.hid hxl
          have HO := Lib.hid ho
          generalize W.getD (p / 64) 0 = x at *
          generalize (decTo k n W p).getD j 0 = o at *
          have e1 : ((p : Int) / 64).toNat = p / 64 := by omega
          have e2 : ((p : Int) % 64).toNat = p % 64 := by omega
          have e3 : (0 : Int) ≤ (p : Int) / 64 := by omega
          have e4 : (p : Int) / 64 < (M : Int) := by omega
          have e5 : ¬ ((p : Int) % 64 < 0) := by omega
          have e6 : min (p % 64) 64 = p % 64 := by omega
          have e7 : min kk 64 = kk := by omega
          have f1 : ((p : Int)).tdiv 64 = (p : Int) / 64 := Int.tdiv_eq_ediv_of_nonneg (by omega)
          have f2 : ((p : Int)).tmod 64 = (p : Int) % 64 := Int.tmod_eq_emod_of_nonneg (by omega)
          have f3 : IntKind.i64.wrap ((p : Int) / 64) = (p : Int) / 64 := IntWalk.i64_in _ (by omega)
          have f4 : IntKind.u64.wrap ((p : Int) % 64) = (p : Int) % 64 := by rw [IntKind.wrap_u64]; omega
          have f5 : IntKind.u64.wrap (kk : Int) = (kk : Int) := by rw [IntKind.wrap_u64]; omega
          have f6 : (j : Int) < (n : Int) := by omega
          clear hp hsucc hxl ho hbt
          go_wp2_with fail
          refine wp_region_still_tail 21 (by kernel_rfl) (by kernel_rfl) ?_
          simp only [List.take_succ_cons, List.take_zero, List.drop_succ_cons, List.drop_zero]
          change wpStill _ _ wr.drew (fun a' => wpList _ _ _ _ a' wr.drew) _ _
          repeat still_step
          refine wpStill_nil ?_
          go_wp2_with fail
          go_roundw
          case rel =>
            refine ⟨kk + 1, by omega, by go_num, ?_, hbel.drew.setCell (Nat.le_refl _) _⟩
            have hb := blk_set (w := wr.drew) hblk.out j (.int .u64 ((o ||| ((x.testBit (p % 64)).toNat * 2 ^ kk % 2 ^ 64) : Nat) : Int))
            rw [bit_get x (p % 64) HX.out, shl_nat, u64_or_nat _ _ HO.out (Nat.mod_lt _ (by decide))]
            rw [U_set] at hb
            have hmod : (x.testBit (p % 64)).toNat * 2 ^ kk % 2 ^ 64 = (x.testBit (p % 64)).toNat * 2 ^ kk := by
              apply Nat.mod_eq_of_lt
              have h5 : 2 ^ kk < 2 ^ 64 := Nat.pow_lt_pow_right (by decide) (by omega)
              cases x.testBit (p % 64) <;> simp <;> omega
            rw [hmod, ← HS.out] at hb
            rw [show q + (kk + 1) = p + 1 by have := HP.out; omega]
            rw [hmod]
            exact hb
          case measure => simp [intOf]; omega
        · obtain rfl : kk = k := by omega
          go_wp2_with fail
          go_roundw
          case rel =>
            refine ⟨j + 1, by omega, by go_num, ?_, hbel⟩
            rw [Nat.add_mul, Nat.one_mul, Hq.out]
            exact hblk
          case measure => simp [intOf]; omega
    · obtain rfl : j = n := by omega
      have hMs : s ≤ 64 * M := by have := HM.out; omega
      have hdl : (dec k j W).length = j := dec_length _ _ _
      have HD := Lib.hid hdl
      clear hdl
      have hAr := hA.below hbel
      go_wp2_with fail
      go_loop [13] (fun i => ∃ p : Nat, s ≤ p ∧ p ≤ 64 * M ∧ i = .int .i64 (p : Int) ∧ Hid (∀ r, s ≤ r → r < p → bt W r = false)) (fun i => 64 * M - (intOf i).toNat)
      case atStart => exact ⟨s, Nat.le_refl _, hMs, rfl, fun r h1 h2 => by omega⟩
      case round =>
        obtain ⟨p, hp1, hp2, rfl, hz⟩ := hrel
        by_cases hlp : p < 64 * M
        · have hpM : p / 64 < M := by omega
          obtain ⟨a, rfl, hca0⟩ := hAr.some (j := p / 64) (by rw [V_length, Hl.out]; exact hpM)
          rw [V_get _ _ (by rw [Hl.out]; exact hpM)] at hca0
          have hxl : W.getD (p / 64) 0 < 2 ^ 64 := getD_lt HW.out _
          have hbt : bt W p = (W.getD (p / 64) 0).testBit (p % 64) := rfl
          have hbg := bit_get (W.getD (p / 64) 0) (p % 64) hxl
          rw [← hbt] at hbg
          have HBT := Lib.hid hbt
          generalize W.getD (p / 64) 0 = x at *
          have e6 : min (p % 64) 64 = p % 64 := by omega
          clear hbt hxl
          cases hb : bt W p with
          | true =>
            rw [hb] at hbg
            have hbg2 : (bits BinOp.and IntKind.u64 ((x : Int) / 2 ^ (p % 64)) 1 == 1) = true := by rw [hbg]; rfl
            have Hb := Lib.hid hb
            clear hbg hb
            go_wp2_with fail
            go_ret2
            exact .inr ⟨fun hall => (by have := hall p (by rw [Hs.out]; exact hp1) (by rw [Hl.out]; exact hlp); rw [Hb.out] at this; cases this), rfl, hbel⟩
          | false =>
            rw [hb] at hbg
            have hbg2 : (bits BinOp.and IntKind.u64 ((x : Int) / 2 ^ (p % 64)) 1 == 1) = false := by rw [hbg]; rfl
            have Hb := Lib.hid hb
            clear hbg hb
            go_wp2_with fail
            go_round
            case rel =>
              refine ⟨p + 1, by omega, by omega, by go_num, fun r h1 h2 => ?_⟩
              by_cases e : r = p
              · rw [e]; exact Hb.out
              · exact hz.out r h1 (by omega)
            case measure => simp [intOf]; omega
        · go_wp2_with fail
          go_ret2
          refine .inl ⟨fun r h1 h2 => hz.out r (by rw [← Hs.out]; exact h1) (by rw [Hl.out] at h2; omega), w.heap.size, ?_, Nat.le_refl _, hblk.out, hbel⟩
          rw [HD.out]
          rfl

end Go.Proofs.Ytbpnidmhbflgfaa
