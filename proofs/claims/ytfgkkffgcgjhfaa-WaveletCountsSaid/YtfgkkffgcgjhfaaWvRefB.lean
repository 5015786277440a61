/- haystackref4: Select. -/
import Derived.Test.YtfgkkffgcgjhfaaWvRef
namespace Go.Proofs.Ytfgkkffgcgjhfaa
set_option linter.unusedVariables false
set_option linter.unusedSimpArgs false
open Go.RowKit PkMath Pop Rank BtMath Wv

/-- the place of the k-th c in a row of ints, or -1 -/
def slZ (l : List Int) (c k : Int) : Int := if k < 0 then -1 else match sl l c k.toNat with
  | some p => (p : Int)
  | none => -1
theorem slZ_neg {l : List Int} {c : Int} {k : Int} (h : k < 0) : slZ l c k = -1 := by unfold slZ; rw [if_pos h]
theorem slZ_none {l : List Int} {c : Int} {k : Nat} (h : rk l c l.length ≤ k) : slZ l c (k : Int) = -1 := by
  unfold slZ; rw [if_neg (by omega), Int.toNat_natCast, sl_none.2 h]
theorem slZ_some {l : List Int} {c : Int} {k p : Nat} (h : sl l c k = some p) : slZ l c (k : Int) = (p : Int) := by
  unfold slZ; rw [if_neg (by omega), Int.toNat_natCast, h]
set_option maxHeartbeats 1000000 in
theorem refselect4_any (w : World) (A : Option Addr) (n cap : Nat) (l : List Int) (hl : l.length = n) (hn : n ≤ 1048576) (hSl : Sl w A (VI l)) (c k : Int) (hk1 : -9223372036854775808 ≤ k) (hk2 : k < 9223372036854775808) :
    Calls Try.prog 38 #[.slice A n cap, .int .i64 c, .int .i64 k] w fun e w' => e = .returned (.int .i64 (slZ l c k)) ∧ w = w' := by
  have Hl := Lib.hid hl
  clear hl
  go_enter Try.func38, Try.ntmps38
  go_wp2
  go_loopw [2, 7] (fun r q wr => ∃ j : Nat, j ≤ n ∧ q = .int .i64 (j : Int) ∧ r = .int .i64 (IntKind.i64.wrap (k - ((rk l c j : Nat) : Int))) ∧ wr = w ∧ (0 ≤ k → (rk l c j : Int) ≤ k)) (fun _ q _ => n - (intOf q).toNat)
  case atStart => exact ⟨0, Nat.zero_le _, rfl, by rw [rk_zero, wrap_small _ (by omega) (by omega)]; simp, rfl, fun h => by rw [rk_zero]; exact h⟩
  case round =>
    obtain ⟨j, hj, rfl, rfl, rfl, hrk⟩ := hrel
    have hrj := rk_le l c j
    by_cases hltn : j < n
    · obtain ⟨a, rfl, hca⟩ := hSl.some (j := j) (by rw [VI_length, Hl.out]; exact hltn)
      rw [VI_get _ _ (by rw [Hl.out]; exact hltn)] at hca
      by_cases hb : l.getD j 0 = c
      · have hsucc := rkI_true (by rw [Hl.out]; exact hltn) hb
        have hz := wrap_zero (k - ((rk l c j : Nat) : Int)) (by omega) (by omega)
        have hw1 := wrap_sub1 (k - ((rk l c j : Nat) : Int))
        by_cases hkz : k = ((rk l c j : Nat) : Int)
        · have hz2 : (k - ((rk l c j : Nat) : Int)) = 0 := by omega
          have hs : slZ l c k = (j : Int) := by
            rw [hkz]
            exact slZ_some (sl_some.2 ⟨by rw [Hl.out]; exact hltn, by simpa [List.getD, List.getElem?_eq_getElem (show j < l.length by rw [Hl.out]; exact hltn)] using hb, rfl⟩)
          have Hs := Lib.hid hs
          rw [hz2, wrap_small 0 (by omega) (by omega)]
          rw [hb] at hca
          clear hb hs hz hw1 hz2 hkz hsucc hrk
          go_wp2
          go_ret
          exact ⟨by rw [Hs.out]; rfl, rfl⟩
        · rw [show decide (k - ((rk l c j : Nat) : Int) = 0) = false by simp; omega] at hz
          rw [show k - ((rk l c j : Nat) : Int) - 1 = k - ((rk l c (j + 1) : Nat) : Int) by omega] at hw1
          have Hw1 := Lib.hid hw1
          have Hrk : Hid (0 ≤ k → (rk l c (j + 1) : Int) ≤ k) := fun h0 => by have := hrk h0; omega
          rw [hb] at hca
          clear hb hw1 hkz hsucc hrk
          generalize IntKind.i64.wrap (k - ((rk l c j : Nat) : Int)) = z at *
          go_wp2
          refine ⟨⟨j + 1, by omega, rfl, by rw [← Hw1.out, wrap64, RowKit.wrap64]; congr 1; (split <;> omega), by first | rfl | trivial, Hrk.out⟩, ?_⟩
          show n - ((j : Int) + 1).toNat < n - ((j : Int)).toNat
          omega
      · have hsucc := rkI_false (by rw [Hl.out]; exact hltn) hb
        rw [← hsucc] at hrk
        rw [← hsucc]
        clear hsucc
        have Hrk := Lib.hid hrk
        clear hrk
        generalize l.getD j 0 = x at *
        have hb2 : (x == c) = false := by rw [beq_eq_false_iff_ne]; exact hb
        generalize hzz : IntKind.i64.wrap (k - ((rk l c (j + 1) : Nat) : Int)) = z at *
        have Hzz := Lib.hid hzz
        clear hzz
        go_wp2
        refine ⟨⟨j + 1, by omega, rfl, by rw [← Hzz.out], by first | rfl | trivial, Hrk.out⟩, ?_⟩
        show n - ((j : Int) + 1).toNat < n - ((j : Int)).toNat
        omega
    · obtain rfl : j = n := by omega
      have hs : slZ l c k = -1 := by
        by_cases h0 : k < 0
        · exact slZ_neg h0
        · have h1 : rk l c l.length ≤ k.toNat := by rw [Hl.out]; have := hrk (by omega); omega
          have := slZ_none h1
          rwa [Int.toNat_of_nonneg (by omega)] at this
      have Hs := Lib.hid hs
      clear hs hrk
      go_wp2
      go_ret
      exact ⟨by rw [Hs.out]; rfl, rfl⟩
end Go.Proofs.Ytfgkkffgcgjhfaa
