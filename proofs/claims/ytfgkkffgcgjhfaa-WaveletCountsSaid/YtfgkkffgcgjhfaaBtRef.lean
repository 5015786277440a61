/- haystackref2: Rank, Select, New. -/
import Derived.Test.YtfgkkffgcgjhfaaBtNew
namespace Go.Proofs.Ytfgkkffgcgjhfaa
set_option linter.unusedVariables false
set_option linter.unusedSimpArgs false
open Go.RowKit PkMath Pop Rank BtMath

theorem rk_true_succ {l : List Bool} {c : Bool} {i : Nat} (h : i < l.length) (e : l.getD i false = c) : rk l c (i + 1) = rk l c i + 1 := by
  rw [rk_succ l c i h]; simp [List.getD, List.getElem?_eq_getElem h] at e; simp [e]
theorem rk_false_succ {l : List Bool} {c : Bool} {i : Nat} (h : i < l.length) (e : l.getD i false ≠ c) : rk l c (i + 1) = rk l c i := by
  rw [rk_succ l c i h]; simp [List.getD, List.getElem?_eq_getElem h] at e; simp [e]

set_option maxHeartbeats 1000000 in
theorem refrank_any (w : World) (A : Option Addr) (n cap : Nat) (l : List Bool) (hl : l.length = n) (hn : n ≤ 1048576) (hSl : Sl w A (VB l)) (c : Bool) (i : Int) :
    Calls Try.prog 45 #[.slice A n cap, .bool c, .int .i64 i] w fun e w' => e = .returned (.int .i64 ((rk l c i.toNat : Nat) : Int)) ∧ w = w' := by
  have Hl := Lib.hid hl
  clear hl
  go_enter Try.func45, Try.ntmps45
  go_wp2
  go_loopw [7, 8] (fun r q wr => ∃ j : Nat, j ≤ n ∧ j ≤ i.toNat ∧ q = .int .i64 (j : Int) ∧ r = .int .i64 ((rk l c j : Nat) : Int) ∧ wr = w) (fun _ q _ => n - (intOf q).toNat)
  case atStart => exact ⟨0, Nat.zero_le _, Nat.zero_le _, rfl, by rw [rk_zero]; rfl, rfl⟩
  case round =>
    obtain ⟨j, hj, hji, rfl, rfl, rfl⟩ := hrel
    have hrj := rk_le l c j
    by_cases hlt : (j : Int) < i
    · by_cases hltn : j < n
      · obtain ⟨a, rfl, hca⟩ := hSl.some (j := j) (by rw [VB_length, Hl.out]; exact hltn)
        rw [VB_get _ _ (by rw [Hl.out]; exact hltn)] at hca
        by_cases hb : l.getD j false = c
        · have Hsucc := Lib.hid (rk_true_succ (by rw [Hl.out]; exact hltn) hb)
          rw [hb] at hca
          clear hb
          cases c
          all_goals
            go_wp2
            refine ⟨⟨j + 1, by omega, by omega, rfl, by rw [Hsucc.out]; rfl, by first | rfl | trivial⟩, ?_⟩
            show n - ((j : Int) + 1).toNat < n - ((j : Int)).toNat
            omega
        · have Hsucc := Lib.hid (rk_false_succ (by rw [Hl.out]; exact hltn) hb)
          have hb2 : l.getD j false = !c := by cases c <;> simpa using hb
          rw [hb2] at hca
          clear hb hb2
          cases c
          all_goals
            go_wp2
            refine ⟨⟨j + 1, by omega, by omega, rfl, by rw [Hsucc.out], by first | rfl | trivial⟩, ?_⟩
            show n - ((j : Int) + 1).toNat < n - ((j : Int)).toNat
            omega
      · obtain rfl : j = n := by omega
        have hr : rk l c i.toNat = rk l c j := by
          have h1 := rk_big l c i.toNat (by rw [Hl.out]; omega)
          rw [Hl.out] at h1
          exact h1
        have Hr := Lib.hid hr
        clear hr
        go_wp2
        go_ret
        exact ⟨by rw [Hr.out]; rfl, rfl⟩
    · have hr : i.toNat = j := by omega
      have Hr := Lib.hid hr
      clear hr
      go_wp2
      go_ret
      exact ⟨by rw [Hr.out]; rfl, rfl⟩

theorem wrap64 (x : Int) : IntKind.i64.wrap x = if 9223372036854775808 ≤ x % 18446744073709551616 then x % 18446744073709551616 - 18446744073709551616 else x % 18446744073709551616 := by
  simp [IntKind.wrap, IntKind.bits, IntKind.signed]
theorem wrap_sub1 (x : Int) : IntKind.i64.wrap (IntKind.i64.wrap x - 1) = IntKind.i64.wrap (x - 1) := by
  rw [wrap64, wrap64, wrap64]
  split <;> split <;> split <;> omega
theorem wrap_small (x : Int) (h1 : -9223372036854775808 ≤ x) (h2 : x < 9223372036854775808) : IntKind.i64.wrap x = x := by
  rw [wrap64]; split <;> omega
theorem wrap_zero (x : Int) (h1 : -9223372036955775808 ≤ x) (h2 : x < 9223372036854775808) : (IntKind.i64.wrap x == 0) = decide (x = 0) := by
  rw [wrap64, Bool.eq_iff_iff, beq_iff_eq, decide_eq_true_eq]
  split <;> omega

set_option maxHeartbeats 1000000 in
theorem refselect_any (w : World) (A : Option Addr) (n cap : Nat) (l : List Bool) (hl : l.length = n) (hn : n ≤ 1048576) (hSl : Sl w A (VB l)) (c : Bool) (k : Int) (hk1 : -9223372036854775808 ≤ k) (hk2 : k < 9223372036854775808) :
    Calls Try.prog 46 #[.slice A n cap, .bool c, .int .i64 k] w fun e w' => e = .returned (.int .i64 (slI l c k)) ∧ w = w' := by
  have Hl := Lib.hid hl
  clear hl
  go_enter Try.func46, Try.ntmps46
  go_wp2
  go_loopw [2, 7] (fun r q wr => ∃ j : Nat, j ≤ n ∧ q = .int .i64 (j : Int) ∧ r = .int .i64 (IntKind.i64.wrap (k - ((rk l c j : Nat) : Int))) ∧ wr = w ∧ (0 ≤ k → (rk l c j : Int) ≤ k)) (fun _ q _ => n - (intOf q).toNat)
  case atStart => exact ⟨0, Nat.zero_le _, rfl, by rw [rk_zero, wrap_small _ (by omega) (by omega)]; simp, rfl, fun h => by rw [rk_zero]; exact h⟩
  case round =>
    obtain ⟨j, hj, rfl, rfl, rfl, hrk⟩ := hrel
    have hrj := rk_le l c j
    by_cases hltn : j < n
    · obtain ⟨a, rfl, hca⟩ := hSl.some (j := j) (by rw [VB_length, Hl.out]; exact hltn)
      rw [VB_get _ _ (by rw [Hl.out]; exact hltn)] at hca
      by_cases hb : l.getD j false = c
      · have hsucc := rk_true_succ (by rw [Hl.out]; exact hltn) hb
        have hz := wrap_zero (k - ((rk l c j : Nat) : Int)) (by omega) (by omega)
        have hw1 := wrap_sub1 (k - ((rk l c j : Nat) : Int))
        by_cases hkz : k = ((rk l c j : Nat) : Int)
        · have hz2 : (k - ((rk l c j : Nat) : Int)) = 0 := by omega
          have hs : slI l c k = (j : Int) := by
            rw [hkz]
            exact slI_some (sl_some.2 ⟨by rw [Hl.out]; exact hltn, by simpa [List.getD, List.getElem?_eq_getElem (show j < l.length by rw [Hl.out]; exact hltn)] using hb, rfl⟩)
          have Hs := Lib.hid hs
          rw [hz2, wrap_small 0 (by omega) (by omega)]
          rw [hb] at hca
          clear hb hs hz hw1 hz2 hkz hsucc hrk
          cases c
          all_goals
            go_wp2
            go_ret
            exact ⟨by rw [Hs.out]; rfl, rfl⟩
        · rw [show decide (k - ((rk l c j : Nat) : Int) = 0) = false by simp; omega] at hz
          rw [show k - ((rk l c j : Nat) : Int) - 1 = k - ((rk l c (j + 1) : Nat) : Int) by omega] at hw1
          have Hw1 := Lib.hid hw1
          have Hrk : Hid (0 ≤ k → (rk l c (j + 1) : Int) ≤ k) := fun h0 => by have := hrk h0; omega
          rw [hb] at hca
          clear hb hw1 hkz hsucc hrk
          generalize IntKind.i64.wrap (k - ((rk l c j : Nat) : Int)) = z at *
          cases c
          all_goals
            go_wp2
            refine ⟨⟨j + 1, by omega, rfl, by rw [← Hw1.out, wrap64, RowKit.wrap64]; congr 1; (split <;> omega), by first | rfl | trivial, Hrk.out⟩, ?_⟩
            show n - ((j : Int) + 1).toNat < n - ((j : Int)).toNat
            omega
      · have hsucc := rk_false_succ (by rw [Hl.out]; exact hltn) hb
        rw [← hsucc] at hrk
        have hb2 : l.getD j false = !c := by cases c <;> simpa using hb
        rw [hb2] at hca
        rw [← hsucc]
        clear hb hb2 hsucc
        have Hrk := Lib.hid hrk
        clear hrk
        generalize hzz : IntKind.i64.wrap (k - ((rk l c (j + 1) : Nat) : Int)) = z at *
        have Hzz := Lib.hid hzz
        clear hzz
        cases c
        all_goals
          go_wp2
          refine ⟨⟨j + 1, by omega, rfl, by rw [← Hzz.out], by first | rfl | trivial, Hrk.out⟩, ?_⟩
          show n - ((j : Int) + 1).toNat < n - ((j : Int)).toNat
          omega
    · obtain rfl : j = n := by omega
      have hs : slI l c k = -1 := by
        by_cases h0 : k < 0
        · exact slI_neg h0
        · have h1 : rk l c l.length ≤ k.toNat := by rw [Hl.out]; have := hrk (by omega); omega
          have := slI_none h1
          rwa [Int.toNat_of_nonneg (by omega)] at this
      have Hs := Lib.hid hs
      clear hs hrk
      go_wp2
      go_ret
      exact ⟨by rw [Hs.out]; rfl, rfl⟩

end Go.Proofs.Ytfgkkffgcgjhfaa
