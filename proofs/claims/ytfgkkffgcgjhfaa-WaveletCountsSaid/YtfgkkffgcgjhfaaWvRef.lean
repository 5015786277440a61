/- haystackref4: Rank. -/
import Derived.Test.YtfgkkffgcgjhfaaWvNil
namespace Go.Proofs.Ytfgkkffgcgjhfaa
set_option linter.unusedVariables false
set_option linter.unusedSimpArgs false
open Go.RowKit PkMath Pop Rank BtMath Wv

theorem rkI_true {l : List Int} {c : Int} {i : Nat} (h : i < l.length) (e : l.getD i 0 = c) : rk l c (i + 1) = rk l c i + 1 := by
  rw [rk_succ l c i h]; simp [List.getD, List.getElem?_eq_getElem h] at e; simp [e]
theorem rkI_false {l : List Int} {c : Int} {i : Nat} (h : i < l.length) (e : l.getD i 0 ≠ c) : rk l c (i + 1) = rk l c i := by
  rw [rk_succ l c i h]; simp [List.getD, List.getElem?_eq_getElem h] at e; simp [e]

set_option maxHeartbeats 1000000 in
theorem refrank4_any (w : World) (A : Option Addr) (n cap : Nat) (l : List Int) (hl : l.length = n) (hn : n ≤ 1048576) (hSl : Sl w A (VI l)) (c : Int) (i : Int) :
    Calls Try.prog 37 #[.slice A n cap, .int .i64 c, .int .i64 i] w fun e w' => e = .returned (.int .i64 ((rk l c i.toNat : Nat) : Int)) ∧ w = w' := by
  have Hl := Lib.hid hl
  clear hl
  go_enter Try.func37, Try.ntmps37
  go_wp2
  go_loopw [7, 8] (fun r q wr => ∃ j : Nat, j ≤ n ∧ j ≤ i.toNat ∧ q = .int .i64 (j : Int) ∧ r = .int .i64 ((rk l c j : Nat) : Int) ∧ wr = w) (fun _ q _ => n - (intOf q).toNat)
  case atStart => exact ⟨0, Nat.zero_le _, Nat.zero_le _, rfl, by rw [rk_zero]; rfl, rfl⟩
  case round =>
    obtain ⟨j, hj, hji, rfl, rfl, rfl⟩ := hrel
    have hrj := rk_le l c j
    by_cases hlt : (j : Int) < i
    · by_cases hltn : j < n
      · obtain ⟨a, rfl, hca⟩ := hSl.some (j := j) (by rw [VI_length, Hl.out]; exact hltn)
        rw [VI_get _ _ (by rw [Hl.out]; exact hltn)] at hca
        by_cases hb : l.getD j 0 = c
        · have Hsucc := Lib.hid (rkI_true (by rw [Hl.out]; exact hltn) hb)
          rw [hb] at hca
          clear hb
          go_wp2
          refine ⟨⟨j + 1, by omega, by omega, rfl, by rw [Hsucc.out]; rfl, by first | rfl | trivial⟩, ?_⟩
          show n - ((j : Int) + 1).toNat < n - ((j : Int)).toNat
          omega
        · have Hsucc := Lib.hid (rkI_false (by rw [Hl.out]; exact hltn) hb)
          generalize l.getD j 0 = x at *
          have hb2 : (x == c) = false := by rw [beq_eq_false_iff_ne]; exact hb
          go_wp2
          refine ⟨⟨j + 1, by omega, by omega, rfl, by rw [Hsucc.out], by first | rfl | trivial⟩, ?_⟩
          show n - ((j : Int) + 1).toNat < n - ((j : Int)).toNat
          omega
      · obtain rfl : j = n := by omega
        have hr : rk l c i.toNat = rk l c j := by
          have h1 := rk_big l c i.toNat (by rw [Hl.out]; omega)
          rw [Hl.out] at h1
          exact h1
        have Hr := Lib.hid hr
        clear hr
        go_wp2
        go_ret
        exact ⟨by rw [Hr.out]; rfl, rfl⟩
    · have hr : i.toNat = j := by omega
      have Hr := Lib.hid hr
      clear hr
      go_wp2
      go_ret
      exact ⟨by rw [Hr.out]; rfl, rfl⟩
end Go.Proofs.Ytfgkkffgcgjhfaa
