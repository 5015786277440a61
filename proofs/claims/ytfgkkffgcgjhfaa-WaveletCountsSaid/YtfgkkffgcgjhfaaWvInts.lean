/- haystacklaw4: ints. -/
import Derived.Test.YtfgkkffgcgjhfaaWvRefB
namespace Go.Proofs.Ytfgkkffgcgjhfaa
set_option linter.unusedVariables false
set_option linter.unusedSimpArgs false
open Go.RowKit PkMath Pop Rank BtMath Wv

/-- two rows of ints that are alike -/
theorem ints_same (A B : Option Addr) (xs : List Int) (n n2 c d : Nat) (w : World) (hA : Sl w A (VI xs)) (hB : Sl w B (VI xs)) (hl : xs.length = n) (hl2 : xs.length = n2) (hn : n ≤ 1099511627776) :
    Calls Try.prog 34 #[.slice A n c, .slice B n2 d] w fun e w' => e = .returned (.bool true) ∧ ∃ m, w' = w.drewN m := by
  obtain rfl : n = n2 := by omega
  have Hl := Lib.hid hl
  clear hl hl2
  go_enter Try.func34, Try.ntmps34
  go_wp2
  go_loopw [5] (fun i wr => ∃ k m : Nat, k ≤ n ∧ i = .int .i64 (k : Int) ∧ wr = w.drewN m) (fun i _ => n - (intOf i).toNat)
  case atStart => exact ⟨0, 0, Nat.zero_le _, rfl, rfl⟩
  case round =>
    obtain ⟨k, m, hk, rfl, rfl⟩ := hrel
    by_cases hlt : k < n
    · obtain ⟨a, rfl, hca⟩ := hA.some (j := k) (by rw [VI_length, Hl.out]; exact hlt)
      obtain ⟨b, rfl, hcb⟩ := hB.some (j := k) (by rw [VI_length, Hl.out]; exact hlt)
      rw [VI_get _ _ (by rw [Hl.out]; exact hlt)] at hca hcb
      go_wp2
      go_quiet (fail)
      go_wp2
      go_roundw
      case rel => exact ⟨k + 1, m + nq, by omega, by go_num, by simp⟩
      case measure => simp [intOf]; omega
    · go_wp2
      go_ret
      exact ⟨rfl, m, rfl⟩
end Go.Proofs.Ytfgkkffgcgjhfaa
