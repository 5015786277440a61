/- haystackref4: Build. -/
import Derived.Test.YtfgkkffgcgjhfaaWvRefC
namespace Go.Proofs.Ytfgkkffgcgjhfaa
set_option linter.unusedVariables false
set_option linter.unusedSimpArgs false
open Go.RowKit PkMath Pop Rank BtMath Wv

theorem i64_mask (x : Int) (k : Nat) (hk : k ≤ 16) : bits .and .i64 x ((2 ^ k - 1 : Nat) : Int) = ((((x % 18446744073709551616).toNat % 2 ^ k : Nat)) : Int) := by
  have h1 : (2 : Nat) ^ k ≤ 2 ^ 16 := Nat.pow_le_pow_right (by decide) hk
  show IntKind.i64.wrap ((BitVec.ofInt 64 x &&& BitVec.ofInt 64 ((2 ^ k - 1 : Nat) : Int)).toNat : Int) = _
  rw [BitVec.toNat_and, ofInt_u64 (2 ^ k - 1) (by omega), BitVec.toNat_ofInt, Nat.and_two_pow_sub_one_eq_mod]
  have h2 : ((x % ((2 ^ 64 : Nat) : Int)).toNat) % 2 ^ k < 2 ^ k := Nat.mod_lt _ (Nat.two_pow_pos k)
  exact wrap_small _ (by omega) (by omega)
theorem i64_and7 (x : Int) : bits .and .i64 x 7 = x % 8 := by
  have := i64_mask x 3 (by decide)
  rw [show ((7 : Int)) = ((2 ^ 3 - 1 : Nat) : Int) from rfl, this]
  omega
theorem i64_and15 (x : Int) : bits .and .i64 x 15 = x % 16 := by
  have := i64_mask x 4 (by decide)
  rw [show ((15 : Int)) = ((2 ^ 4 - 1 : Nat) : Int) from rfl, this]
  omega
theorem i64_and255 (x : Int) : bits .and .i64 x 255 = x % 256 := by
  have := i64_mask x 8 (by decide)
  rw [show ((255 : Int)) = ((2 ^ 8 - 1 : Nat) : Int) from rfl, this]
  omega
/-- Build's answer where the width is none -/
theorem refbuild_width (w : World) (A : Option Addr) (n cap : Nat) (W : Int) (h : W < 1 ∨ 16 < W) :
    Calls Try.prog 33 #[.int .i64 W, .slice A n cap] w fun e w' => e = .returned (.int .i64 1) ∧ w = w' := by
  by_cases h1 : W < 1
  · clear h
    go_enter Try.func33, Try.ntmps33
    go_wp2
    go_ret
    exact ⟨rfl, rfl⟩
  · have h2 : 16 < W := by omega
    clear h
    go_enter Try.func33, Try.ntmps33
    go_wp2
    go_ret
    exact ⟨rfl, rfl⟩
end Go.Proofs.Ytfgkkffgcgjhfaa
