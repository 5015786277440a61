/- wavelet: Build, its checks. -/
import Derived.Test.YtfgkkffgcgjhfaaWvAll
import Derived.Maps.AppendAt
namespace Go.Proofs.Ytfgkkffgcgjhfaa
set_option linter.unusedVariables false
set_option linter.unusedSimpArgs false
open Go.RowKit PkMath Pop Rank BtMath Wv

/-- Build's answer where it refuses -/
def NoTree (x : Int) (w : World) (e : Ending) (w' : World) : Prop := e = .returned (.tuple #[.pointer none, .int .i64 x]) ∧ w = w'
theorem build_width (w : World) (A : Option Addr) (n cap : Nat) (W : Int) (h : W < 1 ∨ 16 < W) :
    Calls Try.prog 26 #[.int .i64 W, .slice A n cap] w (NoTree 1 w) := by
  by_cases h1 : W < 1
  · clear h
    go_enter Try.func26, Try.ntmps26
    go_wp2
    go_ret2
    exact ⟨rfl, rfl⟩
  · have h2 : 16 < W := by omega
    clear h
    go_enter Try.func26, Try.ntmps26
    go_wp2
    go_ret2
    exact ⟨rfl, rfl⟩
theorem build_long (w : World) (A : Option Addr) (n cap : Nat) (W : Int) (h1 : 1 ≤ W) (h2 : W ≤ 16) (hn : 131072 < n) :
    Calls Try.prog 26 #[.int .i64 W, .slice A n cap] w (NoTree 5 w) := by
  go_enter Try.func26, Try.ntmps26
  go_wp2
  go_ret2
  exact ⟨rfl, rfl⟩
/-- the first symbol that is none -/
theorem first_bad {l : List Int} {m : Int} (h : ∃ x ∈ l, x < 0 ∨ m ≤ x) : ∃ k, k < l.length ∧ (l.getD k 0 < 0 ∨ m ≤ l.getD k 0) ∧ ∀ i, i < k → 0 ≤ l.getD i 0 ∧ l.getD i 0 < m := by
  induction l with
  | nil => obtain ⟨x, hx, _⟩ := h; cases hx
  | cons y l ih =>
    by_cases hy : y < 0 ∨ m ≤ y
    · exact ⟨0, by simp, by simpa using hy, fun i hi => absurd hi (Nat.not_lt_zero _)⟩
    · obtain ⟨k, h1, h2, h3⟩ := ih (by
        obtain ⟨x, hx, hb⟩ := h
        rcases List.mem_cons.1 hx with rfl | hx
        · exact absurd hb hy
        · exact ⟨x, hx, hb⟩)
      refine ⟨k + 1, by simpa using h1, by simpa using h2, fun i hi => ?_⟩
      cases i with
      | zero => simp; omega
      | succ i => simpa using h3 i (by omega)
theorem build_bad (w : World) (b off : Nat) (n cap W : Nat) (l : List Int) (h1 : 1 ≤ W) (h2 : W ≤ 16) (hl : l.length = n) (hn : n ≤ 131072) (hSl : Sl w (some ⟨b, off, none⟩) (VI l)) (h : ∃ x ∈ l, x < 0 ∨ 2 ^ W ≤ x) :
    Calls Try.prog 26 #[.int .i64 (W : Int), .slice (some ⟨b, off, none⟩) n cap] w (NoTree 1 w) := by
  obtain ⟨m, hm, hbad, hok⟩ := first_bad h
  have hp := pow_small W h2
  have HS := Lib.hid hSl
  have Hok := Lib.hid hok
  have Hl := Lib.hid hl
  rw [hl] at hm
  clear h hSl hok hl
  go_enter Try.func26, Try.ntmps26
  go_wp2
  go_loop [7, 29] (fun c i => ∃ k : Nat, k ≤ m ∧ i = .int .i64 (k : Int)) (fun _ i => n - (intOf i).toNat)
  case atStart => exact ⟨0, Nat.zero_le _, rfl⟩
  case round =>
    obtain ⟨k, hk, rfl⟩ := hrel
    have hcell : w.cell? ⟨b, off + k, none⟩ = some (.int .i64 (l.getD k 0)) := by
      have := HS.out.cell _ rfl k _ (VI_get l k (by rw [Hl.out]; omega))
      rwa [show (⟨b, off, none⟩ : Addr).add k = ⟨b, off + k, none⟩ by unfold Addr.add; split <;> simp_all] at this
    by_cases hkm : k < m
    · obtain ⟨c1, c2⟩ := Hok.out k hkm
      clear hbad
      generalize l.getD k 0 = x at *
      have c3 : ¬ 2 ^ W ≤ x := by omega
      go_wp2
      go_round
      case rel => exact ⟨k + 1, by omega, by go_num⟩
      case measure => simp [intOf]; omega
    · obtain rfl : k = m := by omega
      generalize l.getD k 0 = x at *
      rcases hbad with hbad | hbad
      · go_wp2
        go_ret2
        exact ⟨rfl, rfl⟩
      · have h0 : ¬ x < 0 := by
          have : (0 : Int) < 2 ^ W := Int.pow_pos (by decide)
          omega
        go_wp2
        go_ret2
        exact ⟨rfl, rfl⟩
end Go.Proofs.Ytfgkkffgcgjhfaa
