/- bwt: isClosed, Turn. -/
import Derived.Test.YtphccomhggnccaaGreatFmArrA
namespace Go.Proofs.YtphccomhggnccaaGreat
set_option linter.unusedVariables false
set_option linter.unusedSimpArgs false
set_option maxRecDepth 100000
open Go.RowKit Fm

/-- a row of numbers that is read at an address -/
def RowAt (w : World) (b off : Nat) (s : List Nat) : Prop := ∀ j, j < s.length → w.cell? ⟨b, off + j, none⟩ = some (.int .i64 ((s.getD j 0 : Nat) : Int))

theorem closed_any (w : World) (b off n cap : Nat) (s : List Nat) (hl : s.length = n) (hc : Closed s) (hn : n ≤ 65536) (hR : RowAt w b off s) :
    Calls Tryz.prog 191 #[.slice (some ⟨b, off, none⟩) n cap] w fun e w' => e = .returned (.bool true) ∧ w = w' := by
  have hpos := hc.pos
  rw [hl] at hpos
  have Hz := Lib.hid hc.zero
  have HR := Lib.hid hR
  obtain ⟨d, hd⟩ : ∃ d, n = d + 1 := ⟨n - 1, by omega⟩
  have hdn : (n : Int) - 1 = (d : Int) := by omega
  have hlast := hR d (by omega)
  have hz := (hc.zero d (by omega)).2 (by omega)
  rw [hz] at hlast
  have Hl := Lib.hid hl
  clear hR hl hc hz
  go_enter Tryz.func191, Tryz.ntmps191
  go_wp2_with fail
  go_loop [3, 4, 7] (fun x y i => ∃ k : Nat, k ≤ n ∧ i = .int .i64 (k : Int)) (fun _ _ i => n - (intOf i).toNat)
  case atStart => exact ⟨0, Nat.zero_le _, rfl⟩
  case round =>
    obtain ⟨k, hk, rfl⟩ := hrel
    by_cases hkm : k < n
    · have hca := HR.out k (by rw [Hl.out]; exact hkm)
      have hzk := Hz.out k (by rw [Hl.out]; exact hkm)
      rw [Hl.out] at hzk
      generalize s.getD k 0 = x at *
      by_cases hx : x = 0
      · have hkd : k = d := by have := hzk.1 hx; omega
        subst hx
        subst hkd
        clear hzk
        go_wp2_with fail
        go_round
        case rel => exact ⟨k + 1, by omega, by go_num⟩
        case measure => simp [intOf]; omega
      · have hx1 : ¬ (x : Int) = 0 := by omega
        have hx2 : ¬ (x : Int) < 0 := by omega
        clear hzk
        go_wp2_with fail
        go_round
        case rel => exact ⟨_, _, _, _, ⟨k + 1, by omega, rfl⟩, rfl, rfl, rfl, rfl⟩
        case measure => simp [intOf]; omega
    · obtain rfl : n = k := by omega
      go_wp2_with fail
      go_ret
      exact ⟨rfl, rfl⟩
end Go.Proofs.YtphccomhggnccaaGreat
