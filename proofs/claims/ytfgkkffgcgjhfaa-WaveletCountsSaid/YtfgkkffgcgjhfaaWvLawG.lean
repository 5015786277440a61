/- haystacklaw4: WaveletCounts, all its cases. -/
import Derived.Test.YtfgkkffgcgjhfaaWvLawF
namespace Go.Proofs.Ytfgkkffgcgjhfaa
set_option linter.unusedVariables false
set_option linter.unusedSimpArgs false
open Go.RowKit PkMath Pop Rank BtMath Wv

theorem IL_toNat (l : List Int) (h : ∀ x ∈ l, 0 ≤ x) : l = IL (l.map Int.toNat) := by
  induction l with
  | nil => rfl
  | cons x l ih =>
    have h1 := h x (by simp)
    have h2 := ih fun y hy => h y (by simp [hy])
    show x :: l = ((x.toNat : Nat) : Int) :: IL (l.map Int.toNat)
    rw [← h2, Int.toNat_of_nonneg h1]
set_option maxRecDepth 100000 in
theorem lawCounts (W0 : Int) (A : Option Addr) (n c : Nat) (l : List Int) (Q : Option Addr) (t cq : Nat) (asks : List (Int × Int × Int)) (w : World) (hA : IArg w A n c l) (hQ : Asks w Q asks) (hQl : asks.length = t) :
    Calls Try.prog 13 #[.int .i64 W0, .slice A n c, .slice Q t cq] w (TrueBelow w) := by
  by_cases h0 : 1500 < n
  · go_enter Try.func13, Try.ntmps13
    go_wp2_with fail
    go_ret
    exact ⟨rfl, Below.refl _ _⟩
  by_cases h1 : 40 < t
  · go_enter Try.func13, Try.ntmps13
    go_wp2_with fail
    go_ret
    exact ⟨rfl, Below.refl _ _⟩
  by_cases hW : W0 < 1 ∨ 16 < W0
  · exact lawCounts_bad W0 A n c l Q t cq w hA (by omega) (by omega) (fun W' A' c' _ => build_width W' A' n c' W0 hW) (fun W' A' c' _ => refbuild_width W' A' n c' W0 hW)
  obtain ⟨W, rfl⟩ : ∃ W : Nat, W0 = (W : Int) := ⟨W0.toNat, by omega⟩
  by_cases hbad : ∃ x ∈ l, x < 0 ∨ 2 ^ W ≤ x
  · have hne : 0 < (VI l).length := by
      obtain ⟨x, hx, _⟩ := hbad
      rw [VI_length]
      exact List.length_pos_of_mem hx
    refine lawCounts_bad (W : Int) A n c l Q t cq w hA (by omega) (by omega) (fun W' A' c' h => ?_) (fun W' A' c' h => ?_)
    · obtain ⟨b, off, rfl, _⟩ := h.lit hne
      exact build_bad W' b off n c' W l (by omega) (by omega) hA.len (by omega) h hbad
    · obtain ⟨b, off, rfl, _⟩ := h.lit hne
      exact refbuild_bad W' b off n c' W l (by omega) (by omega) hA.len (by omega) h hbad
  · have hr : ∀ x ∈ l, 0 ≤ x ∧ x < 2 ^ W := fun x hx => by
      constructor
      · by_cases h : x < 0
        · exact absurd ⟨x, hx, .inl h⟩ hbad
        · omega
      · by_cases h : (2 : Int) ^ W ≤ x
        · exact absurd ⟨x, hx, .inr h⟩ hbad
        · omega
    refine lawCounts_ok W A n c l Q t cq asks (l.map Int.toNat) w hA hQ hQl (by omega) (by omega) (by omega) (by omega) ?_ ?_
    · exact IL_toNat l fun x hx => (hr x hx).1
    · intro y hy
      obtain ⟨x, hx, rfl⟩ := List.mem_map.1 hy
      have h2 := hr x hx
      have : (x.toNat : Int) < ((2 ^ W : Nat) : Int) := by rw [Int.natCast_pow]; have h3 := h2.2; have h4 := h2.1; show (x.toNat : Int) < 2 ^ W; omega
      exact_mod_cast this
end Go.Proofs.Ytfgkkffgcgjhfaa
