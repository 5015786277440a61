/- wavelet: Rank, Select, Below, Get of a Tree, as a plain row of ints is asked; haystackref4.Build. -/
import Derived.Test.YtfgkkffgcgjhfaaWvKnown
namespace Go.Proofs.Ytfgkkffgcgjhfaa
set_option linter.unusedVariables false
set_option linter.unusedSimpArgs false
open Go.RowKit PkMath Pop Rank BtMath Wv

theorem rk_none {l : List Nat} {c : Nat} (h : ∀ x ∈ l, x < c) (i : Nat) : rk l c i = 0 := by
  unfold rk
  rw [List.count_eq_zero]
  intro hm
  have := h c (List.mem_of_mem_take hm)
  omega
theorem trankZ {w : World} {base b W : Nat} {l : List Nat} (h : TM w base b W l) (c i : Int) :
    Calls Try.prog 27 #[.pointer (some ⟨b, 0, none⟩), .int .i64 c, .int .i64 i] w (IntBelow ((rk (IL l) c i.toNat : Nat) : Int) w) := by
  by_cases h0 : c < 0
  · rw [rk_IL_neg l c h0]
    exact trank_out h c (.inl h0) i
  · obtain ⟨d, rfl⟩ : ∃ d : Nat, c = (d : Int) := ⟨c.toNat, by omega⟩
    rw [rk_IL]
    by_cases h1 : d < 2 ^ W
    · exact trank_any h d h1 i
    · rw [rk_none (fun x hx => Nat.lt_of_lt_of_le (h.lt x hx) (by omega))]
      refine trank_out h d (.inr ?_) i
      have : ((2 ^ W : Nat) : Int) ≤ (d : Int) := by omega
      rwa [Int.natCast_pow] at this
theorem cntB_min (l : List Nat) (c : Int) (a z : Nat) : cntB l c (min l.length a) (min l.length z) = cntZ (IL l) c a z := by
  rw [cntZ_IL]
  by_cases hz : z ≤ l.length
  · rw [Nat.min_eq_right hz]
    by_cases ha : a ≤ l.length
    · rw [Nat.min_eq_right ha]
    · rw [Nat.min_eq_left (show l.length ≤ a by omega), cntB_nil l c _ z (by omega), cntB_nil l c a z (by omega)]
  · have hz2 : l.length ≤ z := by omega
    rw [Nat.min_eq_left hz2]
    by_cases ha : a ≤ l.length
    · rw [Nat.min_eq_right ha]
      unfold cntB seg
      rw [List.take_of_length_le (Nat.le_refl _), List.take_of_length_le hz2]
    · have ha2 : l.length ≤ a := by omega
      rw [Nat.min_eq_left ha2, cntB_nil l c _ _ (Nat.le_refl _)]
      unfold cntB seg
      rw [List.take_of_length_le hz2, List.drop_eq_nil_of_le ha2]
      rfl
theorem tbelowZ {w : World} {base b W : Nat} {l : List Nat} (h : TM w base b W l) (c i j : Int) :
    Calls Try.prog 28 #[.pointer (some ⟨b, 0, none⟩), .int .i64 c, .int .i64 i, .int .i64 j] w (IntBelow ((cntZ (IL l) c i.toNat j.toNat : Nat) : Int) w) := by
  rw [← cntB_min]
  exact tbelow_any h c i j
theorem tselZ {w : World} {base b W : Nat} {l : List Nat} (h : TM w base b W l) (c k : Int) :
    Calls Try.prog 29 #[.pointer (some ⟨b, 0, none⟩), .int .i64 c, .int .i64 k] w (IntBelow (slZ (IL l) c k) w) := by
  rw [slZ_IL]
  exact tsel_any h c k
/-- a symbol, or -1 -/
def atZ (l : List Int) (i : Int) : Int := if 0 ≤ i ∧ i < (l.length : Int) then l.getD i.toNat 0 else -1
theorem atZ_in {l : List Int} {i : Nat} (h : i < l.length) : atZ l (i : Int) = l.getD i 0 := by
  unfold atZ; rw [if_pos ⟨by omega, by omega⟩, Int.toNat_natCast]
theorem atZ_out {l : List Int} {i : Int} (h : i < 0 ∨ (l.length : Int) ≤ i) : atZ l i = -1 := by
  unfold atZ; rw [if_neg (by omega)]
theorem tgetZ {w : World} {base b W : Nat} {l : List Nat} (h : TM w base b W l) (i : Int) :
    Calls Try.prog 31 #[.pointer (some ⟨b, 0, none⟩), .int .i64 i] w (IntBelow (atZ (IL l) i) w) := by
  by_cases h0 : i < 0 ∨ (l.length : Int) ≤ i
  · rw [atZ_out (by rw [IL_length]; exact h0)]
    exact (tget_out b l.length i w h.c0 h0).mono fun e w' ⟨he, hw⟩ => ⟨he, by subst hw; exact Below.refl _ _⟩
  · obtain ⟨d, rfl⟩ : ∃ d : Nat, i = (d : Int) := ⟨i.toNat, by omega⟩
    rw [atZ_in (by rw [IL_length]; omega), IL_getD _ _ (by omega)]
    exact tget_any h d (by omega)

set_option maxHeartbeats 1000000 in
theorem refbuild_bad (w : World) (b off : Nat) (n cap W : Nat) (l : List Int) (h1 : 1 ≤ W) (h2 : W ≤ 16) (hl : l.length = n) (hn : n ≤ 131072) (hSl : Sl w (some ⟨b, off, none⟩) (VI l)) (h : ∃ x ∈ l, x < 0 ∨ 2 ^ W ≤ x) :
    Calls Try.prog 33 #[.int .i64 (W : Int), .slice (some ⟨b, off, none⟩) n cap] w fun e w' => e = .returned (.int .i64 1) ∧ w = w' := by
  obtain ⟨m, hm, hbad, hok⟩ := first_bad h
  have hp := pow_small W h2
  have HS := Lib.hid hSl
  have Hok := Lib.hid hok
  have Hl := Lib.hid hl
  rw [hl] at hm
  clear h hSl hok hl
  go_enter Try.func33, Try.ntmps33
  go_wp2
  go_loop [5] (fun i => ∃ k : Nat, k ≤ m ∧ i = .int .i64 (k : Int)) (fun i => n - (intOf i).toNat)
  case atStart => exact ⟨0, Nat.zero_le _, rfl⟩
  case round =>
    obtain ⟨k, hk, rfl⟩ := hrel
    have hcell : w.cell? ⟨b, off + k, none⟩ = some (.int .i64 (l.getD k 0)) := by
      have := HS.out.cell _ rfl k _ (VI_get l k (by rw [Hl.out]; omega))
      rwa [show (⟨b, off, none⟩ : Addr).add k = ⟨b, off + k, none⟩ by unfold Addr.add; split <;> simp_all] at this
    by_cases hkm : k < m
    · obtain ⟨c1, c2⟩ := Hok.out k hkm
      clear hbad
      generalize l.getD k 0 = x at *
      have c3 : ¬ 2 ^ W ≤ x := by omega
      go_wp2
      go_round
      case rel => exact ⟨k + 1, by omega, by go_num⟩
      case measure => simp [intOf]; omega
    · obtain rfl : k = m := by omega
      generalize l.getD k 0 = x at *
      rcases hbad with hbad | hbad
      · go_wp2
        go_ret
        exact ⟨rfl, rfl⟩
      · have h0 : ¬ x < 0 := by
          have : (0 : Int) < 2 ^ W := Int.pow_pos (by decide)
          omega
        go_wp2
        go_ret
        exact ⟨rfl, rfl⟩
set_option maxHeartbeats 1000000 in
theorem refbuild_ok (w : World) (A : Option Addr) (n cap W : Nat) (l : List Nat) (h1 : 1 ≤ W) (h2 : W ≤ 16) (hl : l.length = n) (hn : n ≤ 131072) (hSl : Sl w A (VI (IL l))) (hlt : ∀ x ∈ l, x < 2 ^ W) :
    Calls Try.prog 33 #[.int .i64 (W : Int), .slice A n cap] w fun e w' => e = .returned (.int .i64 0) ∧ w = w' := by
  have hp := pow_small W h2
  have HS := Lib.hid hSl
  have Hlt := Lib.hid hlt
  have Hl := Lib.hid hl
  clear hSl hlt hl
  go_enter Try.func33, Try.ntmps33
  go_wp2
  go_loop [5] (fun i => ∃ k : Nat, k ≤ n ∧ i = .int .i64 (k : Int)) (fun i => n - (intOf i).toNat)
  case atStart => exact ⟨0, Nat.zero_le _, rfl⟩
  case round =>
    obtain ⟨k, hk, rfl⟩ := hrel
    by_cases hkm : k < n
    · obtain ⟨a, rfl, hca⟩ := HS.out.some (j := k) (by rw [VI_length, IL_length, Hl.out]; exact hkm)
      rw [VI_get _ _ (by rw [IL_length, Hl.out]; exact hkm), IL_getD _ _ (by rw [Hl.out]; exact hkm)] at hca
      have hx : l.getD k 0 < 2 ^ W := Hlt.out _ (by
        have h : k < l.length := by rw [Hl.out]; exact hkm
        rw [List.getD_eq_getElem?_getD, List.getElem?_eq_getElem h]; exact List.getElem_mem h)
      have hx2 : ¬ (2 : Int) ^ W ≤ ((l.getD k 0 : Nat) : Int) := by
        have : ((l.getD k 0 : Nat) : Int) < ((2 ^ W : Nat) : Int) := by exact_mod_cast hx
        rw [Int.natCast_pow] at this
        show ¬ ((2 : Nat) : Int) ^ W ≤ _
        omega
      have hx3 : ¬ ((l.getD k 0 : Nat) : Int) < 0 := by omega
      clear hx
      generalize l.getD k 0 = x at *
      go_wp2
      go_round
      case rel => exact ⟨k + 1, by omega, by go_num⟩
      case measure => simp [intOf]; omega
    · obtain rfl : k = n := by omega
      go_wp2
      go_ret
      exact ⟨rfl, rfl⟩
end Go.Proofs.Ytfgkkffgcgjhfaa
