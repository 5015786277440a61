/- wavelet: Select, in all; of a nil Tree; All. -/
import Derived.Test.YtfgkkffgcgjhfaaWvSel
namespace Go.Proofs.Ytfgkkffgcgjhfaa
set_option linter.unusedVariables false
set_option linter.unusedSimpArgs false
open Go.RowKit PkMath Pop Rank BtMath Wv

theorem tsel_neg (P : Option Addr) (c k : Int) (hk : k < 0) (w : World) :
    Calls Try.prog 29 #[.pointer P, .int .i64 c, .int .i64 k] w (IntBelow (-1) w) := by
  go_enter Try.func29, Try.ntmps29
  go_wp2_with fail
  go_ret
  exact ⟨rfl, Below.refl _ _⟩
theorem tsel_none (b n : Nat) (c k : Int) (R : Nat) (w : World) (h0 : w.cell? ⟨b, 0, none⟩ = some (.int .i64 (n : Int))) (hk0 : 0 ≤ k) (hR : Calls Try.prog 27 #[.pointer (some ⟨b, 0, none⟩), .int .i64 c, .int .i64 (n : Int)] w (IntBelow ((R : Nat) : Int) w)) (hk : (R : Int) ≤ k) :
    Calls Try.prog 29 #[.pointer (some ⟨b, 0, none⟩), .int .i64 c, .int .i64 k] w (IntBelow (-1) w) := by
  have HL := Lib.hid (tlen_cell b n w h0)
  have HR := Lib.hid hR
  clear hR
  go_enter Try.func29, Try.ntmps29
  go_wp2_with fail
  go_at_call 32
  refine HL.out.mono ?_
  rintro e w' ⟨rfl, rfl⟩
  go_wp2_with fail
  go_at_call 27
  refine HR.out.mono ?_
  rintro e w1 ⟨rfl, hB1⟩
  go_wp2_with fail
  go_ret
  exact ⟨rfl, hB1⟩
/-- the place of the k-th c, or -1, of any ints -/
def slN (l : List Nat) (c k : Int) : Int := if k < 0 ∨ c < 0 then -1 else match sl l c.toNat k.toNat with
  | some p => (p : Int)
  | none => -1
theorem tsel_any {w : World} {base b W : Nat} {l : List Nat} (h : TM w base b W l) (c k : Int) :
    Calls Try.prog 29 #[.pointer (some ⟨b, 0, none⟩), .int .i64 c, .int .i64 k] w (IntBelow (slN l c k) w) := by
  by_cases hk : k < 0
  · rw [show slN l c k = -1 by unfold slN; rw [if_pos (.inl hk)]]
    exact tsel_neg _ c k hk w
  obtain ⟨q, rfl⟩ : ∃ q : Nat, k = (q : Int) := ⟨k.toNat, by omega⟩
  by_cases hc : c < 0
  · rw [show slN l c (q : Int) = -1 by unfold slN; rw [if_pos (.inr hc)]]
    exact tsel_none b l.length c q 0 w h.c0 (by omega) (trank_out h c (.inl hc) _) (by omega)
  obtain ⟨d, rfl⟩ : ∃ d : Nat, c = (d : Int) := ⟨c.toNat, by omega⟩
  have e : slN l (d : Int) (q : Int) = match sl l d q with
    | some p => (p : Int)
    | none => -1 := by
    unfold slN; rw [if_neg (by omega), Int.toNat_natCast, Int.toNat_natCast]
  rw [e]
  cases hs : sl l d q with
  | some p =>
    obtain ⟨hp, hpc, hr⟩ := sl_some.1 hs
    exact tsel_some h p hp d q (by simp [List.getD, List.getElem?_eq_getElem hp, hpc]) hr
  | none =>
    have hr := sl_none.1 hs
    by_cases hd : d < 2 ^ W
    · have hR := trank_any h d hd (l.length : Int)
      rw [Int.toNat_natCast] at hR
      exact tsel_none b l.length d q _ w h.c0 (by omega) hR (by omega)
    · refine tsel_none b l.length d q 0 w h.c0 (by omega) (trank_out h d (.inr ?_) _) (by omega)
      have h3 : ((2 ^ W : Nat) : Int) ≤ (d : Int) := by exact_mod_cast Nat.not_lt.1 hd
      rwa [Int.natCast_pow] at h3

theorem tget_nil (i : Int) (w : World) : Calls Try.prog 31 #[.pointer none, .int .i64 i] w fun e w' => e = .returned (.int .i64 (-1)) ∧ w = w' := by
  by_cases h0 : i < 0
  all_goals
    go_enter Try.func31, Try.ntmps31
    go_wp2_with (go_at_call 32; refine (tlen_nil _).mono ?_; rintro e w' ⟨rfl, rfl⟩)
    go_ret
    exact ⟨rfl, rfl⟩
theorem trank_nil (c i : Int) (w : World) : Calls Try.prog 27 #[.pointer none, .int .i64 c, .int .i64 i] w fun e w' => e = .returned (.int .i64 0) ∧ w = w' := by
  go_enter Try.func27, Try.ntmps27
  go_wp2_with (go_at_call 49; refine (isSym_nil _ _).mono ?_; rintro e w' ⟨rfl, rfl⟩)
  go_ret
  exact ⟨rfl, rfl⟩
theorem tsel_nil (c k : Int) (w : World) : Calls Try.prog 29 #[.pointer none, .int .i64 c, .int .i64 k] w (IntBelow (-1) w) := by
  by_cases hk : k < 0
  · exact tsel_neg _ c k hk w
  · go_enter Try.func29, Try.ntmps29
    go_wp2_with fail
    go_at_call 32
    refine (tlen_nil _).mono ?_
    rintro e w' ⟨rfl, rfl⟩
    go_wp2_with fail
    go_at_call 27
    refine (trank_nil _ _ _).mono ?_
    rintro e w' ⟨rfl, rfl⟩
    go_wp2_with fail
    go_ret
    exact ⟨rfl, Below.refl _ _⟩
end Go.Proofs.Ytfgkkffgcgjhfaa
