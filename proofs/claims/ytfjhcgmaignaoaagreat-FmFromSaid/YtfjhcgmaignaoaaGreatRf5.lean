/- haystackref5: before, sort, Array. -/
import Derived.Test.YtfjhcgmaignaoaaGreatRfSuf
import Derived.Test.YtfjhcgmaignaoaaGreatFmByKey
namespace Go.Proofs.YtfjhcgmaignaoaaGreat
set_option linter.unusedVariables false
set_option linter.unusedSimpArgs false
set_option maxRecDepth 100000
open Go.RowKit Fm Rank

theorem klt_zero (R : List Nat) (a b : Nat) : decide (klt (rkey R 0 a) (rkey R 0 b)) = decide (R.getD a 0 < R.getD b 0) := by
  rw [Bool.eq_iff_iff]; simp [klt, rkey]
theorem klt_step (R : List Nat) (step a b : Nat) (h : step ≠ 0) : klt (rkey R step a) (rkey R step b) ↔ R.getD a 0 < R.getD b 0 ∨ (R.getD a 0 = R.getD b 0 ∧ (if a + step < R.length then R.getD (a + step) 0 + 1 else 0) < (if b + step < R.length then R.getD (b + step) 0 + 1 else 0)) := by
  simp [klt, rkey, h]

set_option maxHeartbeats 4000000 in
theorem less5_any {w : World} {rb n c : Nat} {R : List Nat} (step a b : Nat) (hR : IB w rb (NI R)) (hl : R.length = n) (ha : a < n) (hb : b < n) (hn : n ≤ 65536) (hs0 : step ≠ 0) (hs : step ≤ 131072) :
    Calls Tryz.prog 110 #[.slice (some ⟨rb, 0, none⟩) n c, .int .i64 (step : Int), .int .i64 (a : Int), .int .i64 (b : Int)] w
      fun e w' => e = .returned (.bool (decide (klt (rkey R step a) (rkey R step b)))) ∧ ∃ q, w' = w.drewN q := by
  have hca := hR.cell (i := a) (by rw [NI_length, hl]; exact ha)
  have hcb := hR.cell (i := b) (by rw [NI_length, hl]; exact hb)
  rw [NI_getD _ _ (by rw [hl]; exact ha)] at hca
  rw [NI_getD _ _ (by rw [hl]; exact hb)] at hcb
  have HK := Lib.hid (klt_step R step a b hs0)
  rw [hl] at HK
  have Hl := Lib.hid hl
  have HR := Lib.hid hR
  have hx := fun (i : Nat) (h : i + step < n) => (show w.cell? ⟨rb, i + step, none⟩ = some (.int .i64 ((R.getD (i + step) 0 : Nat) : Int)) by
    have := hR.cell (i := i + step) (by rw [NI_length, hl]; exact h)
    rwa [NI_getD _ _ (by rw [hl]; exact h)] at this)
  have HX := Lib.hid hx
  clear hR hl hx
  obtain ⟨ra, hra⟩ : ∃ r, R.getD a 0 = r := ⟨_, rfl⟩
  obtain ⟨rb', hrb⟩ : ∃ r, R.getD b 0 = r := ⟨_, rfl⟩
  rw [hra] at hca HK
  rw [hrb] at hcb HK
  obtain ⟨D, hD⟩ : ∃ D, decide (klt (rkey R step a) (rkey R step b)) = D := ⟨_, rfl⟩
  have HD := Lib.hid hD
  rw [hD]
  clear hra hrb hD
  have hd : ∀ (P : Prop) [Decidable P], (klt (rkey R step a) (rkey R step b) ↔ P) → decide P = D := fun P _ h => by rw [← HD.out]; exact (decide_eq_decide.2 h).symm
  have Hd := Lib.hid hd
  clear hd
  by_cases h1 : ra = rb'
  · subst h1
    by_cases h2 : a + step < n <;> by_cases h3 : b + step < n
    · have c2 := HX.out a h2
      have c3 := HX.out b h3
      have HK2 := Lib.hid (Hd.out _ HK.out)
      rw [if_pos h2, if_pos h3] at HK2
      generalize R.getD (a + step) 0 = xa at *
      generalize R.getD (b + step) 0 = xb at *
      have h2i : (a : Int) + (step : Int) < (n : Int) := by omega
      have h3i : (b : Int) + (step : Int) < (n : Int) := by omega
      go_enter Tryz.func110, Tryz.ntmps110
      go_wp2_with fail
      go_quiet (fail)
      go_wp2_with fail
      go_ret
      exact ⟨ret_bool (by rw [← HK2.out]; simp), _, rfl⟩
    · have c2 := HX.out a h2
      have HK2 := Lib.hid (Hd.out _ HK.out)
      rw [if_pos h2, if_neg h3] at HK2
      generalize R.getD (a + step) 0 = xa at *
      have h2i : (a : Int) + (step : Int) < (n : Int) := by omega
      have h3i : ¬ (b : Int) + (step : Int) < (n : Int) := by omega
      go_enter Tryz.func110, Tryz.ntmps110
      go_wp2_with fail
      go_quiet (fail)
      go_wp2_with fail
      go_ret
      exact ⟨ret_bool (by rw [← HK2.out]; simp <;> omega), _, rfl⟩
    · have c3 := HX.out b h3
      have HK2 := Lib.hid (Hd.out _ HK.out)
      rw [if_neg h2, if_pos h3] at HK2
      generalize R.getD (b + step) 0 = xb at *
      have h2i : ¬ (a : Int) + (step : Int) < (n : Int) := by omega
      have h3i : (b : Int) + (step : Int) < (n : Int) := by omega
      go_enter Tryz.func110, Tryz.ntmps110
      go_wp2_with fail
      go_quiet (fail)
      go_wp2_with fail
      go_ret
      exact ⟨ret_bool (by rw [← HK2.out]; simp <;> omega), _, rfl⟩
    · have HK2 := Lib.hid (Hd.out _ HK.out)
      rw [if_neg h2, if_neg h3] at HK2
      have h2i : ¬ (a : Int) + (step : Int) < (n : Int) := by omega
      have h3i : ¬ (b : Int) + (step : Int) < (n : Int) := by omega
      go_enter Tryz.func110, Tryz.ntmps110
      go_wp2_with fail
      go_quiet (fail)
      go_wp2_with fail
      go_ret
      exact ⟨ret_bool (by rw [← HK2.out]; simp), _, rfl⟩
  · have h1i : ¬ (ra : Int) = (rb' : Int) := by omega
    have HK2 := Lib.hid (Hd.out (ra < rb') (HK.out.trans ⟨fun h => h.elim id fun h => absurd h.1 h1, .inl⟩))
    go_enter Tryz.func110, Tryz.ntmps110
    go_wp2_with fail
    go_quiet (fail)
    go_wp2_with fail
    go_quiet (fail)
    go_wp2_with fail
    go_ret
    exact ⟨ret_bool HK2.out, _, World.drewN_drewN ..⟩
set_option maxHeartbeats 4000000 in
theorem before5_any {w : World} {rb n c : Nat} {R : List Nat} (step a b : Nat) (hR : IB w rb (NI R)) (hl : R.length = n) (ha : a < n) (hb : b < n) (hn : n ≤ 65536) (hs : step ≤ 131072) :
    Calls Tryz.prog 90 #[.slice (some ⟨rb, 0, none⟩) n c, .int .i64 (step : Int), .int .i64 (a : Int), .int .i64 (b : Int)] w
      fun e w' => e = .returned (.bool (decide (klt (rkey R step a) (rkey R step b)))) ∧ ∃ q, w' = w.drewN q := by
  by_cases hs0 : step = 0
  · subst hs0
    have hca := hR.cell (i := a) (by rw [NI_length, hl]; exact ha)
    have hcb := hR.cell (i := b) (by rw [NI_length, hl]; exact hb)
    rw [NI_getD _ _ (by rw [hl]; exact ha)] at hca
    rw [NI_getD _ _ (by rw [hl]; exact hb)] at hcb
    rw [klt_zero]
    clear hR hl
    generalize R.getD a 0 = ra at *
    generalize R.getD b 0 = rb' at *
    go_enter Tryz.func90, Tryz.ntmps90
    go_wp2_with fail
    go_quiet (fail)
    go_wp2_with fail
    go_ret
    exact ⟨ret_bool (by simp), _, rfl⟩
  · have HL := Lib.hid (less5_any (w := w) (rb := rb) (c := c) step a b hR hl ha hb hn hs0 hs)
    have e1 : ((step : Int) == 0) = false := by rw [beq_eq_false_iff_ne]; omega
    have e2 : (step == 0) = false := by rw [beq_eq_false_iff_ne]; omega
    clear hR
    go_enter Tryz.func90, Tryz.ntmps90
    go_wp2_with fail
    go_at_call 110
    refine HL.out.mono ?_
    rintro e w' ⟨rfl, q, rfl⟩
    go_wp2_with fail
    go_ret
    exact ⟨rfl, q, rfl⟩
end Go.Proofs.YtfjhcgmaignaoaaGreat
