/- bits: Rank at every place, Ones, Select; sort.Search. -/
import Derived.Test.YtfgkkffgcgjhfaaBtWalkA
namespace Go.Proofs.Ytfgkkffgcgjhfaa
set_option linter.unusedVariables false
set_option linter.unusedSimpArgs false
open Go.RowKit PkMath Pop Rank BtMath

theorem rank_low {w : World} {base b : Nat} {l : List Bool} (h : BVec w base b l) (c : Bool) (i : Int) (hi : i ≤ 0 ∨ l.length = 0) :
    Calls Try.prog 19 #[.pointer (some ⟨b, 0, none⟩), .bool c, .int .i64 i] w fun e w' => e = .returned (.int .i64 0) ∧ ∃ n, w' = w.drewN n := by
  have hc0 := h.c0
  generalize l.length = n at *
  by_cases h1 : i < 0
  · clear hi
    by_cases hn : n = 0
    all_goals
      go_enter Try.func19, Try.ntmps19
      go_wp2_with (go_at_call 24; refine (blen_cell _ _ _ hc0).mono ?_; rintro e w' ⟨rfl, rfl⟩)
      go_ret
      exact ⟨rfl, 0, rfl⟩
  · by_cases h2 : i = 0
    · subst h2
      clear hi
      by_cases hn : 0 < n
      · go_enter Try.func19, Try.ntmps19
        go_wp2_with (go_at_call 24; refine (blen_cell _ _ _ hc0).mono ?_; rintro e w' ⟨rfl, rfl⟩)
        go_ret
        exact ⟨rfl, 0, rfl⟩
      · obtain rfl : n = 0 := by omega
        go_enter Try.func19, Try.ntmps19
        go_wp2_with (go_at_call 24; refine (blen_cell _ _ _ hc0).mono ?_; rintro e w' ⟨rfl, rfl⟩)
        go_ret
        exact ⟨rfl, 0, rfl⟩
    · obtain rfl : n = 0 := by omega
      have h3 : 0 < i := by omega
      clear hi h1 h2
      go_enter Try.func19, Try.ntmps19
      go_wp2_with (go_at_call 24; refine (blen_cell _ _ _ hc0).mono ?_; rintro e w' ⟨rfl, rfl⟩)
      go_ret
      exact ⟨rfl, 0, rfl⟩
/-- Rank -/
theorem rank_any {w : World} {base b : Nat} {l : List Bool} (h : BVec w base b l) (c : Bool) (i : Int) :
    Calls Try.prog 19 #[.pointer (some ⟨b, 0, none⟩), .bool c, .int .i64 i] w fun e w' => e = .returned (.int .i64 ((rk l c i.toNat : Nat) : Int)) ∧ ∃ n, w' = w.drewN n := by
  by_cases hlow : i ≤ 0 ∨ l.length = 0
  · refine (rank_low h c i hlow).mono fun e w' ⟨he, hw⟩ => ⟨?_, hw⟩
    rw [he]
    refine ret_int ?_
    rcases hlow with h1 | h1
    · rw [show i.toNat = 0 by omega, rk_zero]; rfl
    · rw [rk_big l c i.toNat (by omega), h1, rk_zero]; rfl
  · obtain ⟨j, rfl⟩ : ∃ j : Nat, i = (j : Int) := ⟨i.toNat, by omega⟩
    by_cases hj : j < l.length
    · exact rank_at h c (j : Int) j (by omega) (by omega) (.inl ⟨rfl, hj⟩)
    · have := rank_at h c (j : Int) l.length (by omega) (Nat.le_refl _) (.inr ⟨by omega, rfl⟩)
      rw [Int.toNat_natCast, rk_big l c j (by omega)]
      exact this
theorem bones_nil (w : World) : Calls Try.prog 17 #[.pointer none] w fun e w' => e = .returned (.int .i64 0) ∧ w = w' := by
  go_enter Try.func17, Try.ntmps17
  go_wp2_with fail
  refine (blen_nil _).mono ?_
  rintro e w' ⟨rfl, rfl⟩
  go_wp2_with fail
  refine (rank_nil _ _ _).mono ?_
  rintro e w' ⟨rfl, rfl⟩
  go_wp2_with fail
  go_ret
  exact ⟨rfl, rfl⟩
theorem bones_any {w : World} {base b : Nat} {l : List Bool} (h : BVec w base b l) :
    Calls Try.prog 17 #[.pointer (some ⟨b, 0, none⟩)] w fun e w' => e = .returned (.int .i64 ((rk l true l.length : Nat) : Int)) ∧ ∃ n, w' = w.drewN n := by
  have hR := rank_any h true (l.length : Int)
  rw [Int.toNat_natCast] at hR
  have HR := Lib.hid hR
  clear hR
  go_enter Try.func17, Try.ntmps17
  go_wp2_with fail
  refine (blen_cell _ _ _ h.c0).mono ?_
  rintro e w' ⟨rfl, rfl⟩
  go_wp2_with fail
  refine HR.out.mono ?_
  rintro e w' ⟨rfl, m, rfl⟩
  go_wp2_with fail
  go_ret
  exact ⟨rfl, m, rfl⟩

/-- the test that Select searches by -/
theorem sel_test {w : World} {base b : Nat} {l : List Bool} (h : BVec w base b l) (c : Bool) (k : Nat) (B : Nat) (i : Nat) (hi : i ≤ 1048576)
    (h1 : w.cell? ⟨B, 0, none⟩ = some (.pointer (some ⟨b, 0, none⟩))) (h2 : w.cell? ⟨B + 1, 0, none⟩ = some (.bool c)) (h3 : w.cell? ⟨B + 2, 0, none⟩ = some (.int .i64 (k : Int))) :
    Calls Try.prog 43 #[.int .i64 (i : Int), .pointer (some ⟨B, 0, none⟩), .pointer (some ⟨B + 1, 0, none⟩), .pointer (some ⟨B + 2, 0, none⟩)] w fun e w' => e = .returned (.bool (decide (k < rk l c (i + 1)))) ∧ ∃ n, w' = w.drewN n := by
  have hR : ∀ q, Calls Try.prog 19 #[.pointer (some ⟨b, 0, none⟩), .bool c, .int .i64 ((i : Int) + 1)] (w.drewN q) fun e w' => e = .returned (.int .i64 ((rk l c (i + 1) : Nat) : Int)) ∧ ∃ n, w' = (w.drewN q).drewN n := fun q => by
    have := rank_any (h.drewN q) c ((i : Int) + 1)
    rw [show ((i : Int) + 1).toNat = i + 1 by omega] at this
    exact this
  have HR := Lib.hid hR
  clear hR
  have e1 : IntKind.i64.wrap ((i : Int) + 1) = (i : Int) + 1 := IntWalk.i64_in _ (by omega)
  go_enter Try.func43, Try.ntmps43
  go_wp2_with fail
  go_quiet ((go_at_call 19; exact Calls.quiet_of (HR.out _)))
  go_wp2_with fail
  go_ret
  exact ⟨ret_bool (by simp), _, rfl⟩

/-- sort.Search, over that test -/
theorem search_any {w : World} {base b : Nat} {l : List Bool} (h : BVec w base b l) (c : Bool) (k : Nat) (B : Nat) (n : Nat) (hn : l.length = n)
    (h1 : w.cell? ⟨B, 0, none⟩ = some (.pointer (some ⟨b, 0, none⟩))) (h2 : w.cell? ⟨B + 1, 0, none⟩ = some (.bool c)) (h3 : w.cell? ⟨B + 2, 0, none⟩ = some (.int .i64 (k : Int))) (hk : k < rk l c n) :
    Calls Try.prog 42 #[.int .i64 (n : Int), .func (.func 43) #[] #[.pointer (some ⟨B, 0, none⟩), .pointer (some ⟨B + 1, 0, none⟩), .pointer (some ⟨B + 2, 0, none⟩)]] w
      fun e w' => (∃ p : Nat, e = .returned (.int .i64 (p : Int)) ∧ sl l c k = some p) ∧ ∃ n, w' = w.drewN n := by
  have hlen := h.len
  rw [hn] at hlen
  have Hn := Lib.hid hn
  have Hk := Lib.hid hk
  clear hn hk
  go_enter Try.func42, Try.ntmps42
  go_wp2_with fail
  go_loopw [5, 6] (fun i j wr => ∃ a z m : Nat, a ≤ z ∧ z ≤ n ∧ i = .int .i64 (a : Int) ∧ j = .int .i64 (z : Int) ∧ wr = w.drewN m ∧ Hid ((∀ q, q < a → rk l c (q + 1) ≤ k) ∧ (z = n ∨ k < rk l c (z + 1)))) (fun i j _ => (intOf j - intOf i).toNat)
  case atStart => exact ⟨0, n, 0, Nat.zero_le _, Nat.le_refl _, rfl, rfl, rfl, fun q hq => absurd hq (Nat.not_lt_zero _), .inl rfl⟩
  case round =>
    obtain ⟨a, z, m, haz, hzn, rfl, rfl, rfl, hinv⟩ := hrel
    by_cases hlt : a < z
    · have e1 : ((a : Int) + (z : Int)) / 2 = (((a + z) / 2 : Nat) : Int) := by omega
      have hT := sel_test (h.drewN m) c k B ((a + z) / 2) (by omega) h1 h2 h3
      have HT := Lib.hid hT
      clear hT
      obtain ⟨y, hy⟩ : ∃ y, (a + z) / 2 = y := ⟨_, rfl⟩
      have hay : a ≤ y := by omega
      have hyz : y < z := by omega
      have Hy := Lib.hid hy
      rw [hy] at e1 HT
      clear hy
      go_wp2_with fail
      refine HT.out.mono ?_
      by_cases ht : k < rk l c (y + 1)
      · have hd : decide (k < rk l c (y + 1)) = true := by simpa using ht
        rw [hd]
        have Ht := Lib.hid ht
        clear ht hd
        rintro e w' ⟨rfl, m', rfl⟩
        go_wp2_with fail
        go_roundw
        case rel => exact ⟨a, y, m + m', by omega, by omega, rfl, rfl, by simp, hinv.out.1, .inr Ht.out⟩
        case measure => simp [intOf]; omega
      · have hd : decide (k < rk l c (y + 1)) = false := by simpa using ht
        rw [hd]
        have Ht := Lib.hid ht
        clear ht hd
        rintro e w' ⟨rfl, m', rfl⟩
        go_wp2_with fail
        go_roundw
        case rel => exact ⟨y + 1, z, m + m', by omega, by omega, by go_num, rfl, by simp, fun q hq => by have := rk_mono l c (show q + 1 ≤ y + 1 by omega); have := Ht.out; omega, hinv.out.2⟩
        case measure => simp [intOf]; omega
    · obtain rfl : a = z := by omega
      go_wp2_with fail
      go_ret
      refine ⟨⟨a, rfl, ?_⟩, m, rfl⟩
      have hka : k < rk l c (a + 1) := by
        rcases hinv.out.2 with e | e
        · have h5 := Hk.out
          rw [e]
          exact Nat.lt_of_lt_of_le h5 (rk_mono l c (by omega))
        · exact e
      have han : a < l.length := by
        by_cases e : a < l.length
        · exact e
        · have h5 := Hn.out
          have h7 := rk_big l c (a + 1) (by omega)
          rw [h5] at h7
          by_cases e0 : n = 0
          · rw [h7, e0, rk_zero] at hka; omega
          · have h6 := hinv.out.1 (n - 1) (by omega)
            rw [Nat.sub_add_cancel (by omega)] at h6
            omega
      rw [sl_some]
      have hs := rk_succ l c a han
      have hle : rk l c a ≤ k := by
        cases a with
        | zero => rw [rk_zero]; omega
        | succ q => exact hinv.out.1 q (by omega)
      by_cases e : l[a] = c
      · rw [if_pos e] at hs
        exact ⟨han, e, by omega⟩
      · rw [if_neg e] at hs
        omega

end Go.Proofs.Ytfgkkffgcgjhfaa
