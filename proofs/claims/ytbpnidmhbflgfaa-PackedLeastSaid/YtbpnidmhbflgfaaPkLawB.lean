/- The laws PackedOfNothing, PackedOne, PackedLeast, walked. -/
import Derived.Test.YtbpnidmhbflgfaaPkLawA
namespace Go.Proofs.Ytbpnidmhbflgfaa
set_option linter.unusedVariables false
set_option linter.unusedSimpArgs false
open Go.RowKit PkMath

theorem lawOfNothing (i v : Int) (w : World) :
    Calls Try.prog 5 #[.int .i64 i, .int .u64 v] w (TrueBelow w) := by
  go_enter Try.func5, Try.ntmps5
  go_wp2_with fail
  refine (new_arg 0 1 _ (by omega)).mono ?_
  rintro e w' ⟨rfl, rfl⟩
  go_wp2_with fail
  refine (new_arg 65 1 _ (by omega)).mono ?_
  rintro e w' ⟨rfl, rfl⟩
  go_wp2_with fail
  refine (new_long 1 1048577 _ (by omega) (by omega) (by omega)).mono ?_
  rintro e w' ⟨rfl, rfl⟩
  go_wp2_with fail
  refine (len_nil _).mono ?_
  rintro e w' ⟨rfl, rfl⟩
  go_wp2_with fail
  refine (width_nil _).mono ?_
  rintro e w' ⟨rfl, rfl⟩
  go_wp2_with fail
  refine (words_nil _).mono ?_
  rintro e w' ⟨rfl, rfl⟩
  go_wp2_with fail
  refine (get_nil _ _).mono ?_
  rintro e w' ⟨rfl, m, rfl⟩
  go_wp2_with fail
  refine (set_nil _ _ _).mono ?_
  rintro e w' ⟨rfl, rfl⟩
  go_wp2_with fail
  refine (known_any _).mono ?_
  rintro e w' ⟨rfl, hB⟩
  go_wp2_with fail
  go_ret
  exact ⟨rfl, (below_drewN _ _ _).trans hB⟩

theorem lawOne (A : Option Addr) (n c : Nat) (l : List Nat) (i0 : Int) (x : Nat) (w : World) (h : Arg w A n c l) (hx : x < 2 ^ 64) :
    Calls Try.prog 6 #[.slice A n c, .int .i64 i0, .int .u64 (x : Int)] w (TrueBelow w) := by
  by_cases hbig : 300 < n
  · go_enter Try.func6, Try.ntmps6
    go_wp2_with fail
    go_ret
    exact ⟨rfl, Below.refl _ _⟩
  by_cases hneg : i0 < 0
  · go_enter Try.func6, Try.ntmps6
    go_wp2_with fail
    go_ret
    exact ⟨rfl, Below.refl _ _⟩
  by_cases hout : (n : Int) ≤ i0
  · go_enter Try.func6, Try.ntmps6
    go_wp2_with fail
    go_ret
    exact ⟨rfl, Below.refl _ _⟩
  obtain ⟨i, rfl⟩ : ∃ i : Nat, i0 = (i : Int) := ⟨i0.toNat, by omega⟩
  obtain ⟨hA, hl, hc, hcn, h64⟩ := h
  have Hl := Lib.hid hl
  have HO := Lib.hid h64
  have HX := Lib.hid hx
  clear hl hcn h64 hx
  have hk1 := wid_lo l
  have hk2 := wid_hi l HO.out
  obtain ⟨k, hk⟩ : ∃ k, wid l = k := ⟨_, rfl⟩
  have Hk := Lib.hid hk
  rw [hk] at hk1 hk2
  clear hk
  go_enter Try.func6, Try.ntmps6
  go_wp2_with fail
  refine (pack_any A l n c w hA Hl.out hc (by omega) HO.out).mono ?_
  rw [Hk.out]
  rintro e w1 ⟨b, g, rfl, hP, hbb, hgg, hB⟩
  by_cases hk : k = 64
  · have hf : x < 2 ^ k := by rw [hk]; exact HX.out
    have hk64 : ((k : Int) == 64) = true := by rw [beq_iff_eq]; omega
    have hmin : min k 64 = k := by omega
    have hwrap : IntKind.u64.wrap (k : Int) = (k : Int) := by rw [IntKind.wrap_u64]; omega
    have HF := Lib.hid hf
    clear hf hk
    go_wp2_with fail
    refine (width_cell b k _ hP.c0).mono ?_
    rintro e w' ⟨rfl, rfl⟩
    go_wp2_with fail
    refine (set_in hP i x (by rw [Hl.out]; omega) HF.out).mono ?_
    rintro e w2 ⟨rfl, hP2, hg⟩
    have hB2 : Below w.heap.size w w2 := hB.grown hg hB.size (fun q hq => by injection hq with hq; omega)
    clear hg hP hB hbb hgg
    go_wp2_with fail
    go_loopw [11] (fun t wr => ∃ j m : Nat, j ≤ n ∧ t = .int .i64 (j : Int) ∧ wr = w2.drewN m) (fun t _ => n - (intOf t).toNat)
    case atStart => exact ⟨0, 0, Nat.zero_le _, rfl, rfl⟩
    case round =>
      obtain ⟨j, m, hj, rfl, rfl⟩ := hrel
      by_cases hlt : j < n
      · obtain ⟨a, rfl, hca0⟩ := hA.some (j := j) (by rw [V_length, Hl.out]; exact hlt)
        have hca := (((hA.below hB2).drewN m).cell a rfl j _ (V_get l j (by rw [Hl.out]; exact hlt)))
        clear hca0
        have hget := get_in (hP2.drewN m) j (by rw [List.length_set, Hl.out]; exact hlt)
        rw [getD_set _ _ _ _ (by rw [Hl.out]; omega)] at hget
        by_cases hji : j = i
        · subst hji
          rw [if_pos rfl] at hget
          have HG := Lib.hid hget
          clear hget
          go_wp2_with fail
          refine HG.out.mono ?_
          rintro e w3 ⟨rfl, m3, rfl⟩
          go_wp2_with fail
          go_roundw
          case rel => exact ⟨j + 1, m + m3, by omega, by go_num, by simp⟩
          case measure => simp [intOf]; omega
        · rw [if_neg hji] at hget
          have HG := Lib.hid hget
          have hjb : ((j : Int) == (i : Int)) = false := by rw [beq_eq_false_iff_ne]; omega
          clear hget
          go_wp2_with fail
          refine HG.out.mono ?_
          rintro e w3 ⟨rfl, m3, rfl⟩
          go_wp2_with fail
          go_roundw
          case rel => exact ⟨j + 1, m + m3, by omega, by go_num, by simp⟩
          case measure => simp [intOf]; omega
      · have hP3 := hP2.drewN m
        have hcl : (w2.drewN m).cell? ⟨b, 1, none⟩ = some (.int .i64 (n : Int)) := by rw [hP3.c1, List.length_set, Hl.out]
        go_wp2_with fail
        refine (width_cell b k _ hP3.c0).mono ?_
        rintro e w' ⟨rfl, rfl⟩
        go_wp2_with fail
        refine (len_cell b n _ hcl).mono ?_
        rintro e w' ⟨rfl, rfl⟩
        go_wp2_with fail
        refine (known_any _).mono ?_
        rintro e w4 ⟨rfl, hB4⟩
        go_wp2_with fail
        go_ret
        exact ⟨rfl, below_trans (hB2.trans (below_drewN _ _ m)) hB4⟩
  by_cases hf : x < 2 ^ k
  · skip
    have hx1 : ((x : Int) / 2 ^ k == 0) = true := by rw [shr_zero]; simpa using hf
    have hk64 : ((k : Int) == 64) = false := by rw [beq_eq_false_iff_ne]; omega
    have hmin : min k 64 = k := by omega
    have hwrap : IntKind.u64.wrap (k : Int) = (k : Int) := by rw [IntKind.wrap_u64]; omega
    have HF := Lib.hid hf
    clear hf hk
    go_wp2_with fail
    refine (width_cell b k _ hP.c0).mono ?_
    rintro e w' ⟨rfl, rfl⟩
    go_wp2_with fail
    refine (set_in hP i x (by rw [Hl.out]; omega) HF.out).mono ?_
    rintro e w2 ⟨rfl, hP2, hg⟩
    have hB2 : Below w.heap.size w w2 := hB.grown hg hB.size (fun q hq => by injection hq with hq; omega)
    clear hg hP hB hbb hgg
    go_wp2_with fail
    go_loopw [11] (fun t wr => ∃ j m : Nat, j ≤ n ∧ t = .int .i64 (j : Int) ∧ wr = w2.drewN m) (fun t _ => n - (intOf t).toNat)
    case atStart => exact ⟨0, 0, Nat.zero_le _, rfl, rfl⟩
    case round =>
      obtain ⟨j, m, hj, rfl, rfl⟩ := hrel
      by_cases hlt : j < n
      · obtain ⟨a, rfl, hca0⟩ := hA.some (j := j) (by rw [V_length, Hl.out]; exact hlt)
        have hca := (((hA.below hB2).drewN m).cell a rfl j _ (V_get l j (by rw [Hl.out]; exact hlt)))
        clear hca0
        have hget := get_in (hP2.drewN m) j (by rw [List.length_set, Hl.out]; exact hlt)
        rw [getD_set _ _ _ _ (by rw [Hl.out]; omega)] at hget
        by_cases hji : j = i
        · subst hji
          rw [if_pos rfl] at hget
          have HG := Lib.hid hget
          clear hget
          go_wp2_with fail
          refine HG.out.mono ?_
          rintro e w3 ⟨rfl, m3, rfl⟩
          go_wp2_with fail
          go_roundw
          case rel => exact ⟨j + 1, m + m3, by omega, by go_num, by simp⟩
          case measure => simp [intOf]; omega
        · rw [if_neg hji] at hget
          have HG := Lib.hid hget
          have hjb : ((j : Int) == (i : Int)) = false := by rw [beq_eq_false_iff_ne]; omega
          clear hget
          go_wp2_with fail
          refine HG.out.mono ?_
          rintro e w3 ⟨rfl, m3, rfl⟩
          go_wp2_with fail
          go_roundw
          case rel => exact ⟨j + 1, m + m3, by omega, by go_num, by simp⟩
          case measure => simp [intOf]; omega
      · have hP3 := hP2.drewN m
        have hcl : (w2.drewN m).cell? ⟨b, 1, none⟩ = some (.int .i64 (n : Int)) := by rw [hP3.c1, List.length_set, Hl.out]
        go_wp2_with fail
        refine (width_cell b k _ hP3.c0).mono ?_
        rintro e w' ⟨rfl, rfl⟩
        go_wp2_with fail
        refine (len_cell b n _ hcl).mono ?_
        rintro e w' ⟨rfl, rfl⟩
        go_wp2_with fail
        refine (known_any _).mono ?_
        rintro e w4 ⟨rfl, hB4⟩
        go_wp2_with fail
        go_ret
        exact ⟨rfl, below_trans (hB2.trans (below_drewN _ _ m)) hB4⟩
  · skip
    have hx1 : ((x : Int) / 2 ^ k == 0) = false := by rw [shr_zero]; simpa using hf
    have hk64 : ((k : Int) == 64) = false := by rw [beq_eq_false_iff_ne]; omega
    have hmin : min k 64 = k := by omega
    have hwrap : IntKind.u64.wrap (k : Int) = (k : Int) := by rw [IntKind.wrap_u64]; omega
    have HF := Lib.hid hf
    clear hf hk
    go_wp2_with fail
    refine (width_cell b k _ hP.c0).mono ?_
    rintro e w' ⟨rfl, rfl⟩
    go_wp2_with fail
    refine (set_not hP i x HX.out (.inr (.inr HF.out))).mono ?_
    rintro e w' ⟨rfl, rfl⟩
    go_wp2_with fail
    go_loopw [11] (fun t wr => ∃ j m : Nat, j ≤ n ∧ t = .int .i64 (j : Int) ∧ wr = w1.drewN m) (fun t _ => n - (intOf t).toNat)
    case atStart => exact ⟨0, 0, Nat.zero_le _, rfl, rfl⟩
    case round =>
      obtain ⟨j, m, hj, rfl, rfl⟩ := hrel
      by_cases hlt : j < n
      · obtain ⟨a, rfl, hca0⟩ := hA.some (j := j) (by rw [V_length, Hl.out]; exact hlt)
        have hca := (((hA.below hB).drewN m).cell a rfl j _ (V_get l j (by rw [Hl.out]; exact hlt)))
        clear hca0
        have HG := Lib.hid (get_in (hP.drewN m) j (by rw [Hl.out]; exact hlt))
        by_cases hji : j = i
        all_goals
          have hjb : ((j : Int) == (i : Int)) = decide (j = i) := by rw [Bool.eq_iff_iff, beq_iff_eq, decide_eq_true_eq]; omega
          simp only [hji, decide_true, decide_false] at hjb
          try subst hji
          go_wp2_with fail
          refine HG.out.mono ?_
          rintro e w3 ⟨rfl, m3, rfl⟩
          go_wp2_with fail
          go_roundw
          case rel => exact ⟨j + 1, m + m3, by omega, by go_num, by simp⟩
          case measure => simp [intOf]; omega
      · have hP3 := hP.drewN m
        have hB2 := hB
        have hcl : (w1.drewN m).cell? ⟨b, 1, none⟩ = some (.int .i64 (n : Int)) := by rw [hP3.c1, Hl.out]
        go_wp2_with fail
        refine (width_cell b k _ hP3.c0).mono ?_
        rintro e w' ⟨rfl, rfl⟩
        go_wp2_with fail
        refine (len_cell b n _ hcl).mono ?_
        rintro e w' ⟨rfl, rfl⟩
        go_wp2_with fail
        refine (known_any _).mono ?_
        rintro e w4 ⟨rfl, hB4⟩
        go_wp2_with fail
        go_ret
        exact ⟨rfl, below_trans (hB2.trans (below_drewN _ _ m)) hB4⟩

end Go.Proofs.Ytbpnidmhbflgfaa
