/- The law PackedLeast, walked. -/
import Derived.Test.YtbpnidmhbflgfaaPkFrom
namespace Go.Proofs.Ytbpnidmhbflgfaa
set_option linter.unusedVariables false
set_option linter.unusedSimpArgs false
open Go.RowKit PkMath

/-- From: any words without a bit behind the numbers -/
theorem from_ok (k n m : Nat) (A : Option Addr) (c : Nat) (W : List Nat) (w : World) (hA : Sl w A (V W)) (h1 : 1 ≤ k) (h2 : k ≤ 64) (h3 : n ≤ 1048576) (hl : W.length = (k * n + 63) / 64) (hm : W.length = m)
    (hW : ∀ x ∈ W, x < 2 ^ 64) (hz : ∀ p, k * n ≤ p → p < 64 * W.length → bt W p = false) :
    Calls Try.prog 21 #[.int .i64 (k : Int), .int .i64 (n : Int), .slice A m c] w (MadeOk k (dec k n W) w) := by
  by_cases hn : n = 0
  · subst hn
    have hm0 : m = 0 := by rw [← hm, hl]; omega
    subst hm0
    have : dec k 0 W = [] := by simp [dec, decTo]
    rw [this]
    exact from_zero k A c w h1 h2
  · have hpos : 1 ≤ k * n := Nat.mul_pos h1 (by omega)
    obtain ⟨L, hL⟩ : ∃ L, (k * n + 63) / 64 = L + 1 := ⟨(k * n + 63) / 64 - 1, by omega⟩
    have hmL : m = L + 1 := by rw [← hm, hl, hL]
    subst hmL
    by_cases hr : k * n % 64 = 0
    · exact from_full k n (k * n) L A c W w hA h1 h2 h3 rfl hL hm hr hW
    · refine from_part k n (k * n) L A c W w hA h1 h2 h3 rfl hL hm (by omega) ?_ hW
      have := (spare_iff hl hW (by omega)).2 hz
      rw [hm] at this
      exact this
theorem canon_spare (k : Nat) (l : List Nat) : ∀ p, k * l.length ≤ p → p < 64 * (canon k l).length → bt (canon k l) p = false := by
  intro p h1 _
  rw [bt_canon]
  have : ¬ p < k * l.length := by omega
  simp [this]

/-- the greatest of the first j numbers -/
def topTo (l : List Nat) (j : Nat) : Nat := (l.take j).foldr max 0
theorem top_snoc (l : List Nat) (x : Nat) : (l ++ [x]).foldr max 0 = max (l.foldr max 0) x := by
  induction l with
  | nil => simp
  | cons a r ih => simp only [List.cons_append, List.foldr_cons, ih]; omega
theorem topTo_succ (l : List Nat) (j : Nat) (h : j < l.length) : topTo l (j + 1) = max (topTo l j) (l.getD j 0) := by
  unfold topTo
  rw [List.take_succ_eq_append_getElem h, top_snoc]
  simp [List.getD, List.getElem?_eq_getElem h]
theorem topTo_zero (l : List Nat) : topTo l 0 = 0 := by simp [topTo]
theorem top_lt (l : List Nat) (q : Nat) (hq : 0 < q) : l.foldr max 0 < q ↔ ∀ x ∈ l, x < q := by
  induction l with
  | nil => simp [hq]
  | cons a r ih => simp only [List.foldr_cons, List.mem_cons, forall_eq_or_imp, ← ih]; omega
theorem topTo_lt (l : List Nat) (j : Nat) (h : ∀ x ∈ l, x < 2 ^ 64) : topTo l j < 2 ^ 64 := (top_lt _ _ (Nat.two_pow_pos _)).2 fun x hx => h x (List.mem_of_mem_take hx)
theorem wid_le (l : List Nat) (q : Nat) (hq : 1 ≤ q) (h : ∀ x ∈ l, x < 2 ^ 64) : wid l ≤ q ↔ l.foldr max 0 < 2 ^ q := by
  induction l with
  | nil => simp [wid, hq, Nat.two_pow_pos]
  | cons a r ih =>
    have h1 := bitLen_le q a (h a (List.mem_cons_self ..))
    have h2 := ih fun x hx => h x (List.mem_cons_of_mem _ hx)
    simp only [wid, List.foldr_cons]
    omega
theorem topTo_all (l : List Nat) : topTo l l.length = l.foldr max 0 := by simp [topTo]
theorem wid_top {l : List Nat} {q : Nat} (h : ∀ x ∈ l, x < 2 ^ 64) (h1 : 1 ≤ q) (h2 : q = 64 ∨ topTo l l.length < 2 ^ q) (h2' : q ≤ 64) (h3 : q = 1 ∨ ¬ topTo l l.length < 2 ^ (q - 1)) : q = wid l := by
  rw [topTo_all] at h2 h3
  have a1 : wid l ≤ q := by
    rcases h2 with h2 | h2
    · rw [h2]; exact wid_hi l h
    · exact (wid_le l q h1 h).2 h2
  rcases h3 with h3 | h3
  · have := wid_lo l; omega
  · by_cases hq : q = 1
    · have := wid_lo l; omega
    · have : ¬ wid l ≤ q - 1 := fun hh => h3 ((wid_le l (q - 1) (by omega) h).1 hh)
      omega

theorem lawLeast (A : Option Addr) (n c : Nat) (l : List Nat) (w : World) (h : Arg w A n c l) :
    Calls Try.prog 8 #[.slice A n c] w (TrueBelow w) := by
  by_cases hbig : 300 < n
  · go_enter Try.func8, Try.ntmps8
    go_wp2_with fail
    go_ret
    exact ⟨rfl, Below.refl _ _⟩
  obtain ⟨hA, hl, hc, hcn, h64⟩ := h
  have Hl := Lib.hid hl
  have HO := Lib.hid h64
  clear hl hcn h64
  have hk1 := wid_lo l
  have hk2 := wid_hi l HO.out
  obtain ⟨k, hk⟩ : ∃ k, wid l = k := ⟨_, rfl⟩
  have Hk := Lib.hid hk
  rw [hk] at hk1 hk2
  clear hk
  go_enter Try.func8, Try.ntmps8
  go_wp2_with fail
  refine (pack_any A l n c w hA Hl.out hc (by omega) HO.out).mono ?_
  rw [Hk.out]
  rintro e w1 ⟨b, g, rfl, hP, hbb, hgg, hB⟩
  have hc1 := hP.c1
  rw [Hl.out] at hc1
  go_wp2_with fail
  refine (len_cell b n _ hc1).mono ?_
  rintro e w' ⟨rfl, rfl⟩
  go_wp2_with fail
  go_loopw [4, 5] (fun t i wr => ∃ j m : Nat, j ≤ n ∧ i = .int .i64 (j : Int) ∧ t = .int .u64 ((topTo l j : Nat) : Int) ∧ wr = w1.drewN m) (fun _ i _ => n - (intOf i).toNat)
  case atStart => exact ⟨0, 0, Nat.zero_le _, rfl, by rw [topTo_zero]; rfl, rfl⟩
  case round =>
    obtain ⟨j, m, hj, rfl, rfl, rfl⟩ := hrel
    by_cases hlt : j < n
    · obtain ⟨a, rfl, hca0⟩ := hA.some (j := j) (by rw [V_length, Hl.out]; exact hlt)
      have hca := (((hA.below hB).drewN m).cell a rfl j _ (V_get l j (by rw [Hl.out]; exact hlt)))
      clear hca0
      have hsucc := Lib.hid (topTo_succ l j (by rw [Hl.out]; exact hlt))
      have hP2 := hP.drewN m
      have HG : ∀ q, Calls Try.prog 20 #[.pointer (some ⟨b, 0, none⟩), .int .i64 (j : Int)] ((w1.drewN m).drewN q) fun e w' => e = .returned (.int .u64 ((l.getD j 0 : Nat) : Int)) ∧ ∃ n, w' = ((w1.drewN m).drewN q).drewN n := fun q =>
        get_in (hP2.drewN q) j (by rw [Hl.out]; exact hlt)
      have HG2 := Lib.hid HG
      clear HG
      generalize hx : l.getD j 0 = x at *
      clear hx
      obtain ⟨w2, hw2⟩ : ∃ w2, w1.drewN m = w2 := ⟨_, rfl⟩
      have HW := Lib.hid hw2
      rw [hw2] at hca HG2 ⊢
      clear hw2 hP2
      go_wp2_with fail
      go_quiet ((go_at_call 20; exact Calls.quiet_of (HG2.out _)))
      go_wp2_with fail
      go_roundw
      case rel => exact ⟨j + 1, m + nq, by omega, by go_num, by rw [hsucc.out]; go_num, by rw [← HW.out]; simp⟩
      case measure => simp [intOf]; omega
    · obtain rfl : j = n := by omega
      have ht := Lib.hid (topTo_lt l j HO.out)
      have HT : Hid (topTo l l.length = topTo l j) := by rw [Hl.out]; rfl
      generalize topTo l j = t at *
      have hB1 : Below w.heap.size w (w1.drewN m) := hB.trans (below_drewN _ _ _)
      have hP1 := hP.drewN m
      clear hB hP hc1 hbb hgg
      generalize w1.drewN m = w2 at *
      go_wp2_with fail
      go_loop [6] (fun v => ∃ q : Nat, 1 ≤ q ∧ q ≤ 64 ∧ v = .int .i64 (q : Int) ∧ Hid (q = 1 ∨ ¬ t < 2 ^ (q - 1))) (fun v => 64 - (intOf v).toNat)
      case atStart => exact ⟨1, by omega, by omega, rfl, .inl rfl⟩
      case round =>
        obtain ⟨q, hq1, hq2, rfl, hq3⟩ := hrel
        by_cases hgo : q < 64 ∧ ¬ t < 2 ^ q
        · obtain ⟨hlt2, hnf⟩ := hgo
          have hsh : decide ((0 : Int) < (t : Int) / 2 ^ q) = true := by
            rw [shr_nat, decide_eq_true_eq]
            have : 0 < t / 2 ^ q := Nat.div_pos (by omega) (Nat.two_pow_pos _)
            omega
          have hmin : min q 64 = q := by omega
          have HN := Lib.hid hnf
          clear hnf
          go_wp2_with fail
          go_round
          case rel => exact ⟨q + 1, by omega, by omega, by go_num, .inr HN.out⟩
          case measure => simp [intOf]; omega
        · have hqw : q = k := by
            rw [← Hk.out]
            refine wid_top HO.out hq1 ?_ hq2 (by rw [HT.out]; exact hq3.out)
            rw [HT.out]
            by_cases hh : q = 64
            · exact .inl hh
            · by_cases h2 : t < 2 ^ q
              · exact .inr h2
              · exact absurd ⟨by omega, h2⟩ hgo
          subst hqw
          have hsh : q < 64 → decide ((0 : Int) < (t : Int) / 2 ^ q) = false := fun hlt2 => by
            have h2 : t < 2 ^ q := by
              by_cases h2 : t < 2 ^ q
              · exact h2
              · exact absurd ⟨hlt2, h2⟩ hgo
            rw [shr_nat, decide_eq_false_iff_not, Nat.div_eq_of_lt h2]
            decide
          have hmin : min q 64 = q := by omega
          clear hgo
          by_cases hlt2 : q < 64
          all_goals
            try (have hsh2 := hsh hlt2)
            clear hsh
            go_wp2_with fail
            refine (width_cell b q _ hP1.c0).mono ?_
            rintro e w' ⟨rfl, rfl⟩
            go_wp2_with fail
            refine (words_in hP1).mono ?_
            rintro e w3 ⟨v, rfl, hown, hB3⟩
            obtain ⟨A3, c3, rfl, hs3, _, _⟩ := own_sl hown
            clear hown
            have hP3 := hP1.below hB3
            have hB4 := below_trans hB1 hB3
            clear hB3
            go_wp2_with fail
            refine (from_ok q j _ A3 c3 (canon q l) w3 hs3 hk1 hk2 (by omega) (by rw [canon_length, Hl.out]) rfl (canon_ok _ _) (by have := canon_spare q l; rw [Hl.out] at this; exact this)).mono ?_
            rintro e w4 ⟨b4, g4, rfl, hP4, _, _, hB5⟩
            have hcd : canon q (dec q j (canon q l)) = canon q l := canon_dec hk1 (by rw [canon_length, Hl.out]) (canon_ok _ _) (by have := canon_spare q l; rw [Hl.out] at this; exact this)
            have HCD := Lib.hid hcd
            clear hcd
            have hP5 := hP3.below hB5
            have hB6 := below_trans hB4 hB5
            clear hB4 hB5 hP3 hP1 hs3
            go_wp2_with fail
            refine (width_cell b q _ hP5.c0).mono ?_
            rintro e w' ⟨rfl, rfl⟩
            go_wp2_with fail
            refine (words_in hP4).mono ?_
            rw [HCD.out]
            rintro e w5 ⟨v, rfl, hown, hB7⟩
            obtain ⟨A5, c5, rfl, hs5, _, _⟩ := own_sl hown
            clear hown
            have hP6 := hP5.below hB7
            have hB8 := below_trans hB6 hB7
            clear hB7 hB6 hP5 hP4
            go_wp2_with fail
            refine (words_in hP6).mono ?_
            rintro e w6 ⟨v, rfl, hown, hB9⟩
            obtain ⟨A6, c6, rfl, hs6, _, _⟩ := own_sl hown
            clear hown
            have hP7 := hP6.below hB9
            have hB10 := below_trans hB8 hB9
            have hs5' := hs5.below hB9
            clear hB9 hB8 hP6 hs5
            have hcl : (canon q l).length ≤ 1099511627776 := by
              have hkl : q * l.length ≤ 64 * 1048576 := Nat.mul_le_mul hk2 hP7.len
              rw [canon_length]; omega
            have HCL := Lib.hid hcl
            clear hcl
            go_wp2_with fail
            refine (words_same A5 A6 (canon q l) _ _ _ _ w6 hs5' hs6 rfl rfl HCL.out).mono ?_
            rintro e w7 ⟨rfl, m7, rfl⟩
            have hP8 := hP7.drewN m7
            have hB11 : Below w.heap.size w (w6.drewN m7) := hB10.trans (below_drewN _ _ _)
            clear hs5' hs6 hB10 hP7
            generalize w6.drewN m7 = w8 at *
            go_wp2_with fail
            refine (words_in hP8).mono ?_
            rintro e w9 ⟨v, rfl, hown, hB12⟩
            obtain ⟨A9, c9, rfl, _, _, _⟩ := own_sl hown
            clear hown
            have hB13 := below_trans hB11 hB12
            obtain ⟨s, hs⟩ : ∃ s, q * j = s := ⟨_, rfl⟩
            have hsi : (q : Int) * (j : Int) = (s : Int) := by rw [← hs, Int.natCast_mul]
            have hsb : s ≤ 19200 := by rw [← hs]; exact Nat.mul_le_mul hk2 (by omega : j ≤ 300)
            have hcl2 : (canon q l).length = (s + 63) / 64 := by rw [canon_length, Hl.out, hs]
            rw [hcl2]
            clear hcl2 hs
            go_wp2_with fail
            refine (known_any _).mono ?_
            rintro e w10 ⟨rfl, hB14⟩
            go_wp2_with fail
            go_ret
            exact ⟨rfl, below_trans hB13 hB14⟩

end Go.Proofs.Ytbpnidmhbflgfaa
