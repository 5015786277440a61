/- The law BitsLong, walked. -/
import Derived.Test.YtfgkkffgcgjhfaaBtLawF
namespace Go.Proofs.Ytfgkkffgcgjhfaa
set_option linter.unusedVariables false
set_option linter.unusedSimpArgs false
open Go.RowKit PkMath Pop Rank BtMath

theorem keep00 {w2 : World} {ad : Addr} {v : Value} (h : w2.cell? ad = some v) : w2.drew.cell? ad = some v ∧ Below w2.heap.size w2 w2.drew :=
  ⟨h, rfl, rfl, rfl, Nat.le_refl _, fun _ _ => rfl⟩
theorem keepR {w2 W : World} {ad : Addr} {v : Value} (h : W.cell? ad = some v ∧ Below w2.heap.size w2 W) (m : Nat) : (W.drewN m).cell? ad = some v ∧ Below w2.heap.size w2 (W.drewN m) :=
  ⟨h.1, h.2.trans (below_drewN _ _ m)⟩
theorem below0 (B : Nat) (w : World) : Below B w w.drew := ⟨rfl, rfl, rfl, Nat.le_refl _, fun _ _ => rfl⟩
theorem belowD (B : Nat) (w : World) (m : Nat) : Below B w (w.drewN m) := ⟨rfl, rfl, rfl, Nat.le_refl _, fun _ _ => rfl⟩
theorem longKnown (n s k : Int) (w : World) (h : (((n < 1 ∨ 20000 < n) ∨ s < 1) ∨ 500 < s) ∨ k < 0) :
    Calls Try.prog 3 #[.int .i64 n, .int .i64 s, .int .i64 k] w (TrueBelow w) := by
  by_cases h1 : n < 1
  · go_enter Try.func3, Try.ntmps3
    go_wp2_with (go_at_call 15; refine (known_any _).mono ?_; rintro e w5 ⟨rfl, hB5⟩)
    go_ret
    exact ⟨rfl, hB5⟩
  by_cases h2 : 20000 < n
  · go_enter Try.func3, Try.ntmps3
    go_wp2_with (go_at_call 15; refine (known_any _).mono ?_; rintro e w5 ⟨rfl, hB5⟩)
    go_ret
    exact ⟨rfl, hB5⟩
  by_cases h3 : s < 1
  · go_enter Try.func3, Try.ntmps3
    go_wp2_with (go_at_call 15; refine (known_any _).mono ?_; rintro e w5 ⟨rfl, hB5⟩)
    go_ret
    exact ⟨rfl, hB5⟩
  by_cases h4 : 500 < s
  · go_enter Try.func3, Try.ntmps3
    go_wp2_with (go_at_call 15; refine (known_any _).mono ?_; rintro e w5 ⟨rfl, hB5⟩)
    go_ret
    exact ⟨rfl, hB5⟩
  have h5 : k < 0 := by omega
  · go_enter Try.func3, Try.ntmps3
    go_wp2_with (go_at_call 15; refine (known_any _).mono ?_; rintro e w5 ⟨rfl, hB5⟩)
    go_ret
    exact ⟨rfl, hB5⟩

set_option maxRecDepth 100000 in
set_option maxHeartbeats 4000000 in
theorem lawLong (n0 s0 k0 : Int) (w : World) :
    Calls Try.prog 3 #[.int .i64 n0, .int .i64 s0, .int .i64 k0] w (TrueBelow w) := by
  by_cases hg : (((n0 < 1 ∨ 20000 < n0) ∨ s0 < 1) ∨ 500 < s0) ∨ k0 < 0
  · exact longKnown n0 s0 k0 w hg
  obtain ⟨n, rfl⟩ : ∃ n : Nat, n0 = (n : Int) := ⟨n0.toNat, by omega⟩
  obtain ⟨s, rfl⟩ : ∃ s : Nat, s0 = (s : Int) := ⟨s0.toNat, by omega⟩
  obtain ⟨k, rfl⟩ : ∃ k : Nat, k0 = (k : Int) := ⟨k0.toNat, by omega⟩
  have hn1 : 1 ≤ n := by omega
  have hn2 : n ≤ 20000 := by omega
  have hs1 : 1 ≤ s := by omega
  have hs2 : s ≤ 500 := by omega
  clear hg
  go_enter Try.func3, Try.ntmps3
  go_wp2_with fail
  go_loopw [7, 8] (fun v i wr => ∃ j t : Nat, i = .int .i64 (t : Int) ∧ Hid (t = j * s) ∧ t < n + s ∧ j ≤ t ∧ Hid (∀ q, q < j → q * s < n) ∧ wr.ownsRow w.heap.size 3 1 v (mults s j).length (VI (mults s j)) ∧ Below w.heap.size w wr) (fun _ i _ => n + 500 - (intOf i).toNat)
  case atStart => exact ⟨0, 0, rfl, (Nat.zero_mul s).symm, by omega, Nat.le_refl _, fun q hq => absurd hq (Nat.not_lt_zero _), World.ownsRow_nil _ _ _ _, Below.refl _ _⟩
  case round =>
    obtain ⟨j, t, rfl, htj, htn, hjt, hq, hown, hB⟩ := hrel
    by_cases hlt : t < n
    · obtain ⟨A1, c1, hv, hsl1, hl1, hA1⟩ := own_sl hown
      subst hv
      have hlm := mults_length s j
      have hbl := hB.size
      go_wp2_with (at_builtin; refine app_int rfl _ _ rfl w.heap.size _ (mults s j) rfl (World.ownsRow.alloc hown _) (some ⟨wr.heap.size, 0, none⟩) 1 1 [(t : Int)] rfl (fun h => by cases h) rfl (sl_blk (heap_alloc_new wr _)) (by omega) (by simp; omega) ?_; intro v' w1 hown1 hgrow hnil)
      have hB1 : Below w.heap.size w w1 := (hB.alloc hB.size _).grown hgrow (by simp; omega) (fun k hk => (World.ownsRow.lt hown k hk).1)
      refine ⟨⟨j + 1, t + s, rfl, ?_, by omega, by omega, ?_, ?_, hB1⟩, ?_⟩
      · show t + s = (j + 1) * s
        rw [htj.out, Nat.add_mul, Nat.one_mul]
      · intro q hqj
        by_cases e : q < j
        · exact hq.out q e
        · obtain rfl : q = j := by omega
          rw [← htj.out]; exact hlt
      · rw [mults_succ, ← htj.out]; exact hown1
      · show n + 500 - ((t : Int) + s).toNat < n + 500 - ((t : Int)).toNat
        omega
    · obtain ⟨A, c, hv, hsl, hl1, hA1⟩ := own_sl hown
      subst hv
      rw [mults_length]
      have hm2 : n ≤ j * s := by rw [← htj.out]; omega
      have hN := new_any wr (n : Int) n (by omega) (.inr rfl) A j c (mults s j) (mults_length s j) (by omega) hsl
      have HN := Lib.hid hN
      have hll : (laidAll (List.replicate n false) (mults s j) j).length = n := by rw [laidAll_length, List.length_replicate]
      have hrk := mults_rank n s j hs1 hq.out hm2 n (Nat.le_refl _)
      rw [mults_all n s j hs1 hq.out hm2] at hrk
      have hrk2 := mults_rank n s j hs1 hq.out hm2 (n / 2) (by omega)
      have hsI := mults_slI n s j hs1 hq.out hm2 k
      have hjn : j ≤ n := by
        have := rk_le (laidAll (List.replicate n false) (mults s j) j) true n
        omega
      generalize laidAll (List.replicate n false) (mults s j) j = L at *
      have Hrk := Lib.hid hrk
      have HsI := Lib.hid hsI
      have Hll := Lib.hid hll
      have hdv : ((n : Int) / 2 + (s : Int) - 1) / (s : Int) = (((n / 2 + s - 1) / s : Nat) : Int) := by
        rw [Int.natCast_ediv]
        congr 1
        omega
      have htd : ((n : Int) / 2 + (s : Int) - 1).tdiv (s : Int) = (((n / 2 + s - 1) / s : Nat) : Int) := by
        rw [Int.tdiv_eq_ediv_of_nonneg (by omega)]; exact hdv
      have hs0 : ¬ ((s : Int) = 0) := by omega
      have hsb : ((s : Int) == 0) = false := by rw [beq_eq_false_iff_ne]; exact hs0
      have Hrk2 := Lib.hid hrk2
      obtain ⟨R, hR⟩ : ∃ R, (n / 2 + s - 1) / s = R := ⟨_, rfl⟩
      rw [hR] at hdv htd Hrk2
      have hRb : R ≤ 20000 := by
        have := Nat.div_le_self (n / 2 + s - 1) s
        have h2 := rk_le L true (n / 2)
        have := Hrk2.out
        omega
      have hs00 : ¬ s = 0 := by omega
      have hwr : IntKind.i64.wrap (R : Int) = (R : Int) := wrap_small _ (by omega) (by omega)
      have hwn : IntKind.i64.wrap ((n : Int) / 2) = (n : Int) / 2 := wrap_small _ (by omega) (by omega)
      have hw1 : IntKind.i64.wrap ((n : Int) / 2 + (s : Int)) = (n : Int) / 2 + (s : Int) := wrap_small _ (by omega) (by omega)
      have hw2 : IntKind.i64.wrap ((n : Int) / 2 + (s : Int) - 1) = (n : Int) / 2 + (s : Int) - 1 := wrap_small _ (by omega) (by omega)
      have hw3 : IntKind.i64.wrap (((n : Int) / 2 + (s : Int) - 1).tdiv (s : Int)) = (R : Int) := by rw [htd]; exact hwr
      clear hN hrk hrk2 hsI hll hown hsl hl1 hA1 hm2 hq htj hR
      go_wp2_with fail
      go_at_call 16
      refine HN.out.mono ?_
      intro e w2 hM
      obtain ⟨b, rfl, hBV, hB2⟩ := hM.get
      have hB3 := below_step hB hB2
      clear hM HN hB hB2
      have HR := Lib.hid (fun (W : World) (h : W.cell? ⟨b, 0, none⟩ = some (.int .i64 (n : Int)) ∧ Below w2.heap.size w2 W) => rank_any (hBV.below h.2) true ((n : Int) / 2))
      rw [show ((n : Int) / 2).toNat = n / 2 by omega, Hrk2.out] at HR
      have HO := Lib.hid (fun (W : World) (h : W.cell? ⟨b, 0, none⟩ = some (.int .i64 (n : Int)) ∧ Below w2.heap.size w2 W) => bones_any (hBV.below h.2))
      rw [Hll.out, Hrk.out] at HO
      have HS := Lib.hid (fun (W : World) (h : W.cell? ⟨b, 0, none⟩ = some (.int .i64 (n : Int)) ∧ Below w2.heap.size w2 W) => select_any (hBV.below h.2) true (k : Int))
      have HB := Lib.hid (fun (W : World) (h : W.cell? ⟨b, 0, none⟩ = some (.int .i64 (n : Int)) ∧ Below w2.heap.size w2 W) => below_step hB3 h.2)
      have hc0 := hBV.c0
      rw [Hll.out] at hc0
      have HK0 := Lib.hid hc0
      clear hBV hB3 htn hjt hlt hc0
      by_cases hkj : k < j
      · have hsi := HsI.out
        rw [if_pos hkj] at hsi
        rw [hsi] at HS
        have hks : (k : Int) * (s : Int) = ((k * s : Nat) : Int) := by rw [Int.natCast_mul]
        have hz : k * s ≤ 10000000 := Nat.le_trans (Nat.mul_le_mul (show k ≤ 20000 by omega) hs2) (by decide)
        generalize k * s = z at *
        clear hsi HsI
        go_upto_region 12 with fail
        go_region_held3 (fun w' => w'.cell? ⟨b, 0, none⟩ = some (.int .i64 (n : Int)) ∧ Below w2.heap.size w2 w')
          (first | exact keep00 HK0.out | exact keepD HK0.out _ | exact keepR (by assumption) _ | exact keepS (by assumption) (by assumption) | exact keepE HK0.out (by assumption))
          (first | (go_at_call 17; refine (HO.out _ (by assumption)).mono ?_; rintro e w5 ⟨rfl, m5, rfl⟩) | (go_at_call 19; refine (HR.out _ (by assumption)).mono ?_; rintro e w7 ⟨rfl, m7, rfl⟩) | (go_at_call 18; refine (HS.out _ (by assumption)).mono ?_; rintro e w6 ⟨rfl, hB6⟩) | (go_at_call 15; refine (known_any _).mono ?_; rintro e w8 ⟨rfl, hB8⟩))
        all_goals go_wp2_with fail
        all_goals go_ret
        all_goals exact ⟨rfl, HB.out _ (by first | assumption | exact keepE HK0.out (by assumption) | exact keepS (by assumption) (by assumption))⟩
      · have hsi := HsI.out
        rw [if_neg hkj] at hsi
        rw [hsi] at HS
        clear hsi HsI
        go_upto_region 12 with fail
        go_region_held3 (fun w' => w'.cell? ⟨b, 0, none⟩ = some (.int .i64 (n : Int)) ∧ Below w2.heap.size w2 w')
          (first | exact keep00 HK0.out | exact keepD HK0.out _ | exact keepR (by assumption) _ | exact keepS (by assumption) (by assumption) | exact keepE HK0.out (by assumption))
          (first | (go_at_call 17; refine (HO.out _ (by assumption)).mono ?_; rintro e w5 ⟨rfl, m5, rfl⟩) | (go_at_call 19; refine (HR.out _ (by assumption)).mono ?_; rintro e w7 ⟨rfl, m7, rfl⟩) | (go_at_call 18; refine (HS.out _ (by assumption)).mono ?_; rintro e w6 ⟨rfl, hB6⟩) | (go_at_call 15; refine (known_any _).mono ?_; rintro e w8 ⟨rfl, hB8⟩))
        all_goals go_wp2_with fail
        all_goals go_ret
        all_goals exact ⟨rfl, HB.out _ (by first | assumption | exact keepE HK0.out (by assumption) | exact keepS (by assumption) (by assumption))⟩

end Go.Proofs.Ytfgkkffgcgjhfaa
