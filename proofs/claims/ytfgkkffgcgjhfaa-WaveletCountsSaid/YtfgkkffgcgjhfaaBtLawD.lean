/- The law BitsSums, walked. -/
import Derived.Test.YtfgkkffgcgjhfaaBtLawC
namespace Go.Proofs.Ytfgkkffgcgjhfaa
set_option linter.unusedVariables false
set_option linter.unusedSimpArgs false
open Go.RowKit PkMath Pop Rank BtMath

set_option maxRecDepth 100000 in
set_option maxHeartbeats 2000000 in
theorem lawSums (A : Option Addr) (n c : Nat) (l : List Bool) (i0 : Int) (w : World) (hA : BArg w A n c l) :
    Calls Try.prog 7 #[.slice A n c, .int .i64 i0] w (TrueBelow w) := by
  by_cases h0 : 3000 < n
  · go_enter Try.func7, Try.ntmps7
    go_wp2_with fail
    go_ret
    exact ⟨rfl, Below.refl _ _⟩
  by_cases h2 : i0 < 0
  · go_enter Try.func7, Try.ntmps7
    go_wp2_with fail
    go_ret
    exact ⟨rfl, Below.refl _ _⟩
  by_cases h3 : (n : Int) ≤ i0
  · go_enter Try.func7, Try.ntmps7
    go_wp2_with fail
    go_ret
    exact ⟨rfl, Below.refl _ _⟩
  obtain ⟨i, rfl⟩ : ∃ i : Nat, i0 = (i : Int) := ⟨i0.toNat, by omega⟩
  have hin : i < n := by omega
  obtain ⟨hAs, hAl, hAc, hAn⟩ := hA
  have HAl := Lib.hid hAl
  have hsum := rk_false l i (by omega)
  have hle := rk_le l true i
  have hle2 := rk_le l false i
  clear hAl hAn h2 h3
  go_enter Try.func7, Try.ntmps7
  go_wp2_with fail
  go_at_call 22
  refine (of_any w A n c l HAl.out (by omega) hAs).mono ?_
  intro e w1 hM
  obtain ⟨v, rfl, hBV, hB1⟩ := hM.get
  clear hM
  have hAs1 := hAs.below hB1
  obtain ⟨x, hx⟩ : ∃ x, l.getD i false = x := ⟨_, rfl⟩
  obtain ⟨ab, ao, rfl, hca⟩ := hAs1.lit (j := i) (by rw [VB_length, HAl.out]; exact hin)
  rw [VB_get _ _ (by rw [HAl.out]; exact hin), hx] at hca
  have HK0 := Lib.hid hca
  have HG := Lib.hid (fun (W : World) (h : W.cell? ⟨ab, ao + i, none⟩ = some (.bool x) ∧ Below w1.heap.size w1 W) => bget_any (hBV.below h.2) (i : Int))
  rw [Int.toNat_natCast, hx, show decide ((0 : Int) ≤ (i : Int)) = true by simp, Bool.true_and] at HG
  have HB3 := Lib.hid (fun (W : World) (h : W.cell? ⟨ab, ao + i, none⟩ = some (.bool x) ∧ Below w1.heap.size w1 W) => below_step hB1 h.2)
  have HRt := Lib.hid (fun m : Nat => rank_any (hBV.drewN m) true (i : Int))
  have HRf := Lib.hid (fun m : Nat => rank_any (hBV.drewN m) false (i : Int))
  have HRn := Lib.hid (fun m : Nat => rank_any (hBV.drewN m) true (n : Int))
  have HRt1 := Lib.hid (fun m : Nat => rank_any (hBV.drewN m) true ((i : Int) + 1))
  have HRf1 := Lib.hid (fun m : Nat => rank_any (hBV.drewN m) false ((i : Int) + 1))
  have HO := Lib.hid (fun m : Nat => bones_any (hBV.drewN m))
  rw [show ((i : Int) + 1).toNat = i + 1 by omega] at HRt1 HRf1
  rw [Int.toNat_natCast] at HRt HRf HRn
  have hlen := HAl.out
  rw [hlen] at HO
  have hab : rk l true (i + 1) = rk l true i + x.toNat ∧ rk l false (i + 1) = rk l false i + (!x).toNat := by
    cases x
    · exact ⟨rk_false_succ (by omega) (by rw [hx]; simp), rk_true_succ (by omega) hx⟩
    · exact ⟨rk_true_succ (by omega) hx, rk_false_succ (by omega) (by rw [hx]; simp)⟩
  clear hlen hca hBV hB1 hAs hAs1
  generalize rk l true (i + 1) = rt1 at *
  generalize rk l false (i + 1) = rf1 at *
  obtain ⟨rfl, rfl⟩ := hab
  have hrn := rk_le l true n
  generalize rk l true n = rn at *
  generalize rk l true i = rt at *
  generalize rk l false i = rf at *
  clear hx
  cases x
  all_goals
    simp only [Bool.toNat_false, Bool.toNat_true, Bool.not_false, Bool.not_true, Nat.add_zero] at HRt1 HRf1
    go_wp2_with fail
    go_at_call 19
    refine (HRt.out 0).mono ?_
    rintro e w3 ⟨rfl, m1, rfl⟩
    rw [World.drewN_drewN]
    go_wp2_with fail
    go_at_call 19
    refine (HRf.out _).mono ?_
    rintro e w3 ⟨rfl, m2, rfl⟩
    rw [World.drewN_drewN]
    go_wp2_with fail
    refine (HO.out _).mono ?_
    rintro e w3 ⟨rfl, m3, rfl⟩
    rw [World.drewN_drewN]
    go_wp2_with fail
    go_at_call 19
    refine (HRn.out _).mono ?_
    rintro e w3 ⟨rfl, m4, rfl⟩
    rw [World.drewN_drewN]
    go_wp2_with fail
    go_at_call 19
    refine (HRt1.out _).mono ?_
    rintro e w3 ⟨rfl, m5, rfl⟩
    rw [World.drewN_drewN]
    go_wp2_with fail
    go_at_call 19
    refine (HRt.out _).mono ?_
    rintro e w3 ⟨rfl, m6, rfl⟩
    rw [World.drewN_drewN]
    go_wp2_with fail
    go_at_call 19
    refine (HRf1.out _).mono ?_
    rintro e w3 ⟨rfl, m7, rfl⟩
    rw [World.drewN_drewN]
    go_wp2_with fail
    go_at_call 19
    refine (HRf.out _).mono ?_
    rintro e w3 ⟨rfl, m8, rfl⟩
    rw [World.drewN_drewN]
    go_upto_region 7 with fail
    try simp only [show ((rt : Int) + 1 - rt) = 1 by omega]
    try simp only [show ((rf : Int) + 1 - rf) = 1 by omega]
    clear HRt HRf HRn HRt1 HRf1 HO hsum hle hle2 hrn
  next =>
    go_region_held3 (fun w' => w'.cell? ⟨ab, ao + i, none⟩ = some (.bool false) ∧ Below w1.heap.size w1 w')
      (first | exact keep0 HK0.out _ | exact keepD HK0.out _ | exact keepS (by assumption) (by assumption) | exact keepE HK0.out (by assumption))
      (first | (go_at_call 23; refine (HG.out _ (by assumption)).mono ?_; rintro e w5 ⟨rfl, rfl⟩) | (go_at_call 15; refine (known_any _).mono ?_; rintro e w6 ⟨rfl, hB6⟩))
    all_goals go_wp2_with fail
    all_goals go_ret
    all_goals exact ⟨rfl, HB3.out _ (by first | assumption | exact keepE HK0.out (by assumption) | exact keepS (by assumption) (by assumption))⟩
  next =>
    go_region_held3 (fun w' => w'.cell? ⟨ab, ao + i, none⟩ = some (.bool true) ∧ Below w1.heap.size w1 w')
      (first | exact keep0 HK0.out _ | exact keepD HK0.out _ | exact keepS (by assumption) (by assumption) | exact keepE HK0.out (by assumption))
      (first | (go_at_call 23; refine (HG.out _ (by assumption)).mono ?_; rintro e w5 ⟨rfl, rfl⟩) | (go_at_call 15; refine (known_any _).mono ?_; rintro e w6 ⟨rfl, hB6⟩))
    all_goals go_wp2_with fail
    all_goals go_ret
    all_goals exact ⟨rfl, HB3.out _ (by first | assumption | exact keepE HK0.out (by assumption) | exact keepS (by assumption) (by assumption))⟩

end Go.Proofs.Ytfgkkffgcgjhfaa
