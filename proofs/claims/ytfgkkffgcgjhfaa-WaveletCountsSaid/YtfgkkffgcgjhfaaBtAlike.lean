/- haystacklaw2: alike. -/
import Derived.Test.YtfgkkffgcgjhfaaBtKnown
namespace Go.Proofs.Ytfgkkffgcgjhfaa
set_option linter.unusedVariables false
set_option linter.unusedSimpArgs false
open Go.RowKit PkMath Pop Rank BtMath

set_option maxRecDepth 100000 in
set_option maxHeartbeats 4000000 in
theorem alike_any {w : World} {base b : Nat} {l : List Bool} (hBV : BVec w base b l) {A Q : Option Addr} {n cap K cap2 : Nat} {ks : List Int} (hl : l.length = n) (hSl : Sl w A (VB l)) (hK : ks.length = K) (hK2 : K < 4611686018427387904) (hSq : Sl w Q (VI ks)) (hr : ∀ x ∈ ks, -9223372036854775808 ≤ x ∧ x < 9223372036854775808) :
    Calls Try.prog 20 #[.pointer (some ⟨b, 0, none⟩), .slice A n cap, .slice Q K cap2] w (TrueBelow w) := by
  have hlen := hBV.len
  have hc0 := hBV.c0
  rw [hl] at hlen hc0
  have hO := bones_any hBV
  rw [hl] at hO
  have HO := Lib.hid hO
  have HK := Lib.hid hK
  have Hl := Lib.hid hl
  have Hr := Lib.hid hr
  clear hO hK hr hl
  go_enter Try.func20, Try.ntmps20
  go_wp2_with (go_at_call 24; refine (blen_cell _ _ _ hc0).mono ?_; rintro e w' ⟨rfl, rfl⟩)
  go_at_call 17
  refine HO.out.mono ?_
  rintro e w1 ⟨rfl, m, rfl⟩
  go_wp2_with fail
  go_at_call 45
  refine (refrank_any (w.drewN m) A n cap l Hl.out hlen (hSl.drewN m) true (n : Int)).mono ?_
  rw [Int.toNat_natCast]
  rintro e w1 ⟨rfl, rfl⟩
  have hB0 := below_drewN w.heap.size w m
  clear hc0 HO
  go_wp2_with fail
  go_loopw [7] (fun i wr => ∃ j : Nat, j ≤ K ∧ i = .int .i64 (j : Int) ∧ Below w.heap.size w wr) (fun i _ => K - (intOf i).toNat)
  case atStart => exact ⟨0, Nat.zero_le _, rfl, hB0⟩
  case round =>
    clear hB0
    obtain ⟨j, hj, rfl, hB⟩ := hrel
    by_cases hlt : j < K
    · obtain ⟨a, rfl, hca⟩ := (hSq.below hB).some (j := j) (by rw [VI_length, HK.out]; exact hlt)
      rw [VI_get _ _ (by rw [HK.out]; exact hlt)] at hca
      have hmem : ks.getD j 0 ∈ ks := by
        have h1 : j < ks.length := by rw [HK.out]; exact hlt
        simp [List.getD, List.getElem?_eq_getElem h1]
      obtain ⟨hk1, hk2⟩ := Hr.out _ hmem
      clear hmem
      generalize ks.getD j 0 = k at *
      have hBV1 := hBV.below hB
      have hSl1 := hSl.below hB
      have hG := bget_any hBV1 k
      have HR1 := Lib.hid (rank_any hBV1 true k)
      have HR2 := Lib.hid (fun m : Nat => rank_any (hBV1.drewN m) false k)
      have HS1 := Lib.hid (fun m : Nat => select_any (hBV1.drewN m) true k)
      have hcase : (k < 0 ∧ (decide (0 ≤ k) && l.getD k.toNat false) = false) ∨ (∃ y : Nat, k = (y : Int) ∧ n ≤ y ∧ (decide (0 ≤ k) && l.getD k.toNat false) = false) ∨ (∃ (y : Nat) (a : Addr), k = (y : Int) ∧ y < n ∧ A = some a ∧ ∃ x : Bool, wr.cell? (a.add y) = some (.bool x) ∧ (decide (0 ≤ k) && l.getD k.toNat false) = x) := by
        by_cases h1 : k < 0
        · exact .inl ⟨h1, by rw [show decide (0 ≤ k) = false by simp; omega, Bool.false_and]⟩
        · obtain ⟨y, rfl⟩ : ∃ y : Nat, k = (y : Int) := ⟨k.toNat, by omega⟩
          rw [Int.toNat_natCast, show decide ((0 : Int) ≤ (y : Int)) = true by simp, Bool.true_and]
          by_cases h2 : y < n
          · obtain ⟨a, rfl, hcb⟩ := hSl1.some (j := y) (by rw [VB_length, Hl.out]; exact h2)
            rw [VB_get _ _ (by rw [Hl.out]; exact h2)] at hcb
            exact .inr (.inr ⟨y, a, rfl, h2, rfl, _, hcb, rfl⟩)
          · exact .inr (.inl ⟨y, rfl, by omega, getD_out (by rw [Hl.out]; omega)⟩)
      have HRS := Lib.hid (fun (W : World) (c : Bool) (hS : Sl W A (VB l)) => refselect_any W A n cap l Hl.out hlen hS c k hk1 hk2)
      have HRR := Lib.hid (fun (W : World) (c : Bool) (hS : Sl W A (VB l)) => refrank_any W A n cap l Hl.out hlen hS c k)
      clear hk1 hk2 hlen
      rcases hcase with ⟨h1, h2⟩ | ⟨y, rfl, h1, h2⟩ | ⟨y, a2, rfl, h1, rfl, x, hx, h2⟩
      all_goals
        rw [h2] at hG
        have HG := Lib.hid hG
        clear hG h2
      case' inr.inr => cases x
      all_goals
        go_wp2_with fail
        refine HG.out.mono ?_
        rintro e w1 ⟨rfl, rfl⟩
        go_wp2_with fail
        go_at_call 19
        refine HR1.out.mono ?_
        rintro e w1 ⟨rfl, m1, rfl⟩
        go_wp2_with fail
        go_at_call 45
        refine (HRR.out _ true (hSl1.drewN m1)).mono ?_
        rintro e w1 ⟨rfl, rfl⟩
        go_wp2_with fail
        go_at_call 19
        refine (HR2.out m1).mono ?_
        rintro e w1 ⟨rfl, m2, rfl⟩
        rw [World.drewN_drewN]
        go_wp2_with fail
        go_at_call 45
        refine (HRR.out _ false (hSl1.drewN (m1 + m2))).mono ?_
        rintro e w1 ⟨rfl, rfl⟩
        go_wp2_with fail
        go_at_call 18
        refine (HS1.out (m1 + m2)).mono ?_
        rintro e w2 ⟨rfl, hB2⟩
        have hBV2 := (hBV1.drewN (m1 + m2)).below hB2
        have hSl2 := (hSl1.drewN (m1 + m2)).below hB2
        have hB3 := below_step hB (below_step (below_drewN _ _ (m1 + m2)) hB2)
        go_wp2_with fail
        go_at_call 46
        refine (HRS.out _ true hSl2).mono ?_
        rintro e w3 ⟨rfl, rfl⟩
        go_wp2_with fail
        go_at_call 18
        refine (select_any hBV2 false _).mono ?_
        rintro e w3 ⟨rfl, hB4⟩
        have hSl3 := hSl2.below hB4
        have hB5 := below_step hB3 hB4
        go_wp2_with fail
        go_at_call 46
        refine (HRS.out _ false hSl3).mono ?_
        rintro e w4 ⟨rfl, rfl⟩
        go_wp2_with fail
        refine ⟨⟨j + 1, by omega, rfl, hB5⟩, ?_⟩
        show K - ((j : Int) + 1).toNat < K - ((j : Int)).toNat
        omega
    · obtain rfl : j = K := by omega
      go_wp2_with fail
      go_ret
      exact ⟨rfl, hB⟩

end Go.Proofs.Ytfgkkffgcgjhfaa
