/- The laws BitsOf, BitsBack, walked. -/
import Derived.Test.YtfgkkffgcgjhfaaBtArg
namespace Go.Proofs.Ytfgkkffgcgjhfaa
set_option linter.unusedVariables false
set_option linter.unusedSimpArgs false
open Go.RowKit PkMath Pop Rank BtMath

theorem part_set (l : List Bool) (j : Nat) (hj : j < l.length) : part l (j + 1) = (part l j).set j (l.getD j false) := by
  apply List.ext_getElem (by simp [part_length])
  intro i h1 h2
  have h3 : i < l.length := by rw [part_length] at h1; exact h1
  rw [List.getElem_set]
  by_cases e : j = i
  · subst e
    simp [part]
  · rw [if_neg e]
    have : (i < j + 1) ↔ (i < j) := by omega
    simp [part, this]

set_option maxRecDepth 100000 in
set_option maxHeartbeats 2000000 in
theorem lawOf (A Q : Option Addr) (n c K2 c2 : Nat) (l : List Bool) (ks : List Int) (w : World) (hA : BArg w A n c l) (hQ : IArg w Q K2 c2 ks) :
    Calls Try.prog 8 #[.slice A n c, .slice Q K2 c2] w (TrueBelow w) := by
  by_cases h0 : 3000 < n
  · go_enter Try.func8, Try.ntmps8
    go_wp2_with fail
    go_ret
    exact ⟨rfl, Below.refl _ _⟩
  by_cases h2 : 60 < K2
  · go_enter Try.func8, Try.ntmps8
    go_wp2_with fail
    go_ret
    exact ⟨rfl, Below.refl _ _⟩
  obtain ⟨hAs, hAl, hAc, hAn⟩ := hA
  obtain ⟨hQs, hQl, hQc, hQn, hQr⟩ := hQ
  have HAl := Lib.hid hAl
  have HQl := Lib.hid hQl
  have HQr := Lib.hid hQr
  have HX : Hid ((l.map (!·)).length = n) := by rw [List.length_map]; exact hAl
  have HM := Lib.hid (make_bool n (by omega))
  clear hAl hQl hQr hQn hQc hAn
  go_enter Try.func8, Try.ntmps8
  go_wp2_with fail
  go_at_call 22
  refine (of_any w A n c l HAl.out (by omega) hAs).mono ?_
  intro e w1 hM
  obtain ⟨b, rfl, hBV, hB1⟩ := hM.get
  have hmk := HM.out w1
  obtain ⟨W2, hW2⟩ : ∃ W2, W2 = w1.alloc (.cells (VB (List.replicate n false)).toArray 4) := ⟨_, rfl⟩
  obtain ⟨g, hg⟩ : ∃ g, g = w1.heap.size := ⟨_, rfl⟩
  have hblk : W2.heap[g]? = some (.cells (VB (List.replicate n false)).toArray 4 (0, 0)) := by rw [hW2, hg]; exact heap_alloc_new w1 _
  have hB2 : Below w1.heap.size w1 W2 := by rw [hW2]; exact (Below.refl _ w1).alloc (Nat.le_refl _) _
  rw [← hW2, ← hg] at hmk
  have hz := part_zero (l.map (!·))
  rw [HX.out] at hz
  rw [← hz] at hblk
  have HW2 := Lib.hid hW2
  have Hg := Lib.hid hg
  clear hM hW2 hg hz HM
  go_wp2_with fail
  go_loopw [7] (fun t wr => ∃ j : Nat, j ≤ n ∧ t = .int .i64 (j : Int) ∧ wr.heap[g]? = some (.cells (VB (part (l.map (!·)) j)).toArray 4 (0, 0)) ∧ Below w1.heap.size w1 wr) (fun t _ => n - (intOf t).toNat)
  case atStart => exact ⟨0, Nat.zero_le _, rfl, hblk, hB2⟩
  case round =>
    clear hblk hB2 hmk
    obtain ⟨j, hj, rfl, hblk, hB2⟩ := hrel
    by_cases hlt : j < n
    · obtain ⟨a, rfl, hca⟩ := (hAs.below (below_step hB1 hB2)).some (j := j) (by rw [VB_length, HAl.out]; exact hlt)
      rw [VB_get _ _ (by rw [HAl.out]; exact hlt)] at hca
      have hsucc := part_set (l.map (!·)) j (by rw [HX.out]; exact hlt)
      have hm : (l.map (!·)).getD j false = !(l.getD j false) := by
        simp [List.getD, List.getElem?_map, List.getElem?_eq_getElem (show j < l.length by rw [HAl.out]; exact hlt)]
      rw [hm] at hsucc
      have Hsucc := Lib.hid hsucc
      have hpl := part_length (l.map (!·)) j
      rw [HX.out] at hpl
      have hcg : wr.cell? ⟨g, j, none⟩ = some (.bool ((part (l.map (!·)) j).getD j false)) := by
        rw [cell_blk hblk]
        have := VB_get (part (l.map (!·)) j) j (by rw [hpl]; exact hlt)
        simpa using this
      have hfr : wr.frozen? ⟨g, j, none⟩ = false := frozen_blk hblk j
      clear hsucc hm hpl
      generalize l.getD j false = x at *
      go_wp2_with fail
      refine ⟨⟨j + 1, by omega, rfl, ?_, below_cell hB2 (by rw [Hg.out]; exact Nat.le_refl _) _ _ rfl⟩, ?_⟩
      · rw [Hsucc.out, ← VB_set]; exact blk_set hblk _ _
      show n - ((j : Int) + 1).toNat < n - ((j : Int)).toNat
      omega
    · obtain rfl : j = n := by omega
      have hall := part_all (l.map (!·))
      rw [HX.out] at hall
      rw [hall] at hblk
      have hB3 := below_step hB1 hB2
      have hBV2 := hBV.below hB2
      have hTs := sl_blk hblk
      clear hall hblk hB2 hB1
      go_wp2_with fail
      go_at_call 20
      refine (alike_any hBV2 HAl.out (hAs.below hB3) HQl.out (by omega) (hQs.below hB3) HQr.out).mono ?_
      rintro e w4 ⟨rfl, hB4⟩
      have hB5 := below_step hB3 hB4
      have hBV3 := hBV2.below hB4
      have hTs2 := hTs.below hB4
      clear hB4 hB3 hBV2 hTs hBV
      go_wp2_with fail
      go_at_call 25
      refine (flip_any hBV3 (by rw [HAl.out]; omega)).mono ?_
      intro e w5 hM
      obtain ⟨b2, rfl, hF, hB6⟩ := hM.get
      have hB7 := below_step hB5 hB6
      have hBV4 := hBV3.below hB6
      have hTs3 := hTs2.below hB6
      clear hB6 hB5 hBV3 hTs2 hM
      go_wp2_with fail
      go_at_call 20
      refine (alike_any hF HX.out hTs3 HQl.out (by omega) (hQs.below hB7) HQr.out).mono ?_
      rintro e w6 ⟨rfl, hB8⟩
      have hB9 := below_step hB7 hB8
      have hBV5 := hBV4.below hB8
      clear hB8 hB7 hBV4 hTs3 hF
      go_wp2_with fail
      go_at_call 25
      refine (flip_any hBV5 (by rw [HAl.out]; omega)).mono ?_
      intro e w7 hM
      obtain ⟨b3, rfl, hF, hB10⟩ := hM.get
      have hB11 := below_step hB9 hB10
      clear hB10 hB9 hM hBV5
      go_wp2_with fail
      go_at_call 25
      refine (flip_any hF (by rw [HX.out]; omega)).mono ?_
      intro e w8 hM
      obtain ⟨b4, rfl, hF2, hB12⟩ := hM.get
      have hB13 := below_step hB11 hB12
      have hmm : (l.map (!·)).map (!·) = l := by simp [List.map_map, Function.comp_def]
      rw [hmm] at hF2
      clear hB12 hB11 hM hF hmm
      go_wp2_with fail
      go_at_call 20
      refine (alike_any hF2 HAl.out (hAs.below hB13) HQl.out (by omega) (hQs.below hB13) HQr.out).mono ?_
      rintro e w9 ⟨rfl, hB14⟩
      have hB15 := below_step hB13 hB14
      go_wp2_with fail
      go_at_call 15
      refine (known_any _).mono ?_
      rintro e w10 ⟨rfl, hB16⟩
      go_wp2_with fail
      go_ret
      exact ⟨rfl, below_step hB15 hB16⟩

end Go.Proofs.Ytfgkkffgcgjhfaa
