/- bwt: Counts at width 9, walked. -/
import Derived.Test.YtphccomhggnccaaGreatFmCnt
namespace Go.Proofs.YtphccomhggnccaaGreat
set_option linter.unusedVariables false
set_option linter.unusedSimpArgs false
set_option maxRecDepth 100000
open Go.RowKit Fm

set_option maxHeartbeats 4000000 in
theorem counts_any (w : World) (b off n c : Nat) (l : List Nat) (hl : l.length = n) (hn : n ≤ 65536) (hR : RowAt w b off l) (hb : b < w.heap.size) (hx : ∀ j, j < n → l.getD j 0 < 512) :
    Calls Tryz.prog 138 #[.slice (some ⟨b, off, none⟩) n c, .int .i64 9] w fun e w' => ∃ g, e = .returned (.slice (some ⟨g, 0, none⟩) 513 513) ∧ w.heap.size ≤ g ∧ IB w' g (NI ((List.range 513).map (lessN l))) ∧ Below w.heap.size w w' := by
  have Hmk := Lib.hid (make_int 513 (by omega))
  have HR := Lib.hid hR
  have Hl := Lib.hid hl
  have Hx := Lib.hid hx
  clear hR hl hx
  have hmk := Hmk.out
  go_enter Tryz.func138, Tryz.ntmps138
  go_upto_region 2 with fail
  have e1 : RowKit.wrap64 (2 ^ (max (0 : Int) (min 16 9)).toNat) = 512 := by
    rw [show (max (0 : Int) (min 16 9)) = 9 by decide]
    first | rfl | decide | simp [RowKit.wrap64]
  rw [e1]
  clear e1
  have e2 : ((513 : Nat) : Int) = 513 := rfl
  rw [e2] at hmk
  go_wp2_with fail
  clear hmk e2
  have hA : IB (w.alloc (.cells (I (List.replicate 513 0)) 3)) w.heap.size (FA (512 + 1) (c1 l 0)) := by
    rw [c1_zero]; exact heap_alloc_new w _
  have hB0 : Below w.heap.size w (w.alloc (.cells (I (List.replicate 513 0)) 3)) := (Below.refl _ w).alloc (Nat.le_refl _) _
  have hnb : ¬ w.heap.size = b := by omega
  go_loopw [8, 19] (fun k q wr => ∃ j : Nat, j ≤ n ∧ q = .int .i64 (j : Int) ∧ IB wr w.heap.size (FA (512 + 1) (c1 l j)) ∧ Below w.heap.size w wr) (fun _ q _ => n - (intOf q).toNat)
  case atStart => exact ⟨0, Nat.zero_le _, rfl, hA, hB0⟩
  case round =>
    clear hA hB0
    obtain ⟨j, hj, rfl, hC, hB⟩ := hrel
    by_cases hjn : j < n
    · have hck := HR.out.below hB hb j (by rw [Hl.out]; exact hjn)
      have hxm := Hx.out j hjn
      have hcc := hC.cell (i := l.getD j 0 + 1) (by rw [FA_length]; omega)
      have hfr := hC.free (l.getD j 0 + 1)
      rw [FA_getD _ _ _ (by omega)] at hcc
      have hce : c1 l j (l.getD j 0 + 1) = ((kc l (l.getD j 0) j : Nat) : Int) := by unfold c1; rw [if_neg (by omega), Nat.add_sub_cancel]
      have hst := c1_step l 512 j (by rw [Hl.out]; exact hjn)
      rw [hce] at hcc hst
      have hkl2 := kc_le l (l.getD j 0) j
      rw [Hl.out] at hkl2
      have Hst := Lib.hid hst
      have HC := Lib.hid hC
      clear hce hst hC
      generalize l.getD j 0 = x at *
      generalize kc l x j = z at *
      have hmx : max (0 : Int) ((x : Int) + 1) = (x : Int) + 1 := by omega
      go_wp2_with fail
      refine ⟨⟨j + 1, by omega, rfl, ?_, below_cell hB (Nat.le_refl _) _ _ rfl⟩, ?_⟩
      · rw [← Hst.out]; exact HC.out.set _ _
      · show n - ((j : Int) + 1).toNat < n - ((j : Int)).toNat
        omega
    · obtain rfl : j = n := by omega
      have hC1 : IB wr w.heap.size (FA (512 + 1) (cs l 1)) := by
        have e := cs_start l 512
        rw [Hl.out] at e
        rw [← e]; exact hC
      clear hC
      obtain ⟨w1, rfl⟩ : ∃ w1 : World, w1 = wr := ⟨_, rfl⟩
      go_wp2_with fail
      go_loopw [9, 35] (fun q _ wr => ∃ i : Nat, i ≤ 512 ∧ q = .int .i64 ((i : Int) + 1) ∧ IB wr w.heap.size (FA (512 + 1) (cs l (i + 1))) ∧ Below w.heap.size w wr) (fun q _ _ => 514 - (intOf q).toNat)
      case atStart => exact ⟨0, Nat.zero_le _, rfl, hC1, hB⟩
      case round =>
        clear hC1 hB
        obtain ⟨i, hi, rfl, hC, hB⟩ := hrel
        by_cases him : i < 512
        · have hca := hC.cell (i := i + 1) (by rw [FA_length]; omega)
          have hcb := hC.cell (i := i) (by rw [FA_length]; omega)
          have hfr := hC.free (i + 1)
          rw [FA_getD _ _ _ (by omega)] at hca hcb
          have hst := cs_step l 512 (i + 1) (by omega)
          rw [Nat.add_sub_cancel] at hst
          have e1 : cs l (i + 1) (i + 1) = ((kc l i j : Nat) : Int) := by
            unfold cs c1; rw [if_neg (by omega), if_neg (by omega), Nat.add_sub_cancel, Hl.out]
          have e2 : cs l (i + 1) i = ((lessN l i : Nat) : Int) := by
            unfold cs; rw [if_pos (by omega)]
          have b1 := kc_le l i j
          rw [Hl.out] at b1
          have b2 := lessN_le l i
          rw [Hl.out] at b2
          rw [e1, e2] at hst
          rw [e1] at hca
          rw [e2] at hcb
          have Hst := Lib.hid hst
          have HC := Lib.hid hC
          clear e1 e2 hst hC
          generalize kc l i j = a at *
          generalize lessN l i = b at *
          have hw : IntKind.i64.wrap ((a : Int) + (b : Int)) = (a : Int) + (b : Int) := IntWalk.i64_in _ (by omega)
          have hi1 : (0 : Int) ≤ (i : Int) + 1 := by omega
          have hi2 : (i : Int) + 1 < 513 := by omega
          go_upto_region 12 with fail
          go_region
          all_goals go_wp2_with fail
          all_goals refine ⟨⟨i + 1, by omega, rfl, by rw [← Hst.out]; exact HC.out.set (i + 1) _, (below_cell hB (Nat.le_refl _) _ _ rfl).drew⟩, ?_⟩
          all_goals show 514 - ((i : Int) + 1 + 1).toNat < 514 - ((i : Int) + 1).toNat
          all_goals omega
        · obtain rfl : i = 512 := by omega
          have hC3 : IB wr w.heap.size (NI ((List.range 513).map (lessN l))) := by
            rw [← cs_end l 512]; exact hC
          go_wp2_with fail
          go_ret
          exact ⟨w.heap.size, rfl, Nat.le_refl _, hC3, hB⟩
end Go.Proofs.YtphccomhggnccaaGreat
