/- haystacklaw4: WaveletAll. -/
import Derived.Test.YtfgkkffgcgjhfaaWvLawM
namespace Go.Proofs.Ytfgkkffgcgjhfaa
set_option linter.unusedVariables false
set_option linter.unusedSimpArgs false
open Go.RowKit PkMath Pop Rank BtMath Wv

set_option maxRecDepth 100000 in
set_option maxHeartbeats 2000000 in
theorem lawAll (A : Option Addr) (n c : Nat) (l : List Int) (from0 to0 : Int) (w : World) (hA : IArg w A n c l) :
    Calls Try.prog 11 #[.slice A n c, .int .i64 from0, .int .i64 to0] w (TrueBelow w) := by
  by_cases h0 : 400 < n
  · go_enter Try.func11, Try.ntmps11
    go_wp2_with fail
    go_ret
    exact ⟨rfl, Below.refl _ _⟩
  by_cases h1 : from0 < 0
  · go_enter Try.func11, Try.ntmps11
    go_wp2_with fail
    go_ret
    exact ⟨rfl, Below.refl _ _⟩
  by_cases h2 : to0 < from0
  · go_enter Try.func11, Try.ntmps11
    go_wp2_with fail
    go_ret
    exact ⟨rfl, Below.refl _ _⟩
  by_cases h3 : (n : Int) < to0
  · go_enter Try.func11, Try.ntmps11
    go_wp2_with fail
    go_ret
    exact ⟨rfl, Below.refl _ _⟩
  obtain ⟨a, rfl⟩ : ∃ a : Nat, from0 = (a : Int) := ⟨from0.toNat, by omega⟩
  obtain ⟨z, rfl⟩ : ∃ z : Nat, to0 = (z : Int) := ⟨to0.toNat, by omega⟩
  have ha1 : a ≤ z := by omega
  have ha2 : z ≤ n := by omega
  obtain ⟨hAs, hAl, hAc, hAn, hAr⟩ := hA
  have HAl := Lib.hid hAl
  have HAs := Lib.hid hAs
  clear hAl hAs hAn hAr h1
  go_enter Try.func11, Try.ntmps11
  go_wp2_with fail
  go_loopw [7, 8] (fun v i wr => ∃ j : Nat, j ≤ n ∧ i = .int .i64 (j : Int) ∧ wr.ownsRow w.heap.size 3 1 v ((IL (mask 16 l)).take j).length (VI ((IL (mask 16 l)).take j)) ∧ Below w.heap.size w wr) (fun _ i _ => n - (intOf i).toNat)
  case atStart => exact ⟨0, Nat.zero_le _, rfl, World.ownsRow_nil _ _ _ _, Below.refl _ _⟩
  case round =>
    obtain ⟨j, hj, rfl, hown, hB⟩ := hrel
    by_cases hlt : j < n
    · have hjl : j < l.length := by rw [HAl.out]; exact hlt
      obtain ⟨ad, rfl, hca⟩ := (HAs.out.below hB).some (j := j) (by rw [VI_length]; exact hjl)
      rw [VI_get _ _ hjl] at hca
      have hbit := i64_and15 (l.getD j 0)
      have Hsucc := Lib.hid (mask_succ 16 (by decide) l j hjl)
      obtain ⟨A1, c1, hv, hsl1, hl1, hA1⟩ := own_sl hown
      subst hv
      have hlm : ((IL (mask 16 l)).take j).length ≤ j := List.length_take_le _ _
      generalize l.getD j 0 = x at *
      generalize (IL (mask 16 l)).take j = xs at *
      have hbl := hB.size
      go_wp2_with (at_builtin; refine app_int rfl _ _ rfl w.heap.size _ xs rfl (World.ownsRow.alloc hown _) (some ⟨wr.heap.size, 0, none⟩) 1 1 [x % 16] rfl (fun h => by cases h) rfl (sl_blk (heap_alloc_new wr _)) (by omega) (by simp; omega) ?_; intro v' w1 hown1 hgrow hnil)
      have hB1 : Below w.heap.size w w1 := (hB.alloc hB.size _).grown hgrow (by simp; omega) (fun k hk => (World.ownsRow.lt hown k hk).1)
      refine ⟨⟨j + 1, by omega, rfl, by rw [Hsucc.out]; exact hown1, hB1⟩, ?_⟩
      show n - ((j : Int) + 1).toNat < n - ((j : Int)).toNat
      omega
    · obtain rfl : j = n := by omega
      have ht : (IL (mask 16 l)).take j = IL (mask 16 l) := List.take_of_length_le (by rw [IL_length, mask_length, HAl.out]; exact Nat.le_refl _)
      rw [ht] at hown
      obtain ⟨A2, c2, hv, hsl, hl1, hc2⟩ := own_sl2 hown
      subst hv
      rw [IL_length, mask_length, HAl.out]
      have hT := build_any wr A2 j c2 4 (mask 16 l) (by decide) (by decide) (by rw [mask_length, HAl.out]) (by omega) hc2 hsl (mask_lt 16 (by decide) l)
      have HT := Lib.hid hT
      have hnn := IL_nonneg (mask 16 l)
      have hl16 := IL_lt (mask_lt 16 (by decide) l)
      have hln : (IL (mask 16 l)).length = j := by rw [IL_length, mask_length, HAl.out]
      have Hnn := Lib.hid hnn
      have Hl16 := Lib.hid hl16
      have Hln := Lib.hid hln
      clear hT hsl hl1 hc2 hown ht hnn hl16 hln
      generalize mask 16 l = m at *
      go_wp2_with fail
      go_at_call 26
      refine HT.out.mono ?_
      rintro e w1 ⟨b, rfl, hTM, hB1⟩
      have hB2 := below_step hB hB1
      have HTM := Lib.hid hTM
      clear hB hB1 hTM HT
      go_wp2_with fail
      go_loopw [11, 12] (fun s q wr => ∃ cc : Nat, cc ≤ 16 ∧ q = .int .i64 (cc : Int) ∧ s = .int .i64 ((cntZ (IL m) (cc : Int) a z : Nat) : Int) ∧ Below w1.heap.size w1 wr) (fun _ q _ => 16 - (intOf q).toNat)
      case atStart => exact ⟨0, by omega, rfl, by rw [cntZ_none _ _ _ _ (by simpa using Hnn.out)]; rfl, Below.refl _ _⟩
      case round =>
        obtain ⟨cc, hcc, rfl, rfl, hBx⟩ := hrel
        have hle := cntZ_le (IL m) (cc : Int) a z
        rw [Hln.out] at hle
        by_cases hc16 : cc < 16
        · obtain ⟨hnx, hmo⟩ := cntZ_next (IL m) (cc : Int) a z ha1
          have hle2 := cntZ_le (IL m) ((cc : Int) + 1) a z
          rw [Hln.out] at hle2
          have hTx := HTM.out.below hBx
          have hR1 := trankZ hTx (cc : Int) (z : Int)
          rw [Int.toNat_natCast] at hR1
          have HR1 := Lib.hid hR1
          have HR2 := Lib.hid (fun (W' : World) (h : Below wr.heap.size wr W') => trankZ (hTx.below h) (cc : Int) (a : Int))
          rw [Int.toNat_natCast] at HR2
          have HB3 := Lib.hid (fun (W' : World) (h : Below wr.heap.size wr W') => tbelowZ (hTx.below h) (cc : Int) (a : Int) (z : Int))
          rw [Int.toNat_natCast, Int.toNat_natCast] at HB3
          have Hnx := Lib.hid hnx
          have hsum : rk (IL m) (cc : Int) z - rk (IL m) (cc : Int) a + cntZ (IL m) (cc : Int) a z = cntZ (IL m) ((cc : Int) + 1) a z := by omega
          have Hsum := Lib.hid hsum
          have hrz : rk (IL m) (cc : Int) z ≤ z := rk_le _ _ _
          clear hnx hTx hR1 hsum
          generalize rk (IL m) (cc : Int) z = rz at *
          generalize rk (IL m) (cc : Int) a = ra at *
          generalize cntZ (IL m) (cc : Int) a z = s at *
          go_wp2_with fail
          go_at_call 27
          refine HR1.out.mono ?_
          rintro e w3 ⟨rfl, hB3⟩
          go_wp2_with fail
          go_at_call 27
          refine (HR2.out _ hB3).mono ?_
          rintro e w4 ⟨rfl, hB4⟩
          have hB34 := below_step hB3 hB4
          go_wp2_with fail
          go_at_call 28
          refine (HB3.out _ hB34).mono ?_
          rintro e w5 ⟨rfl, hB5⟩
          have hB35 := below_step hBx (below_step hB34 hB5)
          go_wp2_with fail
          refine ⟨⟨cc + 1, by omega, rfl, ?_, hB35⟩, ?_⟩
          · have : ((cc + 1 : Nat) : Int) = (cc : Int) + 1 := by omega
            rw [this, ← Hsum.out]
            exact congrArg (Value.int .i64) (by omega)
          · show 16 - ((cc : Int) + 1).toNat < 16 - ((cc : Int)).toNat
            omega
        · obtain rfl : cc = 16 := by omega
          have hw := cntZ_whole (IL m) 16 a z Hl16.out (by rw [Hln.out]; exact ha2)
          have hw2 : cntZ (IL m) ((16 : Nat) : Int) a z = z - a := hw
          rw [hw2]
          have hTx := HTM.out.below hBx
          have HB1 := Lib.hid (fun (W' : World) (h : Below wr.heap.size wr W') => tbelowZ (hTx.below h) 16 (a : Int) (z : Int))
          rw [Int.toNat_natCast, Int.toNat_natCast, hw] at HB1
          have HR1 := Lib.hid (fun (W' : World) (h : Below wr.heap.size wr W') => trankZ (hTx.below h) 16 (z : Int))
          have hr0 : ∀ i, rk (IL m) (16 : Int) i = 0 := fun i => rkI_none (c := 16) Hl16.out i
          rw [hr0] at HR1
          have HS1 := Lib.hid (fun (W' : World) (h : Below wr.heap.size wr W') => tselZ (hTx.below h) 16 0)
          rw [show slZ (IL m) 16 0 = -1 from slZ_none (k := 0) (by rw [hr0]; exact Nat.le_refl _)] at HS1
          have hzz : z - a ≤ 400 := by omega
          have hzc : ((z - a : Nat) : Int) = (z : Int) - (a : Int) := by omega
          have HB0 := Lib.hid (below_step hB2 hBx)
          clear hle hw hw2 hTx hBx hB2 hr0
          rw [hzc] at HB1 ⊢
          clear hzc
          go_wp2_with fail
          go_at_call 28
          refine (HB1.out _ (Below.refl _ _)).mono ?_
          rintro e w3 ⟨rfl, hB3⟩
          go_wp2_with fail
          go_at_call 27
          refine (HR1.out _ hB3).mono ?_
          rintro e w4 ⟨rfl, hB4⟩
          have hB34 := below_step hB3 hB4
          go_wp2_with fail
          go_at_call 29
          refine (HS1.out _ hB34).mono ?_
          rintro e w5 ⟨rfl, hB5⟩
          have hB35 := below_step hB34 hB5
          go_wp2_with fail
          go_at_call 30
          refine (known4_any _).mono ?_
          rintro e w6 ⟨rfl, hB6⟩
          go_wp2_with fail
          go_ret
          exact ⟨rfl, below_step HB0.out (below_step hB35 hB6)⟩
end Go.Proofs.Ytfgkkffgcgjhfaa
