/- haystacklaw4: WaveletBack. -/
import Derived.Test.YtfgkkffgcgjhfaaWvLawB
namespace Go.Proofs.Ytfgkkffgcgjhfaa
set_option linter.unusedVariables false
set_option linter.unusedSimpArgs false
open Go.RowKit PkMath Pop Rank BtMath Wv

theorem make_int (c : Nat) (hc : c ≤ 1099511627776) (w : World) :
    (Instr.makeSlice 23 (.int .i64 (c : Int)) (.int .i64 (c : Int))).run Try.prog w = .ok (.slice (some ⟨w.heap.size, 0, none⟩) c c) (w.alloc (.cells (I (List.replicate c 0)) 3)) := by
  obtain ⟨i0, hi, hz0, hz1, hz2⟩ := info_parts info_int
  have h := run_make (P := Try.prog) w 23 3 i0 (.int .i64 0) Try.underlying23 hi hz0 .i64 .i64 (c : Int) (c : Int) (by omega) (by omega) (by rw [hz2]; omega) (by omega)
  rw [h]
  have e : madeCells (Value.int .i64 0).cells (c * i0.size) = I (List.replicate c 0) := by
    rw [hz1, Nat.mul_one, madeCells_one _ rfl]
    simp [I]
  simp only [Int.toNat_natCast]
  rw [e]
/-- a row of which the first j are laid -/
def half (l : List Int) (j : Nat) : List Int := l.take j ++ List.replicate (l.length - j) 0
theorem half_length (l : List Int) (j : Nat) (h : j ≤ l.length) : (half l j).length = l.length := by
  unfold half; rw [List.length_append, List.length_take, List.length_replicate]; omega
theorem half_zero (l : List Int) : half l 0 = List.replicate l.length 0 := by simp [half]
theorem half_all (l : List Int) : half l l.length = l := by simp [half]
theorem half_set (l : List Int) (j : Nat) (h : j < l.length) : (half l j).set j (l.getD j 0) = half l (j + 1) := by
  unfold half
  have h1 : (l.take j).length = j := by rw [List.length_take]; omega
  rw [List.set_append_right _ _ (by omega), h1, Nat.sub_self, show l.length - j = (l.length - (j + 1)) + 1 by omega, List.replicate_succ, List.set_cons_zero, List.take_succ_eq_append_getElem h, List.append_assoc]
  simp [List.getD, List.getElem?_eq_getElem h]
theorem half_getD (l : List Int) (j i : Nat) (h : i < l.length) (hj : j ≤ l.length) : ∃ x, (half l j)[i]? = some x := by
  have : i < (half l j).length := by rw [half_length l j hj]; exact h
  exact ⟨_, List.getElem?_eq_getElem this⟩
theorem mask_getD (d : Nat) (hd : 0 < d) (l : List Int) (j : Nat) (hj : j < l.length) : (IL (mask d l)).getD j 0 = l.getD j 0 % (d : Int) := by
  have h1 : j < (IL (mask d l)).length := by rw [IL_length, mask_length]; exact hj
  have h2 : (IL (mask d l)).getD j 0 = (((l[j] % (d : Int)).toNat : Nat) : Int) := by
    rw [List.getD_eq_getElem?_getD, List.getElem?_eq_getElem h1]; simp [IL, mask]
  rw [h2, Int.toNat_of_nonneg (Int.emod_nonneg _ (by omega))]
  simp [List.getD, List.getElem?_eq_getElem hj]
theorem i64_and255' (x : Int) : bits .and .i64 x 255 = x % 256 := i64_and255 x

set_option maxRecDepth 100000 in
set_option maxHeartbeats 2000000 in
theorem lawBack4 (A : Option Addr) (n c : Nat) (l : List Int) (c0 k0 : Int) (w : World) (hA : IArg w A n c l) :
    Calls Try.prog 12 #[.slice A n c, .int .i64 c0, .int .i64 k0] w (TrueBelow w) := by
  by_cases h0 : 1000 < n
  · go_enter Try.func12, Try.ntmps12
    go_wp2_with fail
    go_ret
    exact ⟨rfl, Below.refl _ _⟩
  by_cases h1 : c0 < 0
  · go_enter Try.func12, Try.ntmps12
    go_wp2_with fail
    go_ret
    exact ⟨rfl, Below.refl _ _⟩
  by_cases h2 : 255 < c0
  · go_enter Try.func12, Try.ntmps12
    go_wp2_with fail
    go_ret
    exact ⟨rfl, Below.refl _ _⟩
  by_cases h3 : k0 < 0
  · go_enter Try.func12, Try.ntmps12
    go_wp2_with fail
    go_ret
    exact ⟨rfl, Below.refl _ _⟩
  by_cases h4 : 1000 < k0
  · go_enter Try.func12, Try.ntmps12
    go_wp2_with fail
    go_ret
    exact ⟨rfl, Below.refl _ _⟩
  obtain ⟨d, rfl⟩ : ∃ d : Nat, c0 = (d : Int) := ⟨c0.toNat, by omega⟩
  obtain ⟨k, rfl⟩ : ∃ k : Nat, k0 = (k : Int) := ⟨k0.toNat, by omega⟩
  obtain ⟨hAs, hAl, hAc, hAn, hAr⟩ := hA
  have HAl := Lib.hid hAl
  have HAs := Lib.hid hAs
  have hmk := make_int n (by omega)
  clear hAl hAs hAn hAr h1 h3
  go_enter Try.func12, Try.ntmps12
  go_wp2_with fail
  clear hmk
  have hml : (IL (mask 256 l)).length = n := by rw [IL_length, mask_length, HAl.out]
  have Hml := Lib.hid hml
  clear hml
  go_loopw [8] (fun i wr => ∃ j : Nat, j ≤ n ∧ i = .int .i64 (j : Int) ∧ wr.heap[w.heap.size]? = some (.cells (I (half (IL (mask 256 l)) j)) 3 (0, 0)) ∧ Below w.heap.size w wr) (fun i _ => n - (intOf i).toNat)
  case atStart =>
    refine ⟨0, Nat.zero_le _, rfl, ?_, (Below.refl _ _).alloc (Nat.le_refl _) _⟩
    rw [half_zero, Hml.out]
    exact heap_alloc_new w _
  case round =>
    obtain ⟨j, hj, rfl, hblk, hB⟩ := hrel
    by_cases hlt : j < n
    · have hjl : j < l.length := by rw [HAl.out]; exact hlt
      obtain ⟨ad, rfl, hca⟩ := (HAs.out.below hB).some (j := j) (by rw [VI_length]; exact hjl)
      rw [VI_get _ _ hjl] at hca
      have hbit := i64_and255 (l.getD j 0)
      have hset := half_set (IL (mask 256 l)) j (by rw [Hml.out]; exact hlt)
      rw [mask_getD 256 (by decide) l j hjl] at hset
      have Hset := Lib.hid hset
      have hcell : wr.cell? ⟨w.heap.size, j, none⟩ = some (.int .i64 ((half (IL (mask 256 l)) j).getD j 0)) := by
        rw [cell_blk hblk, I_get _ _ (by rw [half_length _ _ (by rw [Hml.out]; exact hj), Hml.out]; exact hlt)]
      have hfr := frozen_blk hblk j
      have Hblk := Lib.hid hblk
      clear hset hblk
      generalize l.getD j 0 = x at *
      go_wp2_with fail
      refine ⟨⟨j + 1, by omega, rfl, ?_, below_cell hB (Nat.le_refl _) _ _ rfl⟩, ?_⟩
      · rw [← Hset.out, ← I_set]
        exact blk_set Hblk.out j _
      · show n - ((j : Int) + 1).toNat < n - ((j : Int)).toNat
        omega
    · obtain rfl : j = n := by omega
      have hT := build_any wr (some ⟨w.heap.size, 0, none⟩) j j 8 (mask 256 l) (by decide) (by decide) (by rw [mask_length, HAl.out]) (by omega) (fun h => by cases h) (by
        have e : half (IL (mask 256 l)) j = IL (mask 256 l) := by
          have := half_all (IL (mask 256 l)); rwa [Hml.out] at this
        rw [e] at hblk
        exact sl_blk (xs := VI (IL (mask 256 l))) hblk) (mask_lt 256 (by decide) l)
      have HT := Lib.hid hT
      clear hT hblk
      obtain ⟨hnx, hmo⟩ := cntZ_next (IL (mask 256 l)) (d : Int) 0 j (Nat.zero_le _)
      rw [rk_zero, Nat.sub_zero] at hnx
      have hrn : rk (IL (mask 256 l)) (d : Int) j ≤ j := rk_le _ _ _
      have hcn := cntZ_le (IL (mask 256 l)) (d : Int) 0 j
      rw [Hml.out] at hcn
      have Hml2 : Hid ((mask 256 l).length = j) := by rw [mask_length]; exact HAl.out
      clear hmo
      generalize mask 256 l = m at *
      go_wp2_with fail
      go_at_call 26
      refine HT.out.mono ?_
      rintro e w1 ⟨b, rfl, hTM, hB1⟩
      have hB2 := below_step hB hB1
      clear hB hB1 HT
      have hc0 := hTM.c0
      rw [Hml2.out] at hc0
      have HTM := Lib.hid hTM
      have HL := Lib.hid (fun (W' : World) (h : Below w1.heap.size w1 W') => tlen_cell b (j : Int) W' (by rw [World.cell?_of_block (w := w1) (h.block _ (World.block_lt_of_cell? w1 _ hc0))]; exact hc0))
      have HR := Lib.hid (fun (W' : World) (h : Below w1.heap.size w1 W') (i : Int) => trankZ (hTM.below h) (d : Int) i)
      have HC1 := Lib.hid (fun (W' : World) (h : Below w1.heap.size w1 W') => tbelowZ (hTM.below h) ((d : Int) + 1) 0 (j : Int))
      have HC0 := Lib.hid (fun (W' : World) (h : Below w1.heap.size w1 W') => tbelowZ (hTM.below h) (d : Int) 0 (j : Int))
      rw [show (0 : Int).toNat = 0 from rfl, Int.toNat_natCast, hnx] at HC1
      rw [show (0 : Int).toNat = 0 from rfl, Int.toNat_natCast] at HC0
      have HG := Lib.hid (fun (W' : World) (h : Below w1.heap.size w1 W') (i : Int) => tgetZ (hTM.below h) i)
      have HS := Lib.hid (tselZ hTM (d : Int) (k : Int))
      clear hTM hc0 hnx
      cases hs : sl (IL m) (d : Int) k with
      | none =>
        rw [show slZ (IL m) (d : Int) (k : Int) = -1 from slZ_none (sl_none.1 hs)] at HS
        have hle := sl_none.1 hs
        rw [Hml.out] at hle
        have HR2 := Lib.hid (fun (W' : World) (h : Below w1.heap.size w1 W') => HR.out W' h (j : Int))
        rw [Int.toNat_natCast] at HR2
        clear hs HG HR
        generalize rk (IL m) (d : Int) j = R at *
        generalize cntZ (IL m) (d : Int) 0 j = C at *
        have hkR : ¬ k < R := by omega
        clear hle
        go_wp2_with fail
        go_at_call 29
        refine HS.out.mono ?_
        rintro e w2 ⟨rfl, hB3⟩
        go_wp2_with fail
        go_at_call 32
        refine (HL.out _ hB3).mono ?_
        rintro e w' ⟨rfl, rfl⟩
        go_wp2_with fail
        go_at_call 27
        refine (HR2.out _ hB3).mono ?_
        rintro e w4 ⟨rfl, hB4⟩
        have hB34 := below_step hB3 hB4
        go_wp2_with fail
        go_at_call 28
        refine (HC1.out _ hB34).mono ?_
        rintro e w5 ⟨rfl, hB5⟩
        have hB35 := below_step hB34 hB5
        go_wp2_with fail
        go_at_call 28
        refine (HC0.out _ hB35).mono ?_
        rintro e w6 ⟨rfl, hB6⟩
        have hB36 := below_step hB35 hB6
        go_wp2_with fail
        go_at_call 30
        refine (known4_any _).mono ?_
        rintro e w7 ⟨rfl, hB7⟩
        go_wp2_with fail
        go_ret
        exact ⟨rfl, below_step hB2 (below_step hB36 hB7)⟩
      | some p =>
        rw [show slZ (IL m) (d : Int) (k : Int) = (p : Int) from slZ_some hs] at HS
        obtain ⟨hp, hpc, hpk⟩ := sl_some.1 hs
        have hkr : k < rk (IL m) (d : Int) j := by
          have h1 := rk_succ (IL m) (d : Int) p hp
          rw [if_pos hpc, hpk] at h1
          have h2 := rk_mono (IL m) (d : Int) (show p + 1 ≤ j by rw [Hml.out] at hp; omega)
          omega
        have HG2 := Lib.hid (fun (W' : World) (h : Below w1.heap.size w1 W') => HG.out W' h (p : Int))
        rw [show atZ (IL m) (p : Int) = (d : Int) by rw [atZ_in hp]; simp [List.getD, List.getElem?_eq_getElem hp, hpc]] at HG2
        have HRp := Lib.hid (fun (W' : World) (h : Below w1.heap.size w1 W') => HR.out W' h (p : Int))
        rw [Int.toNat_natCast, hpk] at HRp
        have HR2 := Lib.hid (fun (W' : World) (h : Below w1.heap.size w1 W') => HR.out W' h (j : Int))
        rw [Int.toNat_natCast] at HR2
        rw [Hml.out] at hp
        clear hs HG HR hpc hpk
        generalize rk (IL m) (d : Int) j = R at *
        generalize cntZ (IL m) (d : Int) 0 j = C at *
        go_wp2_with fail
        go_at_call 29
        refine HS.out.mono ?_
        rintro e w2 ⟨rfl, hB3⟩
        go_wp2_with fail
        go_at_call 31
        refine (HG2.out _ hB3).mono ?_
        rintro e w3 ⟨rfl, hBa⟩
        have hB3 := below_step hB3 hBa
        go_wp2_with fail
        go_at_call 27
        refine (HRp.out _ hB3).mono ?_
        rintro e w3 ⟨rfl, hBb⟩
        have hB3 := below_step hB3 hBb
        go_wp2_with fail
        go_at_call 32
        refine (HL.out _ hB3).mono ?_
        rintro e w' ⟨rfl, rfl⟩
        go_wp2_with fail
        go_at_call 27
        refine (HR2.out _ hB3).mono ?_
        rintro e w4 ⟨rfl, hB4⟩
        have hB34 := below_step hB3 hB4
        go_wp2_with fail
        go_at_call 28
        refine (HC1.out _ hB34).mono ?_
        rintro e w5 ⟨rfl, hB5⟩
        have hB35 := below_step hB34 hB5
        go_wp2_with fail
        go_at_call 28
        refine (HC0.out _ hB35).mono ?_
        rintro e w6 ⟨rfl, hB6⟩
        have hB36 := below_step hB35 hB6
        go_wp2_with fail
        go_at_call 30
        refine (known4_any _).mono ?_
        rintro e w7 ⟨rfl, hB7⟩
        go_wp2_with fail
        go_ret
        exact ⟨rfl, below_step hB2 (below_step hB36 hB7)⟩
end Go.Proofs.Ytfgkkffgcgjhfaa
