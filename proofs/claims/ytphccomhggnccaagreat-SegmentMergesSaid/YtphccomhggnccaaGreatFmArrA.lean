/- suffix: Array. -/
import Derived.Test.YtphccomhggnccaaGreatFmA
namespace Go.Proofs.YtphccomhggnccaaGreat
set_option maxRecDepth 100000
set_option linter.unusedVariables false
set_option linter.unusedSimpArgs false
set_option maxRecDepth 100000
open Go.RowKit Fm
set_option maxHeartbeats 20000000 in
theorem array_any (w : World) (b off n cap : Nat) (s : List Nat) (hl : s.length = n) (h1 : 1 ≤ n) (hn : n ≤ 65536) (hS : Sl w (some ⟨b, off, none⟩) (VI (NI s))) (hb : b < w.heap.size) :
    Calls Tryz.prog 136 #[.slice (some ⟨b, off, none⟩) n cap] w fun e w' => ∃ g sa, e = .returned (.tuple #[.slice (some ⟨g, 0, none⟩) n n, .int .i64 0]) ∧ w.heap.size ≤ g ∧ IB w' g (NI sa) ∧ IsSA s sa ∧ Below w.heap.size w w' := by
  have hcell : ∀ j, j < n → w.cell? ⟨b, off + j, none⟩ = some (.int .i64 ((s.getD j 0 : Nat) : Int)) := fun j hj => by
    have := hS.cell _ rfl j _ (VI_get (NI s) j (by rw [NI_length, hl]; exact hj))
    rwa [NI_getD _ _ (by rw [hl]; exact hj), show (⟨b, off, none⟩ : Addr).add j = ⟨b, off + j, none⟩ by unfold Addr.add; split <;> simp_all] at this
  have hI : Ints w.heap.size w (.slice (some ⟨b, off, none⟩) n cap) (NI s) := .inr ⟨b, off, cap, by rw [NI_length, hl], hb, fun j hj => by
    rw [NI_length, hl] at hj
    rw [hcell j hj]
    congr 1
    rw [← NI_getD _ _ (by rw [hl]; exact hj)]
    rfl⟩
  have Hcell := Lib.hid hcell
  have HI := Lib.hid hI
  have Hl := Lib.hid hl
  clear hS hcell hI hl
  have hmk := make_int n (by omega)
  have Hmk := Lib.hid hmk
  clear hmk
  go_enter Tryz.func136, Tryz.ntmps136
  go_wp2_with fail
  go_loop [5, 29] (fun c i => ∃ k : Nat, k ≤ n ∧ i = .int .i64 (k : Int)) (fun _ i => n - (intOf i).toNat)
  case atStart => exact ⟨0, Nat.zero_le _, rfl⟩
  case round =>
    obtain ⟨k, hk, rfl⟩ := hrel
    by_cases hkm : k < n
    · have hca := Hcell.out k hkm
      generalize s.getD k 0 = x at *
      have hx : ¬ (x : Int) < 0 := by omega
      go_wp2
      go_round
      case rel => exact ⟨k + 1, by omega, by go_num⟩
      case measure => simp [intOf]; omega
    · obtain rfl : k = n := by omega
      go_upto_region 10 with fail
      obtain ⟨wn, hwn⟩ : ∃ wn, w.alloc (.cells #[.int .i64 (k : Int)] 3) = wn := ⟨_, rfl⟩
      have hnb : wn.heap[w.heap.size]? = some (.cells #[.int .i64 (k : Int)] 3 (0, 0)) := by rw [← hwn]; exact heap_alloc_new w _
      have hBn : Below w.heap.size w wn := by rw [← hwn]; exact below_new w _
      have hsn : wn.heap.size = w.heap.size + 1 := by rw [← hwn]; simp
      rw [hwn]
      clear hwn
      go_wp2_with fail
      go_at_call 188
      refine (values_any (some ⟨b, off, none⟩) k cap wn).mono ?_
      rintro e w1 ⟨rfl, hw1⟩
      have hB1 : Below wn.heap.size wn w1 := by rw [hw1]; exact below_new wn _
      have hc1 : w1.cell? ⟨w.heap.size + 1, 0, none⟩ = some (.slice (some ⟨b, off, none⟩) k cap) := by rw [hw1, ← hsn, cell_blk (heap_alloc_new wn _)]; rfl
      have hs1 : w1.heap.size = wn.heap.size + 1 := by rw [hw1]; simp
      have hB01 := below_step hBn hB1
      have HSo := Lib.hid (sorted_any (w.heap.size + 1) w.heap.size _ (NI s) (by rw [NI_length, Hl.out]; omega) w1 (by omega) (by omega) hc1 (HI.out.below hB01))
      clear hw1 hc1
      go_wp2_with fail
      go_at_call 187
      refine HSo.out.mono ?_
      rintro e w2 ⟨v2, rfl, hO2, hB2⟩
      have hperm : ((NI s).mergeSort fun x y => decide (x ≤ y)).Perm (s.map fun x : Nat => (x : Int)) := List.mergeSort_perm _ _
      have hsort : ((NI s).mergeSort fun x y => decide (x ≤ y)).Pairwise (· ≤ ·) := by
        have := List.pairwise_mergeSort (le := fun x y : Int => decide (x ≤ y)) (fun a b c h1 h2 => by simp only [decide_eq_true_eq] at *; omega) (fun a b => by simp only [Bool.or_eq_true, decide_eq_true_eq]; omega) (NI s)
        exact this.imp fun h => by simpa using h
      have hlt2 : ((NI s).mergeSort fun x y => decide (x ≤ y)).length = k := by rw [List.length_mergeSort, NI_length, Hl.out]
      have Hinv := Lib.hid (Inv.first hperm hsort)
      have HsU := Lib.hid (hsort.sublist (Fm.compact_sub _))
      have hul := Fm.compact_len ((NI s).mergeSort fun x y => decide (x ≤ y))
      rw [hlt2] at hul
      generalize (NI s).mergeSort (fun x y => decide (x ≤ y)) = t at *
      have HCo := Lib.hid (compact_own hO2 (by omega) hB2.size)
      have hB02 := below_step hB01 hB2
      clear hperm hsort HSo hO2
      go_wp2_with fail
      go_at_call 186
      refine HCo.out.mono ?_
      rintro e w3 ⟨v3, rfl, hO3, hB3⟩
      have hB03 := hB02.trans (hB3.mono (by omega))
      have hnb3 := (hB3.block _ (by omega)).trans ((hB2.block _ (by omega)).trans ((hB1.block _ (by omega)).trans hnb))
      have hs3 : w.heap.size + 2 ≤ w3.heap.size := by have q1 := hB2.size; have q2 := hB3.size; omega
      generalize Lib.compact t = u at *
      have HO3 := Lib.hid hO3
      have HB03 := Lib.hid hB03
      have hcn : w3.cell? ⟨w.heap.size, 0, none⟩ = some (.int .i64 (k : Int)) := (cell_blk hnb3 0).trans rfl
      clear hO3 HCo hB03 hB02 hB01 hB1 hB2 hB3 hBn hnb hs1 hlt2
      have hmk := Hmk.out
      go_upto_region 12 with fail
      clear hmk
      obtain ⟨r1, hr1⟩ : ∃ r1, w3.heap.size = r1 := ⟨_, rfl⟩
      have Hr1 := Lib.hid hr1
      have Hnb3 := Lib.hid hnb3
      rw [hr1] at hs3 ⊢
      obtain ⟨wA, hwA⟩ : ∃ wA, (w3.alloc (.cells (I (List.replicate k 0)) 3)).alloc (.cells #[.slice (some ⟨r1, 0, none⟩) k k] 26) = wA := ⟨_, rfl⟩
      have hBA : Below w3.heap.size w3 wA := by rw [← hwA]; exact ((Below.refl _ w3).alloc (Nat.le_refl _) _).alloc (by simp) _
      have hA1 : IB wA r1 (List.replicate k 0) := by rw [← hwA, ← hr1]; exact blk_alloc (heap_alloc_new w3 _) _
      have hA2 : wA.heap[r1 + 1]? = some (.cells #[.slice (some ⟨r1, 0, none⟩) k k] 26 (0, 0)) := by
        rw [← hwA, ← hr1]
        have := heap_alloc_new (w3.alloc (.cells (I (List.replicate k 0)) 3)) (.cells #[.slice (some ⟨w3.heap.size, 0, none⟩) k k] 26)
        simpa using this
      have hsA : wA.heap.size = r1 + 2 := by rw [← hwA]; simp; omega
      have hcnA : wA.cell? ⟨w.heap.size, 0, none⟩ = some (.int .i64 (k : Int)) := by
        rw [cell_blk ((hBA.block _ (by omega)).trans hnb3)]; rfl
      rw [hwA]
      clear hwA hnb3 hcn hr1
      have HA1 := Lib.hid hA1
      have HA2 := Lib.hid hA2
      have HsA := Lib.hid hsA
      have HBA := Lib.hid hBA
      clear hA1 hA2 hsA hBA
      have hmk := Hmk.out
      go_upto_region 13 with fail
      clear hmk hcnA
      rw [HsA.out]
      have hBB : Below wA.heap.size wA (wA.alloc (.cells (I (List.replicate k 0)) 3)) := below_new wA _
      have hS0 : IB (wA.alloc (.cells (I (List.replicate k 0)) 3)) (r1 + 2) (fillA k 0 fun i => (i : Int)) := by
        rw [fillA_zero, ← HsA.out]; exact heap_alloc_new wA _
      have hR0 : IB (wA.alloc (.cells (I (List.replicate k 0)) 3)) r1 (fillA k 0 fun i => ((rk0 u s i : Nat) : Int)) := by
        rw [fillA_zero]; exact HA1.out.below hBB
      have Hst := Lib.hid (And.intro hR0 (And.intro hS0 (And.intro (blk_alloc HA2.out (.cells (I (List.replicate k 0)) 3)) (below_step HBA.out hBB))))
      clear hS0 hR0 hBB HA2 HA1 HBA HsA
      go_wp2_with fail
      go_loopw [10, 11, 48] (fun x y q wr => ∃ j : Nat, j ≤ k ∧ q = .int .i64 (j : Int) ∧ IB wr r1 (fillA k j fun i => ((rk0 u s i : Nat) : Int)) ∧ IB wr (r1 + 2) (fillA k j fun i => (i : Int)) ∧ wr.heap[r1 + 1]? = some (.cells #[.slice (some ⟨r1, 0, none⟩) k k] 26 (0, 0)) ∧ Below w3.heap.size w3 wr) (fun _ _ q _ => k - (intOf q).toNat)
      case atStart => exact ⟨0, Nat.zero_le _, rfl, Hst.out⟩
      case round =>
        clear Hst
        obtain ⟨j, hj, rfl, hR, hS, hrb, hB⟩ := hrel
        by_cases hjk : j < k
        · have hca : wr.cell? ⟨b, off + j, none⟩ = some (.int .i64 ((s.getD j 0 : Nat) : Int)) := by
            rw [World.cell?_of_block (w := w) ((below_step HB03.out hB).block _ (World.block_lt_of_cell? w _ (Hcell.out j hjk)))]; exact Hcell.out j hjk
          have hcr : wr.cell? ⟨r1 + 1, 0, none⟩ = some (.slice (some ⟨r1, 0, none⟩) k k) := (cell_blk hrb 0).trans rfl
          have hcj := hR.cell (i := j) (by rw [fillA_length]; exact hjk)
          have hfj := hR.free j
          go_upto_region 16 with fail
          have HSe := Lib.hid (search_own (w := wr.drew) (HO3.out.below hB.drew) (by omega) HsU.out ((s.getD j 0 : Nat) : Int))
          have hxl : (u.countP fun y => decide (y < ((s.getD j 0 : Nat) : Int))) = rk0 u s j := rfl
          rw [hxl] at HSe
          have Hst1 := Lib.hid (fillA_set k j (fun i => ((rk0 u s i : Nat) : Int)) hjk)
          have Hst2 := Lib.hid (fillA_set k j (fun i => (i : Int)) hjk)
          have HR := Lib.hid hR
          have HS := Lib.hid hS
          have Hrb := Lib.hid hrb
          have HB := Lib.hid hB
          have hne : ¬ r1 = r1 + 2 := by omega
          have hne2 : ¬ r1 + 2 = r1 := by omega
          have hcs := hS.cell (i := j) (by rw [fillA_length]; exact hjk)
          have hfs := hS.free j
          have hj0 : (0 : Int) ≤ (j : Int) := by omega
          have hj1 : (j : Int) < (k : Int) := by omega
          clear hxl hR hS hrb hB hca
          generalize u.contains ((s.getD j 0 : Nat) : Int) = bb at *
          go_region_with (go_at_call 58; refine HSe.out.mono ?_; rintro e w' ⟨rfl, q, rfl⟩)
          all_goals go_wp2_with fail
          all_goals refine ⟨⟨j + 1, by omega, rfl, ?_, ?_, ?_, ?_⟩, ?_⟩
          all_goals first
            | (rw [← Hst1.out]; exact (IB.set (w := wr.drewN (1 + q)) HR.out j _).other hne j _)
            | (rw [← Hst2.out]; exact IB.set (IB.other (w := wr.drewN (1 + q)) HS.out hne2 j _) j _)
            | exact blk_other (blk_other (w := wr.drewN (1 + q)) Hrb.out (by omega) j _) (by omega) j _
            | exact Below.setCell (Below.setCell (HB.out.trans (belowD _ wr (1 + q))) (by have := Hr1.out; show w3.heap.size ≤ r1; omega) _) (by have := Hr1.out; show w3.heap.size ≤ r1 + 2; omega) _
            | (show k - ((j : Int) + 1).toNat < k - ((j : Int)).toNat; omega)
        · obtain rfl : j = k := by omega
          rw [fillA_all] at hR hS
          have hR2 : IB wr r1 (NI ((List.range j).map (rk0 u s))) := by rw [← NI_FA]; exact hR
          have hS2 : IB wr (r1 + 2) (NI (List.range j)) := by
            have := NI_FA j (fun i => i)
            rw [List.map_id'] at this
            rw [← this]; exact hS
          have hinv := Hinv.out
          rw [Hl.out] at hinv
          have hinv2 := inv_list (g := fun p => ((List.range j).map (rk0 u s)).getD p 0) hinv (fun p hp => list_at j _ p (by rw [Hl.out] at hp; exact hp))
          rw [← bucket_list (g := fun p => ((List.range j).map (rk0 u s)).getD p 0) (fun p hp => list_at j _ p (List.mem_range.1 hp))] at hinv2
          have hlt2 : ∀ p, p < j → ((List.range j).map (rk0 u s)).getD p 0 < u.length := fun p hp => hinv2.lt p (by rw [Hl.out]; exact hp)
          have hrl : ((List.range j).map (rk0 u s)).length = j := by simp
          rcases HO3.out with ⟨_, hu0⟩ | ⟨g3, cap3, hv3, hg3, hgs3, hc3, hH3⟩
          · exfalso
            have := hlt2 0 (by omega)
            rw [hu0] at this
            simp at this
          subst hv3
          generalize (List.range j).map (rk0 u s) = rank0 at *
          have HR2 := Lib.hid hR2
          have HS2 := Lib.hid hS2
          have Hinv2 := Lib.hid hinv2
          have Hlt2 := Lib.hid hlt2
          have Hrl := Lib.hid hrl
          have Hrb := Lib.hid hrb
          have HB := Lib.hid hB
          have hnbw := (hB.block _ (by have := Hr1.out; omega)).trans Hnb3.out
          have Hnb := Lib.hid hnbw
          have HBw := Lib.hid (below_step HB03.out hB)
          have hsz : r1 + 3 ≤ wr.heap.size := by have := hS.lt; omega
          have hcn : wr.cell? ⟨w.heap.size, 0, none⟩ = some (.int .i64 (j : Int)) := (cell_blk hnbw 0).trans rfl
          clear hR hS hR2 hS2 hinv hinv2 hlt2 hrl hrb hB hnbw hg3 hgs3 hc3 hH3 HO3 Hnb3 Hinv HsU HB03
          obtain ⟨wB, rfl⟩ : ∃ wB : World, wB = wr := ⟨_, rfl⟩
          go_upto_region 20 with fail
          have hmk := Hmk.out
          go_cut [13, 14] (fun s13 s14 wx => ∃ tb xb : Nat, s13 = .slice (some ⟨tb, 0, none⟩) j j ∧ s14 = .slice (some ⟨xb, 0, none⟩) j j ∧ tb ≠ xb ∧ wB.heap.size ≤ tb ∧ wB.heap.size ≤ xb ∧ IB wx tb (List.replicate j 0) ∧ IB wx xb (List.replicate j 0) ∧ Below wB.heap.size wB wx)
          case first =>
            have hcn1 : (wB.alloc (.cells (I (List.replicate j 0)) 3)).cell? ⟨w.heap.size, 0, none⟩ = some (.int .i64 (j : Int)) := by rw [cell_blk (blk_alloc Hnb.out _)]; rfl
            go_region
            all_goals go_wp2_with fail
            all_goals go_meet
            case rel => exact ⟨wB.heap.size, wB.heap.size + 1, rfl, rfl, by omega, by omega, by omega, (two_new wB _ _).1, (two_new wB _ _).2.1, (two_new wB _ _).2.2⟩
            case rel => exact ⟨wB.heap.size + 1, wB.heap.size, rfl, rfl, by omega, by omega, by omega, (two_new wB _ _).2.1, (two_new wB _ _).1, (two_new wB _ _).2.2⟩
          case rest =>
            clear hmk hcn
            obtain ⟨tb, xb, rfl, rfl, htx, ht0, hx0, hT, hX, hBc⟩ := hcut
            have hRc := HR2.out.below hBc
            have hSc := HS2.out.below hBc
            have hrbc := (hBc.block _ (by omega)).trans Hrb.out
            have hnbc := (hBc.block _ (by omega)).trans Hnb.out
            have hcr : wc.cell? ⟨r1 + 1, 0, none⟩ = some (.slice (some ⟨r1, 0, none⟩) j j) := (cell_blk hrbc 0).trans rfl
            have HK := Lib.hid (bykey_any (many := u.length) (c1' := j) (c2' := j) (c3' := j) hSc hRc hT (by omega) (by omega) (by simp) Hrl.out (by simp) (by omega) hul (List.Perm.refl _) Hlt2.out)
            have HX := Lib.hid hX
            have HBc := Lib.hid (below_step HBw.out hBc)
            have Hrbc := Lib.hid hrbc
            have Hnbc := Lib.hid hnbc
            have HRc := Lib.hid hRc
            have HSc := Lib.hid hSc
            have htl := hT.lt
            have hxl := hX.lt
            have hsc := hBc.size
            clear hT hX hBc hRc hSc hrbc hnbc HR2 HS2 Hrb Hnb HBw
            go_wp2_with fail
            go_at_call 189
            refine HK.out.mono ?_
            rintro e w5 ⟨rfl, hT5, hg5⟩
            clear HK hcr
            go_wp2_with fail
            have hs5 := hg5.size
            have hsbl : (bucket (List.range j) (fun p => rank0.getD p 0) u.length).length = j := by
              have := Hinv2.out.perm.length_eq
              rwa [List.length_range, Hl.out] at this
            have hAr : Ar w (w5.alloc (.cells #[.int .i64 1] 3)) (r1 + 1) w5.heap.size j tb (r1 + 2) xb r1 w5.heap.size 1 (bucket (List.range j) (fun p => rank0.getD p 0) u.length) rank0 (NI (List.range j)) (List.replicate j 0) :=
              ⟨blk_alloc hT5 _, blk_alloc (HSc.out.grown hg5 (by intro e; injection e with e; omega)) _, blk_alloc (HX.out.grown hg5 (by intro e; injection e with e; omega)) _, blk_alloc (HRc.out.grown hg5 (by intro e; injection e with e; omega)) _,
                blk_alloc (grown_blk hg5 Hnbc.out (by intro e; injection e with e; omega)) _, blk_alloc (grown_blk hg5 Hrbc.out (by intro e; injection e with e; omega)) _, heap_alloc_new w5 _,
                hsbl, by rw [NI_length, List.length_range], by simp, Hrl.out, by omega, by omega, by omega, by omega, by omega, by omega, ⟨by omega, by omega, by omega, by omega⟩, ⟨by omega, by omega, by omega, by omega⟩, Nat.le_refl _, ⟨by omega, by omega⟩,
                (HBc.out.grown hg5 (by have := HBc.out.size; omega) (fun q hq => by injection hq with hq; omega)).alloc (by have := HBc.out.size; omega) _⟩
            obtain ⟨K0, hK0⟩ : ∃ K0, w5.heap.size = K0 := ⟨_, rfl⟩
            obtain ⟨w6, hw6⟩ : ∃ w6, w5.alloc (.cells #[.int .i64 1] 3) = w6 := ⟨_, rfl⟩
            rw [hw6] at hAr ⊢
            rw [hK0] at hAr ⊢
            have HAr := Lib.hid hAr
            clear hAr hw6 hK0 hT5 hg5 hs5 HX HBc Hrbc Hnbc HRc HSc Hlt2 Hrl hsbl htl hxl hsc ht0 hx0 htx hsz HI hul Hr1
            obtain ⟨a1, ha1⟩ : ∃ a1, tb = a1 := ⟨_, rfl⟩
            obtain ⟨a2, ha2⟩ : ∃ a2, r1 + 2 = a2 := ⟨_, rfl⟩
            rw [ha1, ha2] at HAr ⊢
            clear ha1 ha2
            go_loopw [12, 14, 15] (fun s12 s14 s15 wr => ∃ (a3 a4 kb k many : Nat) (sa rank : List Nat) (tl xl : List Int), s12 = .int .i64 (many : Int) ∧ s14 = .slice (some ⟨a3, 0, none⟩) j j ∧ s15 = .pointer (some ⟨kb, 0, none⟩) ∧ Ar w wr (r1 + 1) K0 j a1 a2 a3 a4 kb k sa rank tl xl ∧ Inv s k (fun p => rank.getD p 0) many sa) (fun _ _ s15 wr => j - boxed s15 wr)
            case atStart => exact ⟨xb, r1, K0, 1, u.length, _, rank0, _, _, rfl, rfl, rfl, HAr.out, Hinv2.out⟩
            case round =>
              clear HAr Hinv2
              obtain ⟨a3, a4, kb, k, many, sa, rank, tl, xl, rfl, rfl, rfl, hA, hinv⟩ := hrel
              have hcn : wr.cell? ⟨w.heap.size, 0, none⟩ = some (.int .i64 (j : Int)) := (cell_blk hA.nbx 0).trans rfl
              by_cases hmn : many < j
              · have hk := hinv.small (by rw [Hl.out]; exact hmn)
                rw [Hl.out] at hk
                have hck : wr.cell? ⟨kb, 0, none⟩ = some (.int .i64 (k : Int)) := (cell_blk hA.kbx 0).trans rfl
                have hk1 := hinv.k1
                obtain ⟨d, hd⟩ : ∃ d, d + k = j := ⟨j - k, by omega⟩
                have hdk : (j : Int) - (k : Int) = (d : Int) + ((0 : Nat) : Int) := by omega
                obtain ⟨wC, rfl⟩ : ∃ wC : World, wC = wr := ⟨_, rfl⟩
                have HA := Lib.hid hA
                have Hinv := Lib.hid hinv
                have Hlt : Hid (∀ i, i < k → (tmpL j k sa).getD i 0 = d + i) := fun i hi => by rw [tmp_first _ _ _ _ hi]; omega
                have Hdk := Lib.hid hdk
                have Hbx := Lib.hid (boxed_of hck)
                have hd1 : d + k ≤ j := by omega
                have hd2 : j ≤ d + k := by omega
                clear hdk hd
                go_upto_region 28 with fail
                rw [Hdk.out]
                clear hA hinv hcn hck
                go_wp2_with fail
                go_loopw [16, 17] (fun s16 s17 wr => ∃ (q : Nat) (tl' : List Int), q ≤ k ∧ s16 = .int .i64 (q : Int) ∧ s17 = .int .i64 ((d : Int) + (q : Int)) ∧ Ar w wr (r1 + 1) K0 j a1 a2 a3 a4 kb k sa rank tl' xl ∧ ∀ i, i < q → tl'.getD i 0 = (((tmpL j k sa).getD i 0 : Nat) : Int)) (fun s16 _ _ => k - (intOf s16).toNat)
                case atStart => exact ⟨0, tl, Nat.zero_le _, rfl, rfl, HA.out, fun i hi => absurd hi (Nat.not_lt_zero _)⟩
                case round =>
                  clear HA
                  obtain ⟨q, tl', hq, rfl, rfl, hA, hT⟩ := hrel
                  have hcn : wr.cell? ⟨w.heap.size, 0, none⟩ = some (.int .i64 (j : Int)) := (cell_blk hA.nbx 0).trans rfl
                  by_cases hqk : q < k
                  · have hct := hA.b2.cell (i := q) (by rw [hA.l1]; omega)
                    have hft := hA.b2.free q
                    have HA := Lib.hid hA
                    have HT := Lib.hid hT
                    have htl1 := hA.l1
                    clear hA hT
                    go_wp2_with fail
                    refine ⟨⟨q + 1, tl'.set q ((d : Int) + (q : Int)), by omega, rfl, by go_num, HA.out.set2 _ _, fun i hi => ?_⟩, ?_⟩
                    · rw [set_getD _ _ _ _ (by omega)]
                      by_cases e : i = q
                      · subst e; rw [if_pos rfl, Hlt.out i (by omega)]; omega
                      · rw [if_neg e]; exact HT.out i (by omega)
                    · show k - ((q : Int) + 1).toNat < k - ((q : Int)).toNat
                      omega
                  · obtain rfl : q = k := by omega
                    have hdq : ¬ (d : Int) + (q : Int) < (j : Int) := by omega
                    obtain ⟨wD, rfl⟩ : ∃ wD : World, wD = wr := ⟨_, rfl⟩
                    have HA := Lib.hid hA
                    have HT := Lib.hid hT
                    clear hA hT
                    go_wp2_with fail
                    go_loopw [16, 19, 101] (fun s16 s19 s101 wr => ∃ (t m : Nat) (tl' : List Int), t ≤ j ∧ s101 = .int .i64 (t : Int) ∧ s16 = .int .i64 (m : Int) ∧ Hid (m = q + ((sa.take t).filter fun p => decide (q ≤ p)).length) ∧ Ar w wr (r1 + 1) K0 j a1 a2 a3 a4 kb q sa rank tl' xl ∧ ∀ i, i < m → tl'.getD i 0 = (((tmpL j q sa).getD i 0 : Nat) : Int)) (fun _ _ s101 _ => j - (intOf s101).toNat)
                    case atStart => exact ⟨0, q, tl', Nat.zero_le _, rfl, rfl, by simp [Hid], HA.out, HT.out⟩
                    case round =>
                      clear HA HT
                      obtain ⟨t, m, tl'', ht, rfl, rfl, Hm, hA, hT⟩ := hrel
                      have hck : wr.cell? ⟨kb, 0, none⟩ = some (.int .i64 (q : Int)) := (cell_blk hA.kbx 0).trans rfl
                      by_cases htj : t < j
                      · have hts : t < sa.length := by rw [hA.l0]; exact htj
                        have hcs := hA.b1.cell (i := t) (by rw [NI_length]; exact hts)
                        rw [NI_getD _ _ hts] at hcs
                        have Hf := Lib.hid (filt_take_succ q sa t hts)
                        have HA := Lib.hid hA
                        have HT := Lib.hid hT
                        have htl1 := hA.l1
                        have htn := tmp_next j q sa t hts
                        have html := tmp_length j q sa
                        have htm2 : (tmpL j q sa).length = j := by
                          have h9 := (tmp_perm (k := q) Hinv.out.perm (by rw [Hl.out]; omega)).length_eq
                          rw [Hl.out, List.length_range] at h9
                          exact h9
                        rw [htm2] at html
                        have hpj : sa.getD t 0 < j := by
                          rw [getD_at hts]
                          have h9 := List.mem_range.1 (Hinv.out.perm.mem_iff.1 (List.getElem_mem hts))
                          rw [Hl.out] at h9
                          exact h9
                        clear hA hT htm2
                        by_cases hqp : q ≤ sa.getD t 0
                        · obtain ⟨e1, e2⟩ := htn hqp
                          rw [← Hm.out] at e1
                          have hmj : m < j := by have := Hm.out; omega
                          have Hpq := Lib.hid (show ((sa.getD t 0 - q : Nat) : Int) = ((sa.getD t 0 : Nat) : Int) - (q : Int) by omega)
                          have He1 := Lib.hid e1
                          have hct := HA.out.b2.cell (i := m) (by rw [htl1]; exact hmj)
                          have hft := HA.out.b2.free m
                          have Hqp := Lib.hid hqp
                          clear e1 e2 htn html
                          generalize sa.getD t 0 = p at *
                          go_wp2_with fail
                          refine ⟨⟨t + 1, m + 1, tl''.set m ((p : Int) - (q : Int)), by omega, rfl, rfl, ?_, HA.out.set2 _ _, fun i hi => ?_⟩, ?_⟩
                          · have h8 := Hm.out
                            have h9 := Hf.out
                            rw [if_pos Hqp.out] at h9
                            show m + 1 = _
                            omega
                          · rw [set_getD _ _ _ _ (by omega)]
                            by_cases e : i = m
                            · subst e; rw [if_pos rfl, He1.out, Hpq.out]
                            · rw [if_neg e]; exact HT.out i (by omega)
                          · show j - ((t : Int) + 1).toNat < j - ((t : Int)).toNat
                            omega
                        · have Hqp := Lib.hid hqp
                          have hqp2 : sa.getD t 0 < q := by omega
                          clear hqp htn html
                          generalize sa.getD t 0 = p at *
                          go_wp2_with fail
                          refine ⟨⟨t + 1, m, tl'', by omega, rfl, rfl, ?_, HA.out, HT.out⟩, ?_⟩
                          · have h8 := Hm.out
                            have h9 := Hf.out
                            rw [if_neg Hqp.out] at h9
                            show m = _
                            omega
                          · show j - ((t : Int) + 1).toNat < j - ((t : Int)).toNat
                            omega
                      · obtain rfl : t = j := by omega
                        have hperm := Hinv.out.perm
                        rw [Hl.out] at hperm
                        have hTp := tmp_perm hperm (show q ≤ t by omega)
                        have hTl : (tmpL t q sa).length = t := by have h9 := hTp.length_eq; rwa [List.length_range] at h9
                        have hmt : m = t := by
                          have h8 := Hm.out
                          have html := tmp_length t q sa
                          rw [List.take_of_length_le (by rw [hA.l0]; exact Nat.le_refl _)] at h8
                          omega
                        subst hmt
                        have hTI : tl'' = NI (tmpL m q sa) := ni_ext (by rw [hA.l1, hTl]) (fun i hi => hT i (by rw [hTl] at hi; exact hi))
                        subst hTI
                        have hcr : wr.cell? ⟨r1 + 1, 0, none⟩ = some (.slice (some ⟨a4, 0, none⟩) m m) := (cell_blk hA.rbx 0).trans rfl
                        have HK := Lib.hid (bykey_any (many := many) (c1' := m) (c2' := m) (c3' := m) hA.b2 hA.b4 hA.b1 hA.n12.symm hA.n14.symm hTl hA.l3 (by rw [NI_length]; exact hA.l0) (by omega) (by omega) hTp (fun p hp => Hinv.out.lt p (by rw [Hl.out]; exact hp)))
                        have HA := Lib.hid hA
                        have Hk2 := Lib.hid hk
                        clear hA hT hperm hTp hTl Hm hck Hlt Hdk
                        go_wp2_with fail
                        go_at_call 189
                        refine HK.out.mono ?_
                        rintro e w7 ⟨rfl, hb7, hg7⟩
                        clear hcr HK
                        have hsb := (show (bucket (tmpL m q sa) (fun p => rank.getD p 0) many).Perm (List.range m) by
                          have hperm := Hinv.out.perm
                          rw [Hl.out] at hperm
                          exact (bucket_perm _ _ _ fun p hp => Hinv.out.lt p (by rw [Hl.out]; exact List.mem_range.1 ((tmp_perm hperm (show q ≤ m by omega)).mem_iff.1 hp))).trans (tmp_perm hperm (by omega)))
                        have hsl : (bucket (tmpL m q sa) (fun p => rank.getD p 0) many).length = m := by have h9 := hsb.length_eq; rwa [List.length_range] at h9
                        have hA7 := HA.out.sorted hb7 hsl hg7
                        have hnx := fun nx mm h1 h2 => Hinv.out.next (by rw [Hl.out]; omega) nx mm h1 h2
                        rw [Hl.out] at hnx
                        obtain ⟨sb, hsbe⟩ : ∃ sb, bucket (tmpL m q sa) (fun p => rank.getD p 0) many = sb := ⟨_, rfl⟩
                        rw [hsbe] at hA7 hsb hsl hnx
                        have Hnx := Lib.hid hnx
                        have Hsb := Lib.hid hsb
                        clear hnx hb7 hg7 HA hsbe
                        obtain ⟨_, hp2, hp3, hp4⟩ := perm_at hsb
                        have Hp2 := Lib.hid hp2
                        have Hp3 := Lib.hid hp3
                        have Hp4 := Lib.hid hp4
                        have hc0 := hA7.b1.cell (i := 0) (by rw [NI_length, hsl]; omega)
                        rw [NI_getD _ _ (by rw [hsl]; omega)] at hc0
                        have hb0 := hp3 0 (by omega)
                        have hcx := hA7.b3.cell (i := sb.getD 0 0) (by rw [hA7.l2]; exact hb0)
                        have hfx := hA7.b3.free (sb.getD 0 0)
                        have HA7 := Lib.hid hA7
                        clear hA7 hp2 hp3 hp4 hsb
                        obtain ⟨p0, hp0⟩ : ∃ p0, sb.getD 0 0 = p0 := ⟨_, rfl⟩
                        rw [hp0] at hc0 hb0 hcx hfx
                        have Hp0 := Lib.hid hp0
                        have hm0 : 0 < m := by omega
                        clear hp0
                        obtain ⟨D, hD⟩ : ∃ D : Nat → Nat → Bool, (fun a b => (rank.getD a 0, sec s q (fun p => rank.getD p 0) a) != (rank.getD b 0, sec s q (fun p => rank.getD p 0) b)) = D := ⟨_, rfl⟩
                        rw [hD] at Hnx
                        have HD := Lib.hid (fun a b => (congrFun (congrFun hD a) b).symm)
                        clear hD
                        have Hsec := Lib.hid (fun wx xl'' i (h : Ar w wx (r1 + 1) K0 m a1 a2 a3 a4 kb q sb rank (NI (tmpL m q sa)) xl'') (hi : i < m) => second_any wx kb w.heap.size (r1 + 1) a4 s rank q m m i ((cell_blk h.kbx 0).trans rfl) ((cell_blk h.nbx 0).trans rfl) ((cell_blk h.rbx 0).trans rfl) h.b4 h.l3 Hl.out (by omega) (by omega) hi)
                        go_upto_region 42 with fail
                        clear hc0 hcx hfx
                        go_wp2_with fail
                        go_loopw [21, 22, 23] (fun s21 s22 s23 wr => ∃ (r t : Nat) (xl' : List Int), Hid (t = r + 1) ∧ t ≤ m ∧ s21 = .int .i64 (t : Int) ∧ Ar w wr (r1 + 1) K0 m a1 a2 a3 a4 kb q sb rank (NI (tmpL m q sa)) xl' ∧ ∀ i, i ≤ r → xl'.getD (sb.getD i 0) 0 = ((lad D sb i : Nat) : Int)) (fun s21 _ _ _ => m - (intOf s21).toNat)
                        case atStart => exact ⟨0, 1, xl.set p0 0, rfl, by omega, rfl, HA7.out.set3 _ _, fun i hi => by
                          obtain rfl : i = 0 := by omega
                          rw [Hp0.out, set_getD _ _ _ _ (by rw [HA7.out.l2]; exact hb0), if_pos rfl]; rfl⟩
                        case round =>
                          clear HA7
                          obtain ⟨r, t, xl', Ht, hr, rfl, hA, hX⟩ := hrel
                          have hcn : wr.cell? ⟨w.heap.size, 0, none⟩ = some (.int .i64 (m : Int)) := (cell_blk hA.nbx 0).trans rfl
                          by_cases htm : t < m
                          · have ht := Ht.out
                            have hd : (t : Int) - 1 = (r : Int) := by omega
                            have hrm : r < m := by omega
                            have hca := hA.b1.cell (i := r) (by rw [NI_length, hsl]; omega)
                            have hcb := hA.b1.cell (i := t) (by rw [NI_length, hsl]; omega)
                            rw [NI_getD _ _ (by omega)] at hca hcb
                            have hpa := Hp3.out r (by omega)
                            have hpb := Hp3.out t (by omega)
                            have Hpn := Lib.hid (show ∀ i, i ≤ r → ¬ sb.getD i 0 = sb.getD t 0 from fun i hi e => by have := Hp4.out i t (by omega) (by omega) e; omega)
                            have Hlad := Lib.hid (show lad D sb t = lad D sb r + if D (sb.getD r 0) (sb.getD t 0) then 1 else 0 by rw [ht]; rfl)
                            have Hxr := Lib.hid (hX r (Nat.le_refl _))
                            have HX := Lib.hid hX
                            have HFin := Lib.hid (show ∀ v : Int, v = ((lad D sb t : Nat) : Int) → ∀ i, i ≤ t → (xl'.set (sb.getD t 0) v).getD (sb.getD i 0) 0 = ((lad D sb i : Nat) : Int) from fun v hv i hi => by
                              rw [set_getD _ _ _ _ (by rw [hA.l2]; exact hpb)]
                              by_cases e : i = t
                              · subst e; rw [if_pos rfl]; exact hv
                              · rw [if_neg (Hpn.out i (by omega))]; exact hX i (by omega))
                            have hpn := Hpn.out r (Nat.le_refl _)
                            have hxa := hA.b3.cell (i := sb.getD r 0) (by rw [hA.l2]; exact hpa)
                            rw [Hxr.out] at hxa
                            have hxb := hA.b3.cell (i := sb.getD t 0) (by rw [hA.l2]; exact hpb)
                            have hfb := hA.b3.free (sb.getD t 0)
                            have hra := hA.b4.cell (i := sb.getD r 0) (by rw [NI_length, hA.l3]; exact hpa)
                            have hrb := hA.b4.cell (i := sb.getD t 0) (by rw [NI_length, hA.l3]; exact hpb)
                            rw [NI_getD _ _ (by rw [hA.l3]; omega)] at hra hrb
                            have hcr : wr.cell? ⟨r1 + 1, 0, none⟩ = some (.slice (some ⟨a4, 0, none⟩) m m) := (cell_blk hA.rbx 0).trans rfl
                            have HDr := Lib.hid (HD.out (sb.getD r 0) (sb.getD t 0))
                            have hn34 := hA.n34
                            have HA := Lib.hid hA
                            clear hA hX ht
                            generalize sb.getD r 0 = pa at hca hpa Hlad Hxr hpn hxa hra HDr
                            generalize sb.getD t 0 = pb at hcb hpb Hpn Hlad hpn hxb hfb hrb HDr HFin
                            have hlr := lad_le D sb r
                            generalize lad D sb r = lr at Hlad Hxr hxa hlr
                            obtain ⟨x, hx⟩ : ∃ x, rank.getD pa 0 = x := ⟨_, rfl⟩
                            obtain ⟨y, hy⟩ : ∃ y, rank.getD pb 0 = y := ⟨_, rfl⟩
                            rw [hx] at hra
                            rw [hy] at hrb
                            have Hx := Lib.hid hx
                            have Hy := Lib.hid hy
                            clear hx hy
                            go_upto_region 45 with fail
                            go_quiet (fail)
                            have HY := Lib.hid ((HA.out.drewN nq).set3 pb (lr : Int))
                            go_upto_region 47 with fail
                            clear hca hcb hxa hxb hfb hra hrb hcr
                            obtain ⟨wy, hwy⟩ : ∃ wy, (wr.drewN nq).setCell ⟨a3, pb, none⟩ (.int .i64 (lr : Int)) = wy := ⟨_, rfl⟩
                            rw [hwy] at HY ⊢
                            clear hwy HA
                            have HsA := Lib.hid (fun k => (Hsec.out (wy.drewN k) _ pa (HY.out.drewN k) hpa).mono fun _ _ ⟨h, h'⟩ => And.intro h h'.symm)
                            have HsB := Lib.hid (fun k => (Hsec.out (wy.drewN k) _ pb (HY.out.drewN k) hpb).mono fun _ _ ⟨h, h'⟩ => And.intro h h'.symm)
                            have hra := HY.out.b4.cell (i := pa) (by rw [NI_length, HY.out.l3]; exact hpa)
                            have hrb := HY.out.b4.cell (i := pb) (by rw [NI_length, HY.out.l3]; exact hpb)
                            rw [NI_getD _ _ (by rw [HY.out.l3]; omega), Hx.out] at hra
                            rw [NI_getD _ _ (by rw [HY.out.l3]; omega), Hy.out] at hrb
                            have hcr : wy.cell? ⟨r1 + 1, 0, none⟩ = some (.slice (some ⟨a4, 0, none⟩) m m) := (cell_blk HY.out.rbx 0).trans rfl
                            have hxb := HY.out.b3.cell (i := pb) (by rw [HY.out.l2]; exact hpb)
                            rw [set_getD _ _ _ _ (by have := HY.out.l2; rw [List.length_set] at this; omega), if_pos rfl] at hxb
                            have hfb := HY.out.b3.free pb
                            rw [Hx.out, Hy.out, pair_ne] at HDr
                            generalize sec s q (fun p => rank.getD p 0) pa = ua at HsA HDr
                            generalize sec s q (fun p => rank.getD p 0) pb = ub at HsB HDr
                            by_cases hxy : (x : Int) = (y : Int)
                            · obtain rfl : x = y := by omega
                              by_cases huv : (ua : Int) - 1 = (ub : Int) - 1
                              · obtain rfl : ua = ub := by omega
                                go_quiet ((first | (go_at_call_of 190 pa; exact Calls.quiet_of_same (HsA.out _)) | (go_at_call_of 190 pb; exact Calls.quiet_of_same (HsB.out _))))
                                go_wp2_with fail
                                refine ⟨⟨t, t + 1, _, rfl, by omega, rfl, HY.out.drewN _, fun i hi => HFin.out _ ?_ i hi⟩, ?_⟩
                                · have e : D pa pb = false := by rw [HDr.out]; simp
                                  rw [Hlad.out, e]; rfl
                                · show m - ((t : Int) + 1).toNat < m - ((t : Int)).toNat
                                  omega
                              · go_quiet ((first | (go_at_call_of 190 pa; exact Calls.quiet_of_same (HsA.out _)) | (go_at_call_of 190 pb; exact Calls.quiet_of_same (HsB.out _))))
                                go_wp2_with fail
                                refine ⟨⟨t, t + 1, _, rfl, by omega, rfl, (HY.out.drewN _).set3 pb ((lr : Int) + 1), fun i hi => ?_⟩, ?_⟩
                                · have e : D pa pb = true := by
                                    rw [HDr.out]
                                    have : ¬ ua = ub := by omega
                                    simp [this]
                                  rw [List.set_set]
                                  exact HFin.out _ (by rw [Hlad.out, e]; rfl) i hi
                                · show m - ((t : Int) + 1).toNat < m - ((t : Int)).toNat
                                  omega
                            · go_quiet (fail)
                              go_wp2_with fail
                              refine ⟨⟨t, t + 1, _, rfl, by omega, rfl, (HY.out.drewN _).set3 pb ((lr : Int) + 1), fun i hi => ?_⟩, ?_⟩
                              · have e : D pa pb = true := by
                                  rw [HDr.out]
                                  have : ¬ x = y := by omega
                                  simp [this]
                                rw [List.set_set]
                                exact HFin.out _ (by rw [Hlad.out, e]; rfl) i hi
                              · show m - ((t : Int) + 1).toNat < m - ((t : Int)).toNat
                                omega
                          · obtain rfl : m = t := by omega
                            have hm1 : (m : Int) - 1 = (r : Int) := by have := Ht.out; omega
                            have hrm : r < m := by have := Ht.out; omega
                            have Hrm := Lib.hid (show m - 1 = r by have := Ht.out; omega)
                            have hNI := ni_toNat xl' (fun p hp => by
                              obtain ⟨i, hi, e⟩ := Hp2.out p (by rw [hA.l2] at hp; exact hp)
                              have := hX i (by omega)
                              rw [e] at this
                              omega)
                            have HI2 := Lib.hid (Hnx.out (fun p => (xl'.map Int.toNat).getD p 0) (lad D sb r + 1) (fun i hi => by
                              have e1 := Hp3.out i hi
                              have e2 := hX i (by omega)
                              rw [hNI, NI_getD _ _ (by rw [List.length_map, hA.l2]; exact e1)] at e2
                              omega) (by rw [Hrm.out]))
                            have hHS := hA.swap hNI
                            have hxr := hX r (Nat.le_refl _)
                            have hpr := Hp3.out r hrm
                            rw [hNI, NI_getD _ _ (by rw [List.length_map, hA.l2]; exact hpr)] at hxr
                            have HNI := Lib.hid hNI
                            generalize xl'.map Int.toNat = rk at hHS HI2 hxr
                            have hcr : wr.cell? ⟨r1 + 1, 0, none⟩ = some (.slice (some ⟨a4, 0, none⟩) m m) := (cell_blk hA.rbx 0).trans rfl
                            have hfr : wr.frozen? ⟨r1 + 1, 0, none⟩ = false := frozen_blk hA.rbx 0
                            clear hA hX hNI HNI
                            go_upto_region 50 with fail
                            clear hcr hfr hcn
                            obtain ⟨wz, hwz⟩ : ∃ wz, wr.setCell ⟨r1 + 1, 0, none⟩ (.slice (some ⟨a3, 0, none⟩) m m) = wz := ⟨_, rfl⟩
                            rw [hwz] at hHS ⊢
                            clear hwz
                            have hcr : wz.cell? ⟨r1 + 1, 0, none⟩ = some (.slice (some ⟨a3, 0, none⟩) m m) := (cell_blk hHS.rbx 0).trans rfl
                            have hcn : wz.cell? ⟨w.heap.size, 0, none⟩ = some (.int .i64 (m : Int)) := (cell_blk hHS.nbx 0).trans rfl
                            have hcz := hHS.b1.cell (i := r) (by rw [NI_length, hsl]; exact hrm)
                            rw [NI_getD _ _ (by rw [hsl]; exact hrm)] at hcz
                            have hcw := hHS.b4.cell (i := sb.getD r 0) (by rw [NI_length, hHS.l3]; exact hpr)
                            rw [NI_getD _ _ (by rw [hHS.l3]; exact hpr), hxr] at hcw
                            have hlr := lad_le D sb r
                            have HHS := Lib.hid hHS
                            clear hHS hxr
                            generalize sb.getD r 0 = pz at hcz hcw hpr
                            generalize lad D sb r = lr at hcw HI2 hlr
                            go_quiet (fail)
                            have hck : (wz.drewN nq).cell? ⟨kb, 0, none⟩ = some (.int .i64 (q : Int)) := (cell_blk (HHS.out.drewN nq).kbx 0).trans rfl
                            have HHS2 := Lib.hid (HHS.out.drewN nq)
                            obtain ⟨wv, hwv⟩ : ∃ wv, wz.drewN nq = wv := ⟨_, rfl⟩
                            rw [hwv] at hck HHS2 ⊢
                            clear hwv
                            go_wp2_with fail
                            have e2 : (q : Int) * 2 = ((2 * q : Nat) : Int) := by omega
                            rw [e2]
                            refine ⟨⟨a4, a3, wv.heap.size, 2 * q, lr + 1, sb, rk, _, NI rank, rfl, rfl, rfl, HHS2.out.newk (2 * q), HI2.out⟩, ?_⟩
                            rw [boxed_of (cell_blk (HHS2.out.newk (2 * q)).kbx 0), Hbx.out]
                            omega
              · have HA := Lib.hid hA
                have Hinv := Lib.hid hinv
                clear hA hinv
                go_wp2_with fail
                go_ret2
                exact ⟨a1, sa, rfl, Nat.le_of_lt HA.out.lo.1, HA.out.b1, Hinv.out.done (by rw [Hl.out]; omega), HA.out.bel⟩
end Go.Proofs.YtphccomhggnccaaGreat
