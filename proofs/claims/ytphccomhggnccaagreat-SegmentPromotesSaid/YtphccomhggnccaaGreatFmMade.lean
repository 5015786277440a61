/- fm: made. -/
import Derived.Test.YtphccomhggnccaaGreatFmTwo
import Derived.StillTailTactics
namespace Go.Proofs.YtphccomhggnccaaGreat
set_option linter.unusedVariables false
set_option linter.unusedSimpArgs false
set_option maxRecDepth 100000
open Go.RowKit Fm

set_option maxHeartbeats 20000000 in
theorem made_fm (w : World) (b off n cap : Nat) (s : List Nat) (hl : s.length = n) (hc : Closed s) (hn : n ≤ 65536) (hS : Sl w (some ⟨b, off, none⟩) (VI (NI s))) (hb : b < w.heap.size) (hx : ∀ x ∈ s, x < 512) :
    Calls Tryz.prog 102 #[.slice (some ⟨b, off, none⟩) n cap] w fun e w' => ∃ (x : Nat) (sa : List Nat), e = .returned (.tuple #[.pointer (some ⟨x, 0, none⟩), .int .i64 0]) ∧ IdxM w' w.heap.size x s sa ∧ Below w.heap.size w w' := by
  have hpos := hc.pos
  rw [hl] at hpos
  have HA := Lib.hid (array_any w b off n cap s hl hpos hn hS hb)
  have HS := Lib.hid hS
  have Hl := Lib.hid hl
  have Hc := Lib.hid hc
  have Hx := Lib.hid hx
  clear hS hl hc hx
  go_enter Tryz.func102, Tryz.ntmps102
  go_wp2_with fail
  go_at_call 136
  refine HA.out.mono ?_
  rintro e w1 ⟨g, sa, rfl, hg, hI, hsa, hB1⟩
  have HSA := Lib.hid hsa
  have HI := Lib.hid hI
  have hgl := hI.lt
  have hs1 := hB1.size
  have HT := Lib.hid (turn_any w1 b off n cap s Hl.out Hc.out hn (HS.out.below hB1) (by omega))
  clear HA hsa hI
  go_wp2_with fail
  go_at_call 137
  refine HT.out.mono ?_
  rintro e w2 ⟨A, c2, sb, rfl, hsb, hSt, hAq, hB2⟩
  obtain rfl := HSA.out.unique hsb
  have htl : (trn s sa).length = n := by rw [trn_length HSA.out, Hl.out]
  obtain ⟨tb, toff, hA, _⟩ := hSt.lit (j := 0) (by rw [VI_length, NI_length, htl]; exact hpos)
  subst hA
  have htx : ∀ x ∈ trn s sa, x < 512 := fun x hx => Hx.out x ((trn_perm Hc.out HSA.out).mem_iff.1 hx)
  have hs2 := hB2.size
  obtain ⟨q1, q2⟩ := hAq _ rfl
  have HCn := Lib.hid (counts_any w2 tb toff n c2 (trn s sa) htl hn (rowAt_of hSt) q2 (fun j hj => htx _ (by rw [getD_at (by omega)]; exact List.getElem_mem _)))
  have HSt := Lib.hid hSt
  have Htl := Lib.hid htl
  have Htx := Lib.hid htx
  have HB2 := Lib.hid (below_step hB1 hB2)
  have Hb12 := Lib.hid hB2
  clear hSt hsb HT hAq hB2 htl htx hB1
  go_wp2_with fail
  go_at_call 138
  refine HCn.out.mono ?_
  rintro e w3 ⟨g3, rfl, hg3, hI3, hB3⟩
  have hg3l := hI3.lt
  have HI3 := Lib.hid hI3
  have HB3 := Lib.hid hB3
  clear HCn hI3 hB3
  go_wp2_with fail
  obtain ⟨wI, hwI⟩ : ∃ wI, (w3.alloc (.cells #[.int .i64 0] 3)).alloc (.cells #[.pointer none, .slice (some ⟨g3, 0, none⟩) 513 513, .slice (some ⟨w3.heap.size, 0, none⟩) 1 1, .pointer none, .pointer none, .slice none 0 0] 113) = wI := ⟨_, rfl⟩
  have hIx : wI.heap[w3.heap.size + 1]? = some (.cells #[.pointer none, .slice (some ⟨g3, 0, none⟩) 513 513, .slice (some ⟨w3.heap.size, 0, none⟩) 1 1, .pointer none, .pointer none, .slice none 0 0] 113 (0, 0)) := by
    rw [← hwI]
    have := heap_alloc_new (w3.alloc (.cells #[.int .i64 0] 3)) (.cells #[.pointer none, .slice (some ⟨g3, 0, none⟩) 513 513, .slice (some ⟨w3.heap.size, 0, none⟩) 1 1, .pointer none, .pointer none, .slice none 0 0] 113)
    simpa using this
  have hOw : wI.ownsRow w3.heap.size 3 1 (.slice (some ⟨w3.heap.size, 0, none⟩) 1 1) 1 (VI (NI [0])) := by
    rw [← hwI]; exact World.ownsRow.alloc (starts_new w3) _
  have hBI : Below w3.heap.size w3 wI := by rw [← hwI]; exact ((Below.refl _ w3).alloc (Nat.le_refl _) _).alloc (by simp) _
  have hsI : wI.heap.size = w3.heap.size + 2 := by rw [← hwI]; simp
  rw [hwI]
  clear hwI
  have hs3 := HB3.out.size
  have HBd := Lib.hid (build_any wI (some ⟨tb, toff, none⟩) n c2 9 (trn s sa) (by omega) (by omega) Htl.out (by omega) (fun h => by cases h) ((HSt.out.below HB3.out).below hBI) (fun x hx => by have := Htx.out x hx; omega))
  have HIx := Lib.hid hIx
  have HOw := Lib.hid hOw
  have HBI := Lib.hid hBI
  clear hIx hOw hBI
  refine HBd.out.mono ?_
  rintro e w4 ⟨tr, rfl, hTM, hB4⟩
  have hIx4 := (hB4.block _ (by omega)).trans HIx.out
  have HTM := Lib.hid hTM
  have HB4 := Lib.hid hB4
  have hs4 := hB4.size
  have hfx := frozen_blk hIx4 0
  have HIx4 := Lib.hid hIx4
  clear HBd hTM hB4 hIx4 HIx
  obtain ⟨x0, hx0⟩ : ∃ x0, w3.heap.size + 1 = x0 := ⟨_, rfl⟩
  rw [hx0] at HIx4 hfx ⊢
  have hc0 := (cell_blk HIx4.out 0).trans rfl
  go_upto_region 11 with fail
  obtain ⟨y0, hy0⟩ : ∃ y0, w3.heap.size = y0 := ⟨_, rfl⟩
  obtain ⟨less, hless⟩ : ∃ less, Value.slice (some ⟨g3, 0, none⟩) 513 513 = less := ⟨_, rfl⟩
  have hIx5 : (w4.setCell ⟨x0, 0, none⟩ (.pointer (some ⟨tr, 0, none⟩))).heap[x0]? = some (.cells #[.pointer (some ⟨tr, 0, none⟩), less, .slice (some ⟨y0, 0, none⟩) 1 1, .pointer none, .pointer none, .slice none 0 0] 113 (0, 0)) := by
    rw [← hy0, ← hless]; exact blk_set HIx4.out 0 _
  have hB5 : Below w3.heap.size w3 (w4.setCell ⟨x0, 0, none⟩ (.pointer (some ⟨tr, 0, none⟩))) :=
    below_cell (HBI.out.trans (HB4.out.mono (by omega))) (by omega) _ _ rfl
  have hOw5 : (w4.setCell ⟨x0, 0, none⟩ (.pointer (some ⟨tr, 0, none⟩))).ownsRow w3.heap.size 3 1 (.slice (some ⟨y0, 0, none⟩) 1 1) 1 (VI (NI [0])) := by
    have h9 := World.ownsRow.kept HOw.out (below_grown HB4.out (Nat.le_refl _) none) (.inr (by simp [Value.ownBlock]))
    rw [hy0] at h9
    rw [hy0]
    exact own_cell h9 x0 0 _ (by intro e; have e2 : y0 = x0 := Option.some.inj e; omega)
  have HK5 : Hid (∀ k, w3.heap.size + 2 ≤ k → k < w4.heap.size → (w4.setCell ⟨x0, 0, none⟩ (.pointer (some ⟨tr, 0, none⟩))).heap[k]? = w4.heap[k]?) := fun k h1 h2 => Below.heap_setCell w4 _ _ k (by show k ≠ x0; omega)
  have Hless := Lib.hid hless
  have Hy0 := Lib.hid hy0
  have Hx0 := Lib.hid hx0
  clear hc0 hless hfx hy0 hx0
  obtain ⟨w5, hw5⟩ : ∃ w5, w4.setCell ⟨x0, 0, none⟩ (.pointer (some ⟨tr, 0, none⟩)) = w5 := ⟨_, rfl⟩
  have hs5 : w5.heap.size = w4.heap.size := by rw [← hw5]; simp [World.setCell]
  rw [hw5] at hIx5 hB5 hOw5 HK5 ⊢
  clear hw5
  have HR := Lib.hid (rowAt_of HS.out)
  go_wp2_with fail
  go_loopw [8, 9, 50] (fun s8 s9 q wr => ∃ (j : Nat) (v : Value), j ≤ n ∧ q = .int .i64 (j : Int) ∧ wr.heap[x0]? = some (.cells #[.pointer (some ⟨tr, 0, none⟩), less, v, .pointer none, .pointer none, .slice none 0 0] 113 (0, 0)) ∧
      wr.ownsRow w3.heap.size 3 1 v (stp s j).length (VI (NI (stp s j))) ∧ Hid (∀ k, v.ownBlock = some k → k = y0 ∨ w5.heap.size ≤ k) ∧ Below w3.heap.size w3 wr ∧ w5.heap.size ≤ wr.heap.size ∧ Hid (∀ k, w3.heap.size + 2 ≤ k → k < w4.heap.size → wr.heap[k]? = w4.heap[k]?)) (fun _ _ q _ => n - (intOf q).toNat)
  case atStart => exact ⟨0, _, Nat.zero_le _, rfl, hIx5, hOw5, fun k hk => .inl (Option.some.inj hk).symm, hB5, Nat.le_refl _, HK5⟩
  case round =>
    clear hIx5 hOw5 hB5 HK5
    obtain ⟨j, v, hj, rfl, hIx, hOw, Hv, hB, hsz, HK⟩ := hrel
    by_cases hjn : j < n
    · have hca := HR.out.below (below_step (below_step HB2.out HB3.out) hB) hb j (by rw [Hl.out]; exact hjn)
      have HIx := Lib.hid hIx
      have hc2 := (cell_blk hIx 2).trans rfl
      have hfx := frozen_blk hIx 2
      have hstp := stp_succ s j
      have hjl := stp_le s j
      have HB := Lib.hid hB
      clear hIx hB
      by_cases h1 : s.getD j 0 = 1
      · rw [if_pos h1] at hstp
        have Hstp := Lib.hid hstp
        rw [h1] at hca
        clear hstp
        obtain ⟨A0, c9, hv, _, _, _⟩ := own_sl hOw
        subst hv
        have hOw' : wr.ownsRow w3.heap.size 3 1 (.slice A0 (stp s j).length c9) (NI (stp s j)).length (VI (NI (stp s j))) := by rw [NI_length]; exact hOw
        have hne : some x0 ≠ (Value.slice A0 (stp s j).length c9).ownBlock := fun e => by
          have := Hv.out x0 e.symm
          have := Hy0.out
          have := Hx0.out
          omega
        have hbl := HB.out.size
        go_wp2_with (at_builtin; refine app_int_mv rfl _ _ rfl w3.heap.size _ (NI (stp s j)) rfl (World.ownsRow.alloc hOw' _) ⟨wr.heap.size, 0, none⟩ 1 1 [((j : Int) + 1)] rfl rfl (sl_blk (heap_alloc_new wr _)) (by rw [NI_length]; omega) (by simp; omega) ?_; intro v' w7 hown7 hgrow hat; obtain ⟨A1, c1x, hv', _, _, _⟩ := own_sl hown7; subst hv'; have hIx7 := grown_blk hgrow (blk_alloc HIx.out _) hne; have hc7 := (cell_blk hIx7 2).trans rfl; have hf7 := frozen_blk hIx7 2)
        have e1 : NI (stp s (j + 1)) = NI (stp s j) ++ [((j : Int) + 1)] := by rw [Hstp.out]; simp [NI]
        have el : (NI (stp s j) ++ [((j : Int) + 1)]).length = (NI (stp s j)).length + 1 := by simp
        rw [el] at hown7 hat
        have hv7 : ∀ k, (Value.slice A1 ((NI (stp s j)).length + 1) c1x).ownBlock = some k → k = y0 ∨ w5.heap.size ≤ k := fun k hk => by
          rcases hat with h9 | h9
          · exact Hv.out k (h9.symm.trans hk)
          · rw [hk] at h9
            have := Option.some.inj h9
            simp at this
            omega
        have hne7 : (Value.slice A1 ((NI (stp s j)).length + 1) c1x).ownBlock ≠ some x0 := fun e => by
          have := hv7 x0 e
          have := Hy0.out
          have := Hx0.out
          omega
        go_roundw
        case rel =>
          refine ⟨j + 1, _, by omega, rfl, blk_set hIx7 2 _, ?_, hv7, ?_, ?_, ?_⟩
          · rw [← NI_length, e1, el]; exact own_cell hown7 x0 2 _ hne7
          · exact below_cell ((HB.out.alloc HB.out.size _).grown hgrow (by simp; omega) (fun k hk => (World.ownsRow.lt hOw k hk).1)) (by have := Hx0.out; omega) _ _ rfl
          · have h9 := hgrow.size
            have h8 : (wr.alloc (.cells #[.int .i64 ((j : Int) + 1)] 3)).heap.size = wr.heap.size + 1 := by simp
            show w5.heap.size ≤ (w7.setCell _ _).heap.size
            simp [World.setCell]
            omega
          · intro k h1 h2
            rw [Below.heap_setCell w7 _ _ k (by have := Hx0.out; show k ≠ x0; omega), hgrow.block k (by simp; omega) (fun e => by have := Hv.out k e.symm; have := Hy0.out; omega), ← HK.out k h1 h2]
            exact heap_alloc_old wr _ (by omega)
        case measure =>
          show n - ((j : Int) + 1).toNat < n - ((j : Int)).toNat
          omega
      · have h1i : ¬ ((s.getD j 0 : Nat) : Int) = 1 := by omega
        rw [if_neg h1, List.append_nil] at hstp
        have Hstp := Lib.hid hstp
        clear hstp
        generalize s.getD j 0 = x at *
        go_wp2_with fail
        refine ⟨⟨j + 1, v, by omega, rfl, HIx.out, by rw [Hstp.out]; exact hOw, Hv, HB.out, hsz, HK⟩, ?_⟩
        show n - ((j : Int) + 1).toNat < n - ((j : Int)).toNat
        omega
    · obtain rfl : n = j := by omega
      obtain ⟨w8, rfl⟩ : ∃ w8 : World, w8 = wr := ⟨_, rfl⟩
      have HIx8 := Lib.hid hIx
      have HOw8 := Lib.hid hOw
      have HB8 := Lib.hid hB
      have HBw8 := Lib.hid (below_step (below_step HB2.out HB3.out) hB)
      have hsa8 := HI.out.below (below_step (below_step Hb12.out HB3.out) hB)
      have Hsal := Lib.hid HSA.out.length
      clear hIx hOw hB
      go_wp2_with fail
      have HT0 := Lib.hid (Two.none w8 w8.heap.size 3 154)
      have Hmono := Lib.hid (fun j (h : j ≤ n) => ons_le sa j)
      go_loopw [10, 11, 12, 13, 71] (fun s10 s11 s12 s13 q wr => ∃ j : Nat, j ≤ n ∧ q = .int .i64 (j : Int) ∧ Two wr w8.heap.size 3 154 s10 s11 (ons sa j).length (plc sa j).length (VI (NI (ons sa j))) (V (plc sa j)) ∧ Below w8.heap.size w8 wr) (fun _ _ _ _ q _ => n - (intOf q).toNat)
      case atStart => exact ⟨0, Nat.zero_le _, rfl, HT0.out, Below.refl _ _⟩
      case round =>
        obtain ⟨j, hj, rfl, hT, hB⟩ := hrel
        by_cases hjn : j < n
        · have hca := (hsa8.below hB).cell (i := j) (by rw [NI_length, Hsal.out, Hl.out]; exact hjn)
          rw [NI_getD _ _ (by rw [Hsal.out, Hl.out]; exact hjn)] at hca
          have HT := Lib.hid hT
          have HB := Lib.hid hB
          have hbl := hB.size
          have ho1 := ons_succ sa j
          have ho2 := plc_succ sa j
          have hol := ons_le sa j
          have hpl := plc_length sa j
          clear hT hB
          by_cases h8 : sa.getD j 0 % 8 = 0
          · rw [if_pos h8] at ho1 ho2
            have Ho1 := Lib.hid ho1
            have Ho2 := Lib.hid ho2
            have Hpl := Lib.hid hpl
            clear ho1 ho2 hpl
            have hx65 : sa.getD j 0 < 65536 := by
              have := HSA.out.lt (p := sa.getD j 0) (by rw [getD_at (by rw [Hsal.out, Hl.out]; exact hjn)]; exact List.getElem_mem _)
              have := Hl.out
              omega
            generalize hx : sa.getD j 0 = x at *
            clear hx
            have h8i : (x : Int) % 8 = 0 := by omega
            obtain ⟨A0, c10, hv0, _, _, _⟩ := own_sl HT.out.fst
            obtain ⟨A1, c11, hv1, _, _, _⟩ := own_sl HT.out.snd
            subst hv0
            subst hv1
            have hT1 : wr.ownsRow w8.heap.size 3 1 (.slice A0 (ons sa j).length c10) (NI (ons sa j)).length (VI (NI (ons sa j))) := by rw [NI_length]; exact HT.out.fst
            have hbs := HB.out.size
            go_wp2_with (first | (at_builtin; refine app_int_mv rfl _ _ rfl w8.heap.size _ (NI (ons sa j)) rfl (World.ownsRow.alloc hT1 _) ⟨wr.heap.size, 0, none⟩ 1 1 [((j : Nat) : Int)] rfl rfl (sl_blk (heap_alloc_new wr _)) (by rw [NI_length]; omega) (by simp; omega) ?_; intro v10 w10 hown10 hg10 hat10; have hT10 := Two.grow HT.out _ hown10 hg10 hat10; have hB10 := below_app HB.out hg10 (Nat.le_refl _) (fun k hk => (World.ownsRow.lt HT.out.fst k hk).1)) | (at_builtin; refine app_u64_mv rfl _ _ rfl w8.heap.size _ (plc sa j) rfl (World.ownsRow.alloc hT10.snd _) ⟨w10.heap.size, 0, none⟩ 1 1 [x] rfl rfl (sl_blk (heap_alloc_new w10 _)) (by have := Hpl.out; omega) (by have := hB10.size; simp; omega) ?_; intro v11 w11 hown11 hg11 hat11; have hT11 := Two.grow hT10.turn _ hown11 hg11 hat11; have hB11 := below_app hB10 hg11 (Nat.le_refl _) (fun k hk => (World.ownsRow.lt hT10.snd k hk).1)))
            have e1 : NI (ons sa (j + 1)) = NI (ons sa j) ++ [((j : Nat) : Int)] := by rw [Ho1.out]; simp [NI]
            have HT11 := Lib.hid hT11.turn
            have HB11 := Lib.hid hB11
            go_roundw
            case rel =>
              refine ⟨j + 1, by omega, rfl, ?_, HB11.out⟩
              have h9 := HT11.out
              rw [← NI_length (ons sa (j + 1)), e1, Ho2.out]
              exact h9
            case measure =>
              show n - ((j : Int) + 1).toNat < n - ((j : Int)).toNat
              omega
          · rw [if_neg h8, List.append_nil] at ho1 ho2
            have Ho1 := Lib.hid ho1
            have Ho2 := Lib.hid ho2
            have hx65 : sa.getD j 0 < 65536 := by
              have := HSA.out.lt (p := sa.getD j 0) (by rw [getD_at (by rw [Hsal.out, Hl.out]; exact hjn)]; exact List.getElem_mem _)
              have := Hl.out
              omega
            clear ho1 ho2 hpl
            generalize hx : sa.getD j 0 = x at *
            clear hx
            have h8i : ¬ (x : Int) % 8 = 0 := by omega
            go_wp2_with fail
            refine ⟨⟨j + 1, by omega, rfl, by rw [Ho1.out, Ho2.out]; exact HT.out, HB.out⟩, ?_⟩
            show n - ((j : Int) + 1).toNat < n - ((j : Int)).toNat
            omega
        · obtain rfl : n = j := by omega
          obtain ⟨w12, rfl⟩ : ∃ w12 : World, w12 = wr := ⟨_, rfl⟩
          have HT12 := Lib.hid hT
          have HB12 := Lib.hid hB
          obtain ⟨A0, c10, hv0, hS0, _, _⟩ := own_sl hT.fst
          obtain ⟨A1, c11, hv1, hS1, _, _⟩ := own_sl hT.snd
          subst hv0
          subst hv1
          have hpl := plc_length sa n
          have hol := ons_le sa n
          have HIx12 := Lib.hid ((hB.block _ (blk_lt HIx8.out)).trans HIx8.out)
          have HS0 := Lib.hid hS0
          have HS1 := Lib.hid hS1
          clear hT hB hS0 hS1
          rw [hpl] at HT12 ⊢
          clear hpl
          obtain ⟨K, hK⟩ : ∃ K, (ons sa n).length = K := ⟨_, rfl⟩
          rw [hK] at HT12 hol ⊢
          have HK0 := Lib.hid hK
          clear hK
          have hmk := make_int K (by omega)
          have hA13 := blk_alloc HIx12.out (.cells (I (List.replicate K 0)) 3)
          have hc5 := (cell_blk hA13 5).trans rfl
          have hfx := frozen_blk hA13 5
          have HA13 := Lib.hid hA13
          clear hA13
          go_upto_region 26 with fail
          have hsa : sa.length = n := by rw [Hsal.out, Hl.out]
          have hplK : (plc sa n).length = K := by rw [plc_length, HK0.out]
          have hKn : K = (s.length + 7) / 8 := by rw [← hplK, ← Hl.out]; exact plc_count HSA.out
          have h8x : x0 < w8.heap.size := blk_lt HIx8.out
          have h8w : w8.heap.size ≤ w12.heap.size := HB12.out.size
          obtain ⟨w13, hw13⟩ : ∃ w13, (w12.alloc (.cells (I (List.replicate K 0)) 3)).setCell ⟨x0, 5, none⟩ (.slice (some ⟨w12.heap.size, 0, none⟩) K K) = w13 := ⟨_, rfl⟩
          have HIB13 : Hid (IB w13 w12.heap.size (List.replicate K 0)) := by
            rw [← hw13]; exact IB.other (heap_alloc_new w12 _) (by omega) _ _
          have HX13 : Hid (w13.heap[x0]? = some (.cells #[.pointer (some ⟨tr, 0, none⟩), less, v, .pointer none, .pointer none, .slice (some ⟨w12.heap.size, 0, none⟩) K K] 113 (0, 0))) := by
            rw [← hw13]; exact blk_set HA13.out 5 _
          have HF13 : Hid (∀ k, k < w12.heap.size → k ≠ x0 → w13.heap[k]? = w12.heap[k]?) := fun k h1 h2 => by
            rw [← hw13, Below.heap_setCell _ _ _ k (by show k ≠ x0; exact h2)]; exact heap_alloc_old w12 _ h1
          have HB13 : Hid (Below w3.heap.size w3 w13) := by
            rw [← hw13]; exact below_cell ((HB8.out.trans (HB12.out.mono (by have := HB8.out.size; omega))).alloc (by have := HB8.out.size; omega) _) (by have := Hx0.out; omega) _ _ rfl
          have hs13 : w13.heap.size = w12.heap.size + 1 := by rw [← hw13]; simp [World.setCell]
          have HA0 : Hid (∀ a, A0 = some a → w8.heap.size ≤ a.block ∧ a.block < w12.heap.size) := fun a ha => by subst ha; exact World.ownsRow.lt HT12.out.fst _ rfl
          have HA1 : Hid (∀ a, A1 = some a → w8.heap.size ≤ a.block ∧ a.block < w12.heap.size) := fun a ha => by subst ha; exact World.ownsRow.lt HT12.out.snd _ rfl
          have HS0' : Hid (Sl w13 A0 (VI (NI (ons sa n)))) := HS0.out.kept fun a ha _ => HF13.out _ (HA0.out a ha).2 (by have := (HA0.out a ha).1; omega)
          have HS1' : Hid (Sl w13 A1 (V (plc sa n))) := HS1.out.kept fun a ha _ => HF13.out _ (HA1.out a ha).2 (by have := (HA1.out a ha).1; omega)
          rw [hw13]
          have Hsz13 := Lib.hid hs13
          have Hsa := Lib.hid hsa
          have HplK := Lib.hid hplK
          have HKn := Lib.hid hKn
          clear hw13 hsa hplK hKn hc5 hfx hmk hs13
          obtain ⟨rb, hrb⟩ : ∃ rb, w12.heap.size = rb := ⟨_, rfl⟩
          have Hrb := Lib.hid hrb
          rw [hrb] at h8w HIB13 HX13 HF13 HA0 HA1 Hsz13 ⊢
          clear hrb
          go_wp2_with fail
          go_loopw [14, 15, 97] (fun s14 s15 q wr => ∃ (j : Nat) (r : List Int), j ≤ K ∧ q = .int .i64 (j : Int) ∧ IB wr rb r ∧ Hid (RowsOf sa K j r) ∧ w13.grownBy wr (some rb)) (fun _ _ q _ => K - (intOf q).toNat)
          case atStart => exact ⟨0, _, Nat.zero_le _, rfl, HIB13.out, rows_zero sa K _ (by simp), grown_refl _ _⟩
          case round =>
            obtain ⟨j, r, hj, rfl, hIB, HRw, hg⟩ := hrel
            by_cases hjK : j < K
            · have hne : some x0 ≠ some rb := fun e => by have := Option.some.inj e; omega
              have hXr := grown_blk hg HX13.out hne
              obtain ⟨a1, rfl, hc1⟩ := (HS1'.out.grown hg (fun a ha _ e => by have := Option.some.inj e; have := (HA1.out a ha).2; omega)).some (j := j) (by rw [V_length, HplK.out]; exact hjK)
              obtain ⟨a0, rfl, hc0⟩ := (HS0'.out.grown hg (fun a ha _ e => by have := Option.some.inj e; have := (HA0.out a ha).2; omega)).some (j := j) (by rw [VI_length, NI_length, HK0.out]; exact hjK)
              rw [V_get _ _ (by rw [HplK.out]; exact hjK)] at hc1
              rw [VI_get _ _ (by rw [NI_length, HK0.out]; exact hjK), NI_getD _ _ (by rw [HK0.out]; exact hjK)] at hc0
              have hc5 := (cell_blk hXr 5).trans rfl
              have hkk : j < (ons sa sa.length).length := by rw [Hsa.out, HK0.out]; exact hjK
              have hpl := plc_lt HSA.out j hkk
              have hrs := rows_step HSA.out HKn.out HRw.out hkk
              rw [Hsa.out] at hpl hrs
              rw [Hl.out] at hpl
              have Hrs := Lib.hid hrs
              have hrl := HRw.out.1
              have hxK : (plc sa n).getD j 0 / 8 < K := by have := HKn.out; have := Hl.out; omega
              have HIBr := Lib.hid hIB
              have Hg := Lib.hid hg
              have hold := hIB.cell (i := (plc sa n).getD j 0 / 8) (by omega)
              have hfree := hIB.free ((plc sa n).getD j 0 / 8)
              clear hIB hg hrs hXr
              generalize (plc sa n).getD j 0 = x at *
              generalize (ons sa n).getD j 0 = y at *
              have f1 : ((x : Int)).tdiv 8 = ((x / 8 : Nat) : Int) := by rw [Int.tdiv_eq_ediv_of_nonneg (by omega)]; omega
              have f2 : IntKind.u64.wrap ((x / 8 : Nat) : Int) = ((x / 8 : Nat) : Int) := by rw [IntKind.wrap_u64]; omega
              have f3 : ((x : Int)) / 8 = ((x / 8 : Nat) : Int) := by omega
              generalize x / 8 = qx at *
              have g1 : (0 : Int) ≤ (qx : Int) := by omega
              have g2 : (qx : Int) < (K : Int) := by omega
              have g3 : (j : Int) < (K : Int) := by omega
              have g4 : (0 : Int) ≤ (j : Int) := by omega
              clear hkk hpl
              go_wp2_with fail
              refine wp_region_still_tail 11 (by kernel_rfl) (by kernel_rfl) ?_
              simp only [List.take_succ_cons, List.take_zero, List.drop_succ_cons, List.drop_zero]
              change wpStill _ _ wr.drew (fun a' => wpList _ _ _ _ a' wr.drew) _ _
              repeat still_step
              refine wpStill_nil ?_
              go_wp2_with fail
              go_roundw
              case rel =>
                refine ⟨j + 1, r.set qx (y : Int), by omega, by go_num, ?_, Hrs.out, ?_⟩
                · exact IB.set (w := wr.drew) HIBr.out qx (y : Int)
                · exact grown_trans (grown_trans Hg.out (grown_drew wr _)) (grown_set _ _ _ _)
              case measure => simp [intOf]; omega
            · obtain rfl : K = j := by omega
              obtain ⟨w14, rfl⟩ : ∃ w14 : World, w14 = wr := ⟨_, rfl⟩
              have hne : some x0 ≠ some rb := fun e => by have := Option.some.inj e; omega
              have hcap : K ≤ c11 := by
                rcases HT12.out.snd.2 with ⟨h, h0⟩ | ⟨g9, cap9, cur9, h, hg9, hb9, hn9, _⟩
                · omega
                · injection h with _ _ h; omega
              have HX14 := Lib.hid (grown_blk hg HX13.out hne)
              have HS0w := Lib.hid (HS0'.out.grown hg (fun a ha _ e => by have := Option.some.inj e; have := (HA0.out a ha).2; omega))
              have HS1w := Lib.hid (HS1'.out.grown hg (fun a ha _ e => by have := Option.some.inj e; have := (HA1.out a ha).2; omega))
              have Hg := Lib.hid hg
              have HIB14 := Lib.hid hIB
              have HNw := Lib.hid (new_any w14 (n : Int) n (by omega) (.inr rfl) A0 K c10 (NI (ons sa n)) (by rw [NI_length, HK0.out]) (by omega) HS0w.out)
              have hs14 := hg.size
              clear hg hIB
              go_wp2_with fail
              go_at_call 140
              refine HNw.out.mono ?_
              rintro e w15 ⟨mb, rfl, hBV, hB15⟩
              have HBV := Lib.hid hBV
              have HB15 := Lib.hid hB15
              have HX15 := Lib.hid ((hB15.block _ (blk_lt HX14.out)).trans HX14.out)
              have HPk := Lib.hid (pack_any A1 (plc sa n) K c11 w15 (HS1w.out.below hB15) HplK.out hcap (by omega) (fun y hy => by
                have : y ∈ sa := by
                  unfold plc at hy
                  obtain ⟨i, hi, rfl⟩ := List.mem_map.1 hy
                  rw [getD_at (by rw [Hsa.out]; exact (ons_mem.1 hi).1)]
                  exact List.getElem_mem _
                have := HSA.out.lt this
                have := Hl.out
                omega))
              have hs15 := hB15.size
              clear hBV hB15 HNw
              go_wp2_with fail
              go_at_call 141
              refine HPk.out.mono ?_
              rintro e w16 ⟨pb, pg, rfl, hPA, hpb, hpg, hB16⟩
              have HPA := Lib.hid hPA
              have HX16 := Lib.hid ((hB16.block _ (blk_lt HX15.out)).trans HX15.out)
              have HB16 := Lib.hid hB16
              have hs16 := hB16.size
              have hc3 := (cell_blk HX16.out 3).trans rfl
              have hc4 := (cell_blk HX16.out 4).trans rfl
              have hf3 := frozen_blk HX16.out 3
              have hf4 := frozen_blk HX16.out 4
              clear hPA hB16 HPk
              go_wp2_with fail
              have hHF : ∀ k, k < w16.heap.size → k ≠ x0 → ((w16.setCell ⟨x0, 3, none⟩ (.pointer (some ⟨mb, 0, none⟩))).setCell ⟨x0, 4, none⟩ (.pointer (some ⟨pb, 0, none⟩))).heap[k]? = w16.heap[k]? := fun k h1 h2 => by
                rw [Below.heap_setCell _ _ _ k (by show k ≠ x0; exact h2), Below.heap_setCell _ _ _ k (by show k ≠ x0; exact h2)]
              have hX17 : ((w16.setCell ⟨x0, 3, none⟩ (.pointer (some ⟨mb, 0, none⟩))).setCell ⟨x0, 4, none⟩ (.pointer (some ⟨pb, 0, none⟩))).heap[x0]? = some (.cells #[.pointer (some ⟨tr, 0, none⟩), less, v, .pointer (some ⟨mb, 0, none⟩), .pointer (some ⟨pb, 0, none⟩), .slice (some ⟨rb, 0, none⟩) K K] 113 (0, 0)) :=
                blk_set (blk_set HX16.out 3 _) 4 _
              have hB17 : Below w3.heap.size w3 ((w16.setCell ⟨x0, 3, none⟩ (.pointer (some ⟨mb, 0, none⟩))).setCell ⟨x0, 4, none⟩ (.pointer (some ⟨pb, 0, none⟩))) := by
                have e1 := HB8.out.size
                have e2 := Hrb.out
                have e3 := Hsz13.out
                have e4 := Hx0.out
                refine below_cell (below_cell ?_ (by omega) _ _ rfl) (by omega) _ _ rfl
                exact ((HB13.out.grown Hg.out (by omega) (fun k hk => by have := Option.some.inj hk; omega)).trans (HB15.out.mono (by omega))).trans (HB16.out.mono (by omega))
              go_ret2
              refine ⟨x0, sa, rfl, ?_, below_step (below_step HB2.out HB3.out) hB17⟩
              obtain ⟨w17, hw17⟩ : ∃ w17, ((w16.setCell ⟨x0, 3, none⟩ (.pointer (some ⟨mb, 0, none⟩))).setCell ⟨x0, 4, none⟩ (.pointer (some ⟨pb, 0, none⟩))) = w17 := ⟨_, rfl⟩
              rw [hw17] at hHF hX17 ⊢
              clear hw17 hB17 hc3 hc4 hf3 hf4
              have q2 := HB2.out.size
              have q3 := HB3.out.size
              have q4 := Hx0.out
              have q5 := HBI.out.size
              have q6 := HB4.out.size
              have q7 := HB8.out.size
              have q8 := Hrb.out
              have q9 := Hsz13.out
              have k8 : ∀ k, k < w8.heap.size → k ≠ x0 → w17.heap[k]? = w8.heap[k]? := fun k h1 h2 => by
                rw [hHF k (by omega) h2, HB16.out.block k (by omega), HB15.out.block k (by omega), Hg.out.block k (by omega) (fun e => by have := Option.some.inj e; omega), HF13.out k (by omega) h2, HB12.out.block k h1]
              have hTM17 : TM w17 wI.heap.size tr 9 (trn s sa) := HTM.out.keep fun k h1 h2 => by
                rw [k8 k (by omega) (by omega), HK.out k (by omega) h2]
              have hl3 : NI ((List.range 513).map (lessN (trn s sa))) = NI ((List.range 513).map (lessN s)) := by
                refine congrArg NI (List.map_congr_left fun c _ => ?_)
                exact lessN_perm (trn_perm Hc.out HSA.out) c
              have hI17 : IB w17 g3 (NI ((List.range 513).map (lessN s))) := by
                rw [← hl3]
                exact (k8 g3 (by omega) (by omega)).trans ((HB8.out.block g3 hg3l).trans HI3.out)
              obtain ⟨y, yc, cur, hv9, hy9, hblk9, hyc, hcs9, htk9⟩ := own_blk HOw8.out (fun e => by
                have h9 := HOw8.out
                rw [e] at h9
                rcases h9.2 with ⟨_, h0⟩ | ⟨g9, cap9, cur9, h, _⟩
                · have h1 := h9.1
                  simp [stp] at h0
                · cases h)
              subst hv9
              have hyx : y ≠ x0 := by
                have h9 := Hv.out y rfl
                have := Hy0.out
                omega
              have hYl : y < w8.heap.size := blk_lt hblk9
              have hpbx : w15.heap.size ≤ pb := hpb
              have hpgx : w15.heap.size ≤ pg := hpg
              have hPA17 : PArr w17 pb pg (wid (plc sa n)) (plc sa n) := HPA.out.kept (hHF pb (blk_lt HPA.out.hd) (by omega)) (hHF pg (blk_lt HPA.out.ws) (by omega))
              have hBV17 : BVec w17 w.heap.size mb (mrk sa) := by
                have e9 : laidAll (List.replicate n false) (NI (ons sa n)) K = mrk sa := by
                  have := laid_ons sa
                  rw [Hsa.out, HK0.out] at this
                  exact this
                have h9 := (HBV.out.below HB16.out).mono (base' := w14.heap.size) (Nat.le_refl _)
                rw [e9] at h9
                exact (h9.keep fun k h1 h2 => hHF k h2 (by omega)).mono (by omega)
              have hR17 : IB w17 rb r := by
                have hrb14 := HIB14.out.lt
                exact (hHF rb (by omega) (by omega)).trans ((HB16.out.block rb (by omega)).trans ((HB15.out.block rb (by omega)).trans HIB14.out))
              have hless9 := Hless.out
              subst hless9
              have hln := Hl.out
              subst hln
              exact ⟨by omega, hn, Hx.out, Hc.out, HSA.out, tr, g3, y, yc, mb, pb, pg, wid (plc sa s.length), rb, r, by omega, by omega, by omega, by omega, by omega,
                by rw [HK0.out]; exact hX17, hTM17.mono (by omega), hI17, ⟨cur, (k8 y hYl hyx).trans hblk9, htk9⟩, hyc, hBV17, hPA17, hR17, by rw [HK0.out]; exact HRw.out⟩
end Go.Proofs.YtphccomhggnccaaGreat
