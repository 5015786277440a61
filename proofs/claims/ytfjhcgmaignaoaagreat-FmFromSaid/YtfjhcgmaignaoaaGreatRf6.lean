/- haystackref6: closed, Turn. haystackref7: Row, Turned. -/
import Derived.Test.YtfjhcgmaignaoaaGreatRf5C
import Derived.Test.YtfjhcgmaignaoaaGreatFmTurnB
import Derived.Test.YtfjhcgmaignaoaaGreatFmBuild
namespace Go.Proofs.YtfjhcgmaignaoaaGreat
set_option linter.unusedVariables false
set_option linter.unusedSimpArgs false
set_option maxRecDepth 100000
open Go.RowKit Fm Rank

theorem closed6_any (w : World) (b off n cap : Nat) (s : List Nat) (hl : s.length = n) (hc : Closed s) (hn : n ≤ 65536) (hS : Sl w (some ⟨b, off, none⟩) (VI (NI s))) :
    Calls Tryz.prog 67 #[.slice (some ⟨b, off, none⟩) n cap] w fun e w' => e = .returned (.bool true) ∧ w = w' := by
  have hpos := hc.pos
  rw [hl] at hpos
  have Hz := Lib.hid hc.zero
  have HS := Lib.hid hS
  obtain ⟨d, hd⟩ : ∃ d, n = d + 1 := ⟨n - 1, by omega⟩
  have hdn : (n : Int) - 1 = (d : Int) := by omega
  have Hl := Lib.hid hl
  have hn0 : (0 : Int) < (n : Int) := by omega
  clear hS hl hc
  go_enter Tryz.func67, Tryz.ntmps67
  go_wp2_with fail
  go_loop [3] (fun i => ∃ k : Nat, k ≤ n ∧ i = .int .i64 (k : Int)) (fun i => n - (intOf i).toNat)
  case atStart => exact ⟨0, Nat.zero_le _, rfl⟩
  case round =>
    obtain ⟨k, hk, rfl⟩ := hrel
    by_cases hkm : k < n
    · have hca := sl_cellN HS.out (i := k) (by rw [Hl.out]; exact hkm)
      have hzk := Hz.out k (by rw [Hl.out]; exact hkm)
      rw [Hl.out] at hzk
      generalize s.getD k 0 = x at *
      by_cases hx : x = 0
      · have hkd : k = d := by have := hzk.1 hx; omega
        subst hx
        subst hkd
        clear hzk
        go_wp2_with fail
        go_round
        case rel => exact ⟨k + 1, by omega, by go_num⟩
        case measure => simp [intOf]; omega
      · have hx1 : ¬ (x : Int) = 0 := by omega
        have hx2 : ¬ (x : Int) < 0 := by omega
        have hkd : ¬ (k : Int) = (d : Int) := by intro e; exact hx (hzk.2 (by omega))
        have y1 : ((x : Int) == 0) = false := by rw [beq_eq_false_iff_ne]; exact hx1
        have y2 : ((k : Int) == (d : Int)) = false := by rw [beq_eq_false_iff_ne]; exact hkd
        have y3 : (k == d) = false := by rw [beq_eq_false_iff_ne]; omega
        have y4 : (x == 0) = false := by rw [beq_eq_false_iff_ne]; exact hx
        clear hzk
        go_wp2_with fail
        exact ⟨⟨k + 1, by omega, by go_num⟩, by simp [intOf]; omega⟩
    · obtain rfl : n = k := by omega
      go_wp2_with fail
      go_ret
      exact ⟨rfl, rfl⟩
set_option maxHeartbeats 4000000 in
theorem turn6_any (w : World) (b off n cap : Nat) (s : List Nat) (hl : s.length = n) (hc : Closed s) (hn : n ≤ 65536) (hS : Sl w (some ⟨b, off, none⟩) (VI (NI s))) :
    Calls Tryz.prog 38 #[.slice (some ⟨b, off, none⟩) n cap] w fun e w' => ∃ A c sa, e = .returned (.tuple #[.slice A n c, .int .i64 0]) ∧ IsSA s sa ∧ Sl w' A (VI (NI (trn s sa))) ∧ Below w.heap.size w w' := by
  have hpos := hc.pos
  rw [hl] at hpos
  have HC := Lib.hid (closed6_any w b off n cap s hl hc hn hS)
  have HA := Lib.hid (array5_any w b off n cap s hl hpos hn hS)
  have HS := Lib.hid hS
  have Hl := Lib.hid hl
  have hbl := World.block_lt_of_cell? w _ (sl_cellN hS (i := 0) (by omega))
  clear hS hl hc
  go_enter Tryz.func38, Tryz.ntmps38
  go_wp2_with fail
  go_at_call 67
  refine HC.out.mono ?_
  rintro e w' ⟨rfl, rfl⟩
  clear HC
  go_wp2_with fail
  go_at_call 68
  refine HA.out.mono ?_
  rintro e w1 ⟨A1, c1, sa, rfl, hsa, hS1, hB1⟩
  have HSA := Lib.hid hsa
  have hsal := hsa.length
  rw [Hl.out] at hsal
  obtain ⟨b1, o1, rfl, _⟩ := hS1.lit (j := 0) (by rw [VI_length, NI_length]; omega)
  have HS1 := Lib.hid hS1
  have HB1 := Lib.hid hB1
  have hmk := make_int n (by omega) w1
  have hs1 := hB1.size
  have Hsal := Lib.hid hsal
  clear hsa hS1 hB1 HA hsal
  go_wp2_with fail
  clear hmk
  have hN0 : IB (w1.alloc (.cells (I (List.replicate n 0)) 3)) w1.heap.size (half (NI (trn s sa)) 0) := by
    have := heap_alloc_new w1 (.cells (I (List.replicate n 0)) 3)
    have htl := trn_length HSA.out
    rw [half_zero, NI_length, htl, Hl.out]
    exact this
  go_loopw [7] (fun q wr => ∃ j : Nat, j ≤ n ∧ q = .int .i64 (j : Int) ∧ IB wr w1.heap.size (half (NI (trn s sa)) j) ∧ Below w1.heap.size w1 wr) (fun q _ => n - (intOf q).toNat)
  case atStart => exact ⟨0, Nat.zero_le _, rfl, hN0, (Below.refl _ w1).alloc (Nat.le_refl _) _⟩
  case round =>
    clear hN0
    obtain ⟨j, hj, rfl, hN, hB⟩ := hrel
    have htl := trn_length HSA.out
    rw [Hl.out] at htl
    by_cases hlt : j < n
    · have hlc : (NI (trn s sa)).length = n := by rw [NI_length, htl]
      have hc := hN.cell (i := j) (by rw [half_length _ _ (by omega)]; omega)
      have hfr := hN.free j
      have hs := sl_cellN (HS1.out.below hB) (i := j) (by rw [Hsal.out]; exact hlt)
      have hpl : sa.getD j 0 < n := by
        have h9 := HSA.out.lt (List.getElem_mem (show j < sa.length by rw [Hsal.out]; exact hlt))
        rw [Hl.out] at h9
        rwa [getD_at (by rw [Hsal.out]; exact hlt)]
      have hca := sl_cellN ((HS.out.below HB1.out).below hB) (i := (sa.getD j 0 + n - 1) % n) (by rw [Hl.out]; exact Nat.mod_lt _ hpos)
      have hset := half_set (NI (trn s sa)) j (by omega)
      have hval : (NI (trn s sa)).getD j 0 = ((s.getD ((sa.getD j 0 + n - 1) % n) 0 : Nat) : Int) := by
        rw [NI_getD _ _ (by rw [htl]; exact hlt)]
        have := trn_get (s := s) (sa := sa) (i := j) (p := sa.getD j 0) (by rw [getD_at (by rw [Hsal.out]; exact hlt)]; exact List.getElem?_eq_getElem _)
        simp only [List.getD, this, Option.getD_some]
        unfold ahd
        rw [Hl.out]
        rfl
      rw [hval] at hset
      have Hset := Lib.hid hset
      have HN := Lib.hid hN
      have HB := Lib.hid hB
      clear hset hval hN hB hlc htl
      generalize (half (NI (trn s sa)) j).getD j 0 = y at *
      generalize sa.getD j 0 = p at *
      have hrem : ((p : Int) + (n : Int) - 1).tmod (n : Int) = (((p + n - 1) % n : Nat) : Int) := by
        rw [show (p : Int) + (n : Int) - 1 = ((p + n - 1 : Nat) : Int) by omega, Int.ofNat_tmod]
      have htn : (p + n - 1) % n < n := Nat.mod_lt _ hpos
      generalize (p + n - 1) % n = t at *
      generalize s.getD t 0 = x at *
      go_wp2_with fail
      refine ⟨⟨j + 1, by omega, by go_num, ?_, below_cell HB.out (Nat.le_refl _) _ _ rfl⟩, by simp [intOf]; omega⟩
      rw [← Hset.out]
      exact HN.out.set _ _
    · obtain rfl : n = j := by omega
      have e1 : half (NI (trn s sa)) n = NI (trn s sa) := by
        have := half_all (NI (trn s sa)); rwa [NI_length, htl] at this
      rw [e1] at hN
      go_wp2_with fail
      go_ret2
      exact ⟨_, _, sa, rfl, HSA.out, sl_IB hN, below_step HB1.out hB⟩
set_option maxHeartbeats 4000000 in
/-- the row of texts, by the reference -/
theorem row7_any (w : World) (A : Option Addr) (n c : Nat) (ts : List (List Nat)) (hA : RArg w A n c ts) (hm : (rowT ts).length ≤ 65536) :
    Calls Tryz.prog 39 #[.slice A n c] w fun e w' => ∃ b cc, e = .returned (.slice (some ⟨b, 0, none⟩) (rowT ts).length cc) ∧ Sl w' (some ⟨b, 0, none⟩) (VI (NI (rowT ts))) ∧ w.heap.size ≤ b ∧ Below w.heap.size w w' := by
  have HA := Lib.hid hA
  have Hl := Lib.hid hA.len
  have hrl := rowT_length ts
  have Hbm := Lib.hid (show (body ts).length ≤ 65535 by omega)
  have Hrl := Lib.hid hrl
  have hn : n ≤ 65535 := by have := len_le_body ts; have := hA.len; omega
  clear hA hm hrl
  go_enter Tryz.func39, Tryz.ntmps39
  go_wp2_with fail
  go_loopw [3, 4] (fun v q wr => ∃ d : Nat, d ≤ n ∧ q = .int .i64 (d : Int) ∧ wr.ownsRow w.heap.size 3 1 v (NI (body (ts.take d))).length (VI (NI (body (ts.take d)))) ∧ Below w.heap.size w wr) (fun _ q _ => n - (intOf q).toNat)
  case atStart => exact ⟨0, Nat.zero_le _, rfl, World.ownsRow_nil _ _ _ _, Below.refl _ _⟩
  case round =>
    obtain ⟨d, hd, rfl, hown, hB⟩ := hrel
    by_cases hdn : d < n
    · obtain ⟨a, Ad, L, C, rfl, hcell0, hL, hLC, hnil, hS⟩ := HA.out.row d hdn
      have hdl : d < ts.length := by rw [Hl.out]; exact hdn
      have hsu := body_take_succ ts d hdl
      have hle := body_take_le ts (d + 1)
      have hlen := congrArg List.length hsu
      rw [List.length_append, txt_length, hL] at hlen
      have Hbd := Lib.hid (show (body (ts.take d)).length + L + 1 ≤ 65535 by have := Hbm.out; omega)
      have HS := Lib.hid hS
      have HL := Lib.hid hL
      have Hsu := Lib.hid hsu
      have hL6 : L ≤ 65535 := by have := Hbd.out; omega
      have HcA := Lib.hid (fun wx (hx : Below w.heap.size w wx) => (World.cell?_of_block (hx.block _ (World.block_lt_of_cell? w _ hcell0))).trans hcell0)
      clear hsu hle hlen hS hL hnil hcell0
      generalize body (ts.take d) = bb at *
      obtain ⟨bb', hbb'⟩ : ∃ x, body (ts.take (d + 1)) = x := ⟨_, rfl⟩
      rw [hbb'] at Hsu
      have Hb' := Lib.hid hbb'
      clear hbb'
      obtain ⟨t, ht⟩ : ∃ t, ts.getD d [] = t := ⟨_, rfl⟩
      rw [ht] at HS HL Hsu
      have Hlt := Lib.hid (show ∀ k, k < L → t.getD k 0 < 256 from fun k hk => by
        refine HA.out.lt t ?_ _ ?_
        · rw [← ht]; simp only [List.getD, List.getElem?_eq_getElem hdl, Option.getD_some]; exact List.getElem_mem hdl
        · rw [getD_at (by rw [HL.out]; exact hk)]; exact List.getElem_mem _)
      clear ht
      go_wp2_with fail
      go_loopw [3, 5] (fun v q wx => ∃ k : Nat, k ≤ L ∧ q = .int .i64 (k : Int) ∧ wx.ownsRow w.heap.size 3 1 v (NI (bb ++ (t.take k).map (· + 2))).length (VI (NI (bb ++ (t.take k).map (· + 2)))) ∧ Below w.heap.size w wx) (fun _ q _ => L - (intOf q).toNat)
      case atStart => exact ⟨0, Nat.zero_le _, rfl, by simpa using hown, hB⟩
      case round =>
        clear hown hB
        obtain ⟨k, hk, rfl, hown, hB⟩ := hrel
        have hcw := HcA.out _ hB
        obtain ⟨A9, c9, hv9, _, _, _⟩ := own_sl hown
        subst hv9
        have hbs := hB.size
        have Htl := Lib.hid (show (bb ++ (t.take k).map (· + 2)).length = bb.length + k by rw [List.length_append, List.length_map, List.length_take, HL.out, Nat.min_eq_left hk])
        by_cases hkL : k < L
        · obtain ⟨ad, rfl, hcb⟩ := (HS.out.below hB).some (j := k) (by rw [VY_length, HL.out]; exact hkL)
          rw [VY_get _ _ (by rw [HL.out]; exact hkL)] at hcb
          have Htk := Lib.hid (show NI (bb ++ (t.take (k + 1)).map (· + 2)) = NI (bb ++ (t.take k).map (· + 2)) ++ [((t.getD k 0 : Nat) : Int) + 2] by
            rw [List.take_succ_eq_append_getElem (by rw [HL.out]; exact hkL), List.map_append, ← List.append_assoc, getD_at (by rw [HL.out]; exact hkL), NI_append]
            simp [NI])
          have hb256 : t.getD k 0 ≤ 100000 := by have := Hlt.out k hkL; omega
          generalize t.getD k 0 = x at *
          generalize bb ++ (t.take k).map (· + 2) = xs at *
          have hxl : (NI xs).length + 1 ≤ 1099511627776 := by have := Hbd.out; rw [NI_length, Htl.out]; omega
          go_wp2_with (at_builtin; refine app_int rfl _ _ rfl w.heap.size _ (NI xs) rfl (World.ownsRow.alloc hown _) (some ⟨wr.heap.size, 0, none⟩) 1 1 [((x : Int) + 2)] rfl (fun h => by cases h) rfl (sl_blk (heap_alloc_new wr _)) hxl (by simp; omega) ?_; intro v7 w7 hown7 hg7 _)
          have hB7 : Below w.heap.size w w7 := (hB.alloc hB.size _).grown hg7 (by simp; omega) (fun k hk => (World.ownsRow.lt hown k hk).1)
          rw [← Htk.out] at hown7
          exact ⟨⟨k + 1, by omega, by go_num, hown7, hB7⟩, by simp [intOf]; omega⟩
        · obtain rfl : L = k := by omega
          have htk : t.take L = t := List.take_of_length_le (by rw [HL.out]; exact Nat.le_refl _)
          rw [htk] at hown Htl
          rw [htk]
          have Hbb := Lib.hid (show NI (bb ++ t.map (· + 2)) ++ [(1 : Int)] = NI bb' by
            rw [Hsu.out]; simp [txt, NI])
          clear htk
          generalize bb ++ t.map (· + 2) = xs at *
          have hxl : (NI xs).length + 1 ≤ 1099511627776 := by have := Hbd.out; rw [NI_length, Htl.out]; omega
          go_wp2_with (at_builtin; refine app_int rfl _ _ rfl w.heap.size _ (NI xs) rfl (World.ownsRow.alloc hown _) (some ⟨wr.heap.size, 0, none⟩) 1 1 [(1 : Int)] rfl (fun h => by cases h) rfl (sl_blk (heap_alloc_new wr _)) hxl (by simp; omega) ?_; intro v7 w7 hown7 hg7 _)
          have hB7 : Below w.heap.size w w7 := (hB.alloc hB.size _).grown hg7 (by simp; omega) (fun k hk => (World.ownsRow.lt hown k hk).1)
          rw [Hbb.out] at hown7
          go_roundw
          case rel => exact ⟨d + 1, by omega, by go_num, by rw [Hb'.out]; exact hown7, hB7⟩
          case measure => simp [intOf]; omega
    · obtain rfl : n = d := by omega
      have htk : ts.take n = ts := List.take_of_length_le (by rw [Hl.out]; exact Nat.le_refl _)
      rw [htk] at hown
      have Hbb := Lib.hid (show NI (body ts) ++ [(0 : Int)] = NI (rowT ts) by simp [rowT, NI])
      have hxl : (NI (body ts)).length + 1 ≤ 1099511627776 := by have := Hbm.out; rw [NI_length]; omega
      have hbs := hB.size
      obtain ⟨A9, c9, hv9, _, _, _⟩ := own_sl hown
      subst hv9
      clear htk
      generalize body ts = xs at *
      go_wp2_with (at_builtin; refine app_int rfl _ _ rfl w.heap.size _ (NI xs) rfl (World.ownsRow.alloc hown _) (some ⟨wr.heap.size, 0, none⟩) 1 1 [(0 : Int)] rfl (fun h => by cases h) rfl (sl_blk (heap_alloc_new wr _)) hxl (by simp; omega) ?_; intro v7 w7 hown7 hg7 _)
      have hB7 : Below w.heap.size w w7 := (hB.alloc hB.size _).grown hg7 (by simp; omega) (fun k hk => (World.ownsRow.lt hown k hk).1)
      rw [Hbb.out] at hown7
      have hlt7 := World.ownsRow.lt hown7
      rcases hown7.2 with ⟨_, e0⟩ | ⟨g, cap, cur, rfl, hg, _⟩
      · have h9 := rowT_length ts
        rw [NI_length] at e0
        omega
      obtain ⟨A7, c7, hv7, hS7, _, _⟩ := own_sl hown7
      injection hv7 with q1 q2 q3
      subst q1
      go_wp2_with fail
      go_ret
      exact ⟨g, ⟨c7, by rw [NI_length]; rfl⟩, hS7, hg, hB7⟩
end Go.Proofs.YtfjhcgmaignaoaaGreat
