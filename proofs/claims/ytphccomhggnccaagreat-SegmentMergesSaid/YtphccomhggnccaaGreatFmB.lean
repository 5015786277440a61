/- bwt: isClosed, Turn. -/
import Derived.Test.YtphccomhggnccaaGreatFmArrA
import Derived.Test.YtphccomhggnccaaGreatPk
import Derived.Maps.AppendAt
import Derived.StillTailTactics
namespace Go.Proofs.YtphccomhggnccaaGreat
set_option maxRecDepth 100000
set_option linter.unusedVariables false
set_option linter.unusedSimpArgs false
set_option maxRecDepth 100000
open Go.RowKit Fm
def RowAt (w : World) (b off : Nat) (s : List Nat) : Prop := ∀ j, j < s.length → w.cell? ⟨b, off + j, none⟩ = some (.int .i64 ((s.getD j 0 : Nat) : Int))

theorem closed_any (w : World) (b off n cap : Nat) (s : List Nat) (hl : s.length = n) (hc : Closed s) (hn : n ≤ 65536) (hR : RowAt w b off s) :
    Calls Tryz.prog 191 #[.slice (some ⟨b, off, none⟩) n cap] w fun e w' => e = .returned (.bool true) ∧ w = w' := by
  have hpos := hc.pos
  rw [hl] at hpos
  have Hz := Lib.hid hc.zero
  have HR := Lib.hid hR
  obtain ⟨d, hd⟩ : ∃ d, n = d + 1 := ⟨n - 1, by omega⟩
  have hdn : (n : Int) - 1 = (d : Int) := by omega
  have hlast := hR d (by omega)
  have hz := (hc.zero d (by omega)).2 (by omega)
  rw [hz] at hlast
  have Hl := Lib.hid hl
  clear hR hl hc hz
  go_enter Tryz.func191, Tryz.ntmps191
  go_wp2_with fail
  go_loop [3, 4, 7] (fun x y i => ∃ k : Nat, k ≤ n ∧ i = .int .i64 (k : Int)) (fun _ _ i => n - (intOf i).toNat)
  case atStart => exact ⟨0, Nat.zero_le _, rfl⟩
  case round =>
    obtain ⟨k, hk, rfl⟩ := hrel
    by_cases hkm : k < n
    · have hca := HR.out k (by rw [Hl.out]; exact hkm)
      have hzk := Hz.out k (by rw [Hl.out]; exact hkm)
      rw [Hl.out] at hzk
      generalize s.getD k 0 = x at *
      by_cases hx : x = 0
      · have hkd : k = d := by have := hzk.1 hx; omega
        subst hx
        subst hkd
        clear hzk
        go_wp2_with fail
        go_round
        case rel => exact ⟨k + 1, by omega, by go_num⟩
        case measure => simp [intOf]; omega
      · have hx1 : ¬ (x : Int) = 0 := by omega
        have hx2 : ¬ (x : Int) < 0 := by omega
        clear hzk
        go_wp2_with fail
        go_round
        case rel => exact ⟨_, _, _, _, ⟨k + 1, by omega, rfl⟩, rfl, rfl, rfl, rfl⟩
        case measure => simp [intOf]; omega
    · obtain rfl : n = k := by omega
      go_wp2_with fail
      go_ret
      exact ⟨rfl, rfl⟩
end Go.Proofs.YtphccomhggnccaaGreat
namespace Go.Proofs.YtphccomhggnccaaGreat
set_option maxRecDepth 100000
set_option linter.unusedVariables false
set_option linter.unusedSimpArgs false
set_option maxRecDepth 100000
open Go.RowKit Fm
theorem rowAt_of {w : World} {b off : Nat} {s : List Nat} (hS : Sl w (some ⟨b, off, none⟩) (VI (NI s))) : RowAt w b off s := fun j hj => by
  have := hS.cell _ rfl j _ (VI_get (NI s) j (by rw [NI_length]; exact hj))
  rwa [NI_getD _ _ hj, show (⟨b, off, none⟩ : Addr).add j = ⟨b, off + j, none⟩ by unfold Addr.add; split <;> simp_all] at this
theorem RowAt.below {w w' : World} {b off k : Nat} {s : List Nat} (h : RowAt w b off s) (hB : Below k w w') (hb : b < k) : RowAt w' b off s := fun j hj => by
  rw [World.cell?_of_block (w := w) (hB.block _ hb)]; exact h j hj

set_option maxHeartbeats 4000000 in
theorem turn_any (w : World) (b off n cap : Nat) (s : List Nat) (hl : s.length = n) (hc : Closed s) (hn : n ≤ 65536) (hS : Sl w (some ⟨b, off, none⟩) (VI (NI s))) (hb : b < w.heap.size) :
    Calls Tryz.prog 137 #[.slice (some ⟨b, off, none⟩) n cap] w fun e w' => ∃ A c sa, e = .returned (.tuple #[.slice A n c, .int .i64 0]) ∧ IsSA s sa ∧ Sl w' A (VI (NI (trn s sa))) ∧ (∀ q, A = some q → w.heap.size ≤ q.block ∧ q.block < w'.heap.size) ∧ Below w.heap.size w w' := by
  have hpos := hc.pos
  rw [hl] at hpos
  have hR := rowAt_of hS
  have HC := Lib.hid (closed_any w b off n cap s hl hc hn hR)
  have HA := Lib.hid (array_any w b off n cap s hl hpos hn hS hb)
  have HR := Lib.hid hR
  have Hl := Lib.hid hl
  clear hS hR hl hc
  go_enter Tryz.func137, Tryz.ntmps137
  go_wp2_with fail
  go_at_call 191
  refine HC.out.mono ?_
  rintro e w' ⟨rfl, rfl⟩
  clear HC
  go_wp2_with fail
  go_at_call 136
  refine HA.out.mono ?_
  rintro e w1 ⟨g, sa, rfl, hg, hI, hsa, hB1⟩
  have HSA := Lib.hid hsa
  have HI := Lib.hid hI
  have hgl := hI.lt
  clear HA hsa hI
  have HR1 := Lib.hid (HR.out.below hB1 hb)
  have hsz := hB1.size
  go_wp2_with fail
  go_loopw [6, 8, 27] (fun v y i wr => ∃ j : Nat, j ≤ n ∧ i = .int .i64 (j : Int) ∧ wr.ownsRow w1.heap.size 3 1 v ((NI (trn s sa)).take j).length (VI ((NI (trn s sa)).take j)) ∧ Below w1.heap.size w1 wr) (fun _ _ i _ => n - (intOf i).toNat)
  case atStart => exact ⟨0, Nat.zero_le _, rfl, World.ownsRow_nil _ _ _ _, Below.refl _ _⟩
  case round =>
    obtain ⟨j, hj, rfl, hown, hB⟩ := hrel
    have htl := trn_length HSA.out
    rw [Hl.out] at htl
    by_cases hlt : j < n
    · obtain ⟨A0, c9, hv, hsl0, hl0, hA0⟩ := own_sl hown
      subst hv
      have hsl2 := HSA.out.length
      rw [Hl.out] at hsl2
      have hsucc : (NI (trn s sa)).take (j + 1) = (NI (trn s sa)).take j ++ [((ahd s (sa.getD j 0) : Nat) : Int)] := by
        have h1 : j < (NI (trn s sa)).length := by rw [NI_length, htl]; exact hlt
        rw [List.take_succ_eq_append_getElem h1]
        simp [NI, trn, List.getElem?_eq_getElem (show j < sa.length by omega)]
      have Hsucc := Lib.hid hsucc
      have hlj : ((NI (trn s sa)).take j).length = j := by rw [List.length_take, NI_length, htl]; omega
      have hct := (HI.out.below hB).cell (i := j) (by rw [NI_length]; omega)
      rw [NI_getD _ _ (by omega)] at hct
      have hpl : sa.getD j 0 < n := by
        have h9 := HSA.out.lt (List.getElem_mem (show j < sa.length by omega))
        rw [Hl.out] at h9
        rwa [getD_at (by omega)]
      have hca := HR1.out.below hB (by omega) ((sa.getD j 0 + n - 1) % n) (by rw [Hl.out]; exact Nat.mod_lt _ hpos)
      have ha : ahd s (sa.getD j 0) = s.getD ((sa.getD j 0 + n - 1) % n) 0 := by unfold ahd; rw [Hl.out]
      rw [← ha] at hca
      clear ha hsucc
      generalize ahd s (sa.getD j 0) = x at *
      generalize sa.getD j 0 = p at *
      have hrem : ((p : Int) + (n : Int) - 1).tmod (n : Int) = (((p + n - 1) % n : Nat) : Int) := by
        rw [show (p : Int) + (n : Int) - 1 = ((p + n - 1 : Nat) : Int) by omega, Int.ofNat_tmod]
      have htn : (p + n - 1) % n < n := Nat.mod_lt _ hpos
      generalize (p + n - 1) % n = t at *
      generalize (NI (trn s sa)).take j = xs at *
      have Hlj := Lib.hid hlj
      have hbl := hB.size
      have HB := Lib.hid hB
      clear hlj hB
      go_wp2_with (at_builtin; refine app_int rfl _ _ rfl w1.heap.size _ xs rfl (World.ownsRow.alloc hown _) (some ⟨wr.heap.size, 0, none⟩) 1 1 [(x : Int)] rfl (fun h => by cases h) rfl (sl_blk (heap_alloc_new wr _)) (by have := Hlj.out; omega) (by simp; omega) ?_; intro v' w2 hown2 hgrow hnil)
      have hB3 : Below w1.heap.size w1 w2 := (HB.out.alloc HB.out.size _).grown hgrow (by simp; omega) (fun k hk => (World.ownsRow.lt hown k hk).1)
      refine ⟨⟨j + 1, by omega, rfl, by rw [Hsucc.out]; exact hown2, hB3⟩, ?_⟩
      show n - ((j : Int) + 1).toNat < n - ((j : Int)).toNat
      omega
    · obtain rfl : j = n := by omega
      have ht : (NI (trn s sa)).take j = NI (trn s sa) := List.take_of_length_le (by rw [NI_length, htl]; exact Nat.le_refl _)
      rw [ht] at hown
      obtain ⟨A, c, hv, hsl, hl1, hA1⟩ := own_sl hown
      subst hv
      rw [NI_length, htl]
      go_wp2_with fail
      go_ret2
      exact ⟨A, c, sa, rfl, HSA.out, hsl, fun q hq => by
        subst hq
        have h9 := World.ownsRow.lt hown q.block rfl
        omega, below_step hB1 hB⟩
end Go.Proofs.YtphccomhggnccaaGreat
namespace Go.Proofs.YtphccomhggnccaaGreat
set_option maxRecDepth 100000
set_option linter.unusedVariables false
set_option linter.unusedSimpArgs false
set_option maxRecDepth 100000
open Go.RowKit Fm
def cs (l : List Nat) (i : Nat) : Nat → Int := fun x => if x < i then ((lessN l x : Nat) : Int) else c1 l l.length x
theorem lessN_zero (l : List Nat) : lessN l 0 = 0 := by simp [lessN]
theorem lessN_succ (l : List Nat) (x : Nat) : lessN l (x + 1) = lessN l x + kc l x l.length := by
  unfold lessN kc
  rw [List.take_length, List.count_eq_length_filter, ← len_filter_or _ _ _ (by
    intro y _
    by_cases h : y < x
    · have : ¬ y = x := by omega
      simp [this]
    · simp [h])]
  congr 1
  refine filter_same _ _ _ fun y _ => ?_
  rw [Bool.eq_iff_iff]
  simp
  omega
theorem cs_start (l : List Nat) (m : Nat) : FA (m + 1) (c1 l l.length) = FA (m + 1) (cs l 1) := FA_same fun i _ => by
  unfold cs
  by_cases h : i < 1
  · obtain rfl : i = 0 := by omega
    rw [if_pos h, lessN_zero]; rfl
  · rw [if_neg h]
theorem cs_step (l : List Nat) (m i : Nat) (h1 : 1 ≤ i) : (FA (m + 1) (cs l i)).set i (cs l i i + cs l i (i - 1)) = FA (m + 1) (cs l (i + 1)) := by
  rw [FA_set]
  refine FA_same fun x _ => ?_
  by_cases e : x = i
  · subst e
    rw [if_pos rfl]
    unfold cs
    rw [if_neg (by omega), if_pos (by omega), if_pos (by omega)]
    obtain ⟨y, rfl⟩ : ∃ y, x = y + 1 := ⟨x - 1, by omega⟩
    rw [lessN_succ]
    unfold c1
    rw [if_neg (by omega), Nat.add_sub_cancel]
    omega
  · rw [if_neg e]
    unfold cs
    by_cases h : x < i
    · rw [if_pos h, if_pos (by omega)]
    · rw [if_neg h, if_neg (by omega)]
theorem cs_end (l : List Nat) (m : Nat) : FA (m + 1) (cs l (m + 1)) = NI ((List.range (m + 1)).map (lessN l)) := by
  rw [← NI_FA]
  exact FA_same fun i hi => by unfold cs; rw [if_pos hi]
theorem lessN_le (l : List Nat) (c : Nat) : lessN l c ≤ l.length := by unfold lessN; exact List.length_filter_le _ _
end Go.Proofs.YtphccomhggnccaaGreat
namespace Go.Proofs.YtphccomhggnccaaGreat
set_option maxRecDepth 100000
set_option linter.unusedVariables false
set_option linter.unusedSimpArgs false
set_option maxRecDepth 100000
open Go.RowKit Fm
set_option maxHeartbeats 4000000 in
theorem counts_any (w : World) (b off n c : Nat) (l : List Nat) (hl : l.length = n) (hn : n ≤ 65536) (hR : RowAt w b off l) (hb : b < w.heap.size) (hx : ∀ j, j < n → l.getD j 0 < 512) :
    Calls Tryz.prog 138 #[.slice (some ⟨b, off, none⟩) n c, .int .i64 9] w fun e w' => ∃ g, e = .returned (.slice (some ⟨g, 0, none⟩) 513 513) ∧ w.heap.size ≤ g ∧ IB w' g (NI ((List.range 513).map (lessN l))) ∧ Below w.heap.size w w' := by
  have Hmk := Lib.hid (make_int 513 (by omega))
  have HR := Lib.hid hR
  have Hl := Lib.hid hl
  have Hx := Lib.hid hx
  clear hR hl hx
  have hmk := Hmk.out
  go_enter Tryz.func138, Tryz.ntmps138
  go_upto_region 2 with fail
  have e1 : RowKit.wrap64 (2 ^ (max (0 : Int) (min 16 9)).toNat) = 512 := by
    rw [show (max (0 : Int) (min 16 9)) = 9 by decide]
    first | rfl | decide | simp [RowKit.wrap64]
  rw [e1]
  clear e1
  have e2 : ((513 : Nat) : Int) = 513 := rfl
  rw [e2] at hmk
  go_wp2_with fail
  clear hmk e2
  have hA : IB (w.alloc (.cells (I (List.replicate 513 0)) 3)) w.heap.size (FA (512 + 1) (c1 l 0)) := by
    rw [c1_zero]; exact heap_alloc_new w _
  have hB0 : Below w.heap.size w (w.alloc (.cells (I (List.replicate 513 0)) 3)) := (Below.refl _ w).alloc (Nat.le_refl _) _
  have hnb : ¬ w.heap.size = b := by omega
  go_loopw [8, 19] (fun k q wr => ∃ j : Nat, j ≤ n ∧ q = .int .i64 (j : Int) ∧ IB wr w.heap.size (FA (512 + 1) (c1 l j)) ∧ Below w.heap.size w wr) (fun _ q _ => n - (intOf q).toNat)
  case atStart => exact ⟨0, Nat.zero_le _, rfl, hA, hB0⟩
  case round =>
    clear hA hB0
    obtain ⟨j, hj, rfl, hC, hB⟩ := hrel
    by_cases hjn : j < n
    · have hck := HR.out.below hB hb j (by rw [Hl.out]; exact hjn)
      have hxm := Hx.out j hjn
      have hcc := hC.cell (i := l.getD j 0 + 1) (by rw [FA_length]; omega)
      have hfr := hC.free (l.getD j 0 + 1)
      rw [FA_getD _ _ _ (by omega)] at hcc
      have hce : c1 l j (l.getD j 0 + 1) = ((kc l (l.getD j 0) j : Nat) : Int) := by unfold c1; rw [if_neg (by omega), Nat.add_sub_cancel]
      have hst := c1_step l 512 j (by rw [Hl.out]; exact hjn)
      rw [hce] at hcc hst
      have hkl2 := kc_le l (l.getD j 0) j
      rw [Hl.out] at hkl2
      have Hst := Lib.hid hst
      have HC := Lib.hid hC
      clear hce hst hC
      generalize l.getD j 0 = x at *
      generalize kc l x j = z at *
      have hmx : max (0 : Int) ((x : Int) + 1) = (x : Int) + 1 := by omega
      go_wp2_with fail
      refine ⟨⟨j + 1, by omega, rfl, ?_, below_cell hB (Nat.le_refl _) _ _ rfl⟩, ?_⟩
      · rw [← Hst.out]; exact HC.out.set _ _
      · show n - ((j : Int) + 1).toNat < n - ((j : Int)).toNat
        omega
    · obtain rfl : j = n := by omega
      have hC1 : IB wr w.heap.size (FA (512 + 1) (cs l 1)) := by
        have e := cs_start l 512
        rw [Hl.out] at e
        rw [← e]; exact hC
      clear hC
      obtain ⟨w1, rfl⟩ : ∃ w1 : World, w1 = wr := ⟨_, rfl⟩
      go_wp2_with fail
      go_loopw [9, 35] (fun q _ wr => ∃ i : Nat, i ≤ 512 ∧ q = .int .i64 ((i : Int) + 1) ∧ IB wr w.heap.size (FA (512 + 1) (cs l (i + 1))) ∧ Below w.heap.size w wr) (fun q _ _ => 514 - (intOf q).toNat)
      case atStart => exact ⟨0, Nat.zero_le _, rfl, hC1, hB⟩
      case round =>
        clear hC1 hB
        obtain ⟨i, hi, rfl, hC, hB⟩ := hrel
        by_cases him : i < 512
        · have hca := hC.cell (i := i + 1) (by rw [FA_length]; omega)
          have hcb := hC.cell (i := i) (by rw [FA_length]; omega)
          have hfr := hC.free (i + 1)
          rw [FA_getD _ _ _ (by omega)] at hca hcb
          have hst := cs_step l 512 (i + 1) (by omega)
          rw [Nat.add_sub_cancel] at hst
          have e1 : cs l (i + 1) (i + 1) = ((kc l i j : Nat) : Int) := by
            unfold cs c1; rw [if_neg (by omega), if_neg (by omega), Nat.add_sub_cancel, Hl.out]
          have e2 : cs l (i + 1) i = ((lessN l i : Nat) : Int) := by
            unfold cs; rw [if_pos (by omega)]
          have b1 := kc_le l i j
          rw [Hl.out] at b1
          have b2 := lessN_le l i
          rw [Hl.out] at b2
          rw [e1, e2] at hst
          rw [e1] at hca
          rw [e2] at hcb
          have Hst := Lib.hid hst
          have HC := Lib.hid hC
          clear e1 e2 hst hC
          generalize kc l i j = a at *
          generalize lessN l i = b at *
          have hw : IntKind.i64.wrap ((a : Int) + (b : Int)) = (a : Int) + (b : Int) := IntWalk.i64_in _ (by omega)
          have hi1 : (0 : Int) ≤ (i : Int) + 1 := by omega
          have hi2 : (i : Int) + 1 < 513 := by omega
          go_upto_region 12 with fail
          go_region
          all_goals go_wp2_with fail
          all_goals refine ⟨⟨i + 1, by omega, rfl, by rw [← Hst.out]; exact HC.out.set (i + 1) _, (below_cell hB (Nat.le_refl _) _ _ rfl).drew⟩, ?_⟩
          all_goals show 514 - ((i : Int) + 1 + 1).toNat < 514 - ((i : Int) + 1).toNat
          all_goals omega
        · obtain rfl : i = 512 := by omega
          have hC3 : IB wr w.heap.size (NI ((List.range 513).map (lessN l))) := by
            rw [← cs_end l 512]; exact hC
          go_wp2_with fail
          go_ret
          exact ⟨w.heap.size, rfl, Nat.le_refl _, hC3, hB⟩
end Go.Proofs.YtphccomhggnccaaGreat
namespace Go.Proofs.YtphccomhggnccaaGreat
set_option maxRecDepth 100000
set_option linter.unusedVariables false
set_option linter.unusedSimpArgs false
open Go.RowKit Fm
def stp (s : List Nat) (j : Nat) : List Nat := 0 :: ((List.range j).filter fun i => s.getD i 0 == 1).map (· + 1)
theorem stp_succ (s : List Nat) (j : Nat) : stp s (j + 1) = stp s j ++ if s.getD j 0 = 1 then [j + 1] else [] := by
  unfold stp
  rw [List.range_succ, List.filter_append, List.map_append, List.cons_append]
  congr 2
  by_cases h : s.getD j 0 = 1
  · rw [if_pos h, List.filter_cons, if_pos (by rw [h]; rfl)]; rfl
  · rw [if_neg h, List.filter_cons, if_neg (by simpa using h)]; rfl
theorem stp_le (s : List Nat) (j : Nat) : (stp s j).length ≤ j + 1 := by
  have h1 := List.length_filter_le (fun i => s.getD i 0 == 1) (List.range j)
  have h2 := List.length_range (n := j)
  simp only [stp, List.length_cons, List.length_map]
  omega
def ons (sa : List Nat) (j : Nat) : List Nat := (List.range j).filter fun i => sa.getD i 0 % 8 == 0
def plc (sa : List Nat) (j : Nat) : List Nat := (ons sa j).map fun i => sa.getD i 0
theorem ons_succ (sa : List Nat) (j : Nat) : ons sa (j + 1) = ons sa j ++ if sa.getD j 0 % 8 = 0 then [j] else [] := by
  unfold ons
  rw [List.range_succ, List.filter_append]
  congr 1
  by_cases h : sa.getD j 0 % 8 = 0 <;> simp [List.filter_cons, h]
theorem plc_succ (sa : List Nat) (j : Nat) : plc sa (j + 1) = plc sa j ++ if sa.getD j 0 % 8 = 0 then [sa.getD j 0] else [] := by
  unfold plc
  rw [ons_succ, List.map_append]
  congr 1
  by_cases h : sa.getD j 0 % 8 = 0
  · rw [if_pos h, if_pos h]; rfl
  · rw [if_neg h, if_neg h]; rfl
theorem ons_le (sa : List Nat) (j : Nat) : (ons sa j).length ≤ j := by
  have h1 := List.length_filter_le (fun i => sa.getD i 0 % 8 == 0) (List.range j)
  rw [List.length_range] at h1
  exact h1
theorem plc_length (sa : List Nat) (j : Nat) : (plc sa j).length = (ons sa j).length := by simp [plc]
theorem ons_mem {sa : List Nat} {j i : Nat} : i ∈ ons sa j ↔ i < j ∧ sa.getD i 0 % 8 = 0 := by simp [ons]
theorem ons_lt (sa : List Nat) (j k : Nat) (h : k < (ons sa j).length) : (ons sa j).getD k 0 < j ∧ sa.getD ((ons sa j).getD k 0) 0 % 8 = 0 := by
  rw [getD_at h]
  exact ons_mem.1 (List.getElem_mem h)
theorem plc_at (sa : List Nat) (j k : Nat) (h : k < (ons sa j).length) : (plc sa j).getD k 0 = sa.getD ((ons sa j).getD k 0) 0 := by
  rw [getD_at (by rw [plc_length]; exact h), getD_at h]
  simp [plc]
theorem map_getD (l : List Nat) : (List.range l.length).map (fun i => l.getD i 0) = l := (self_range l).symm
theorem plc_filter (sa : List Nat) : plc sa sa.length = sa.filter fun p => p % 8 == 0 := by
  have h := map_getD sa
  conv => rhs; rw [← h]
  rw [List.filter_map]
  rfl
theorem eighths (n : Nat) : ((List.range n).filter fun p => p % 8 == 0).length = (n + 7) / 8 := by
  induction n with
  | zero => rfl
  | succ n ih =>
    rw [List.range_succ, List.filter_append, List.length_append, ih, List.filter_cons]
    by_cases h : n % 8 = 0
    · rw [if_pos (by rw [h]; rfl)]
      simp only [List.filter_nil, List.length_cons, List.length_nil]
      omega
    · rw [if_neg (by simpa using h)]
      simp only [List.filter_nil, List.length_nil]
      omega
theorem plc_count {s sa : List Nat} (h : IsSA s sa) : (plc sa s.length).length = (s.length + 7) / 8 := by
  rw [← eighths, ← h.length, plc_filter, h.length]
  exact (h.perm.filter _).length_eq
def RowsOf (sa : List Nat) (K k : Nat) (r : List Int) : Prop := r.length = K ∧ ∀ i, i < k → r.getD ((plc sa sa.length).getD i 0 / 8) 0 = (((ons sa sa.length).getD i 0 : Nat) : Int)
theorem rows_zero (sa : List Nat) (K : Nat) (r : List Int) (h : r.length = K) : RowsOf sa K 0 r := ⟨h, fun i hi => absurd hi (Nat.not_lt_zero _)⟩
theorem ons_inj {s sa : List Nat} (h : IsSA s sa) (i k : Nat) (hi : i < k) (hk : k < (ons sa sa.length).length) : (ons sa sa.length).getD i 0 ≠ (ons sa sa.length).getD k 0 := by
  rw [getD_at (by omega), getD_at hk]
  have hn : (ons sa sa.length).Nodup := List.nodup_range.filter _
  exact List.pairwise_iff_getElem.1 hn i k (by omega) hk hi
theorem plc_lt {s sa : List Nat} (h : IsSA s sa) (k : Nat) (hk : k < (ons sa sa.length).length) : (plc sa sa.length).getD k 0 < s.length ∧ (plc sa sa.length).getD k 0 % 8 = 0 := by
  have ho := ons_lt sa sa.length k hk
  rw [plc_at _ _ _ hk]
  refine ⟨?_, ho.2⟩
  rw [getD_at ho.1]
  exact h.lt (List.getElem_mem _)
theorem rows_step {s sa : List Nat} (h : IsSA s sa) {K k : Nat} {r : List Int} (hK : K = (s.length + 7) / 8) (hr : RowsOf sa K k r) (hk : k < (ons sa sa.length).length) :
    RowsOf sa K (k + 1) (r.set ((plc sa sa.length).getD k 0 / 8) (((ons sa sa.length).getD k 0 : Nat) : Int)) := by
  refine ⟨by rw [List.length_set]; exact hr.1, fun i hi => ?_⟩
  have hp := plc_lt h k hk
  rw [set_getD _ _ _ _ (by rw [hr.1, hK]; omega)]
  by_cases e : i = k
  · subst e; rw [if_pos rfl]
  · have hik : i < k := by omega
    have hq := plc_lt h i (by omega)
    rw [if_neg, hr.2 i hik]
    intro e2
    have e3 : (plc sa sa.length).getD i 0 = (plc sa sa.length).getD k 0 := by omega
    rw [plc_at _ _ _ (by omega), plc_at _ _ _ hk] at e3
    have hperm := h.perm
    have hpa := perm_at hperm
    have o1 := (ons_lt sa sa.length i (by omega)).1
    have o2 := (ons_lt sa sa.length k hk).1
    exact ons_inj h i k hik hk (hpa.2.2.2 _ _ (by rw [← h.length]; exact o1) (by rw [← h.length]; exact o2) e3)
theorem rows_at {s sa : List Nat} (h : IsSA s sa) {K : Nat} {r : List Int} (hr : RowsOf sa K (ons sa sa.length).length r) (q : Nat) (hq : 8 * q < s.length) :
    ∃ i, i < s.length ∧ r.getD q 0 = ((i : Nat) : Int) ∧ sa.getD i 0 = 8 * q := by
  obtain ⟨i, hi, e⟩ := (perm_at h.perm).2.1 (8 * q) hq
  have hm : i ∈ ons sa sa.length := ons_mem.2 ⟨by rw [h.length]; exact hi, by rw [e]; omega⟩
  obtain ⟨k, hk, ek⟩ := List.getElem_of_mem hm
  have e1 : (ons sa sa.length).getD k 0 = i := by rw [getD_at hk]; exact ek
  have := hr.2 k hk
  rw [plc_at _ _ _ hk, e1, e] at this
  exact ⟨i, hi, by rw [show q = 8 * q / 8 by omega]; exact this, e⟩
end Go.Proofs.YtphccomhggnccaaGreat
namespace Go.Proofs.YtphccomhggnccaaGreat
set_option maxRecDepth 100000
set_option linter.unusedVariables false
set_option linter.unusedSimpArgs false
set_option maxRecDepth 100000
open Go.RowKit Fm Rank
theorem txt_getD (t r : List Nat) (i : Nat) (h : i < t.length) : (txt t ++ r).getD i 0 = t.getD i 0 + 2 := by
  unfold txt
  simp [List.getD, List.getElem?_append, h]
theorem txt_getD_end (t r : List Nat) : (txt t ++ r).getD t.length 0 = 1 := by
  unfold txt
  simp [List.getD]
theorem stp_gen (ts : List (List Nat)) (o : Nat) : o :: ((List.range (rowT ts).length).filter fun i => (rowT ts).getD i 0 == 1).map (fun i => o + (i + 1)) = stf o ts := by
  induction ts generalizing o with
  | nil => simp [rowT, body, stf]
  | cons t ts ih =>
    have e1 : (List.range (t.length + 1)).filter (fun i => (txt t ++ rowT ts).getD i 0 == 1) = [t.length] := by
      rw [List.range_succ, List.filter_append]
      have e2 : (List.range t.length).filter (fun i => (txt t ++ rowT ts).getD i 0 == 1) = [] := by
        rw [List.filter_eq_nil_iff]
        intro i hi
        rw [txt_getD t _ i (List.mem_range.1 hi)]
        simp
      rw [e2, List.nil_append, List.filter_cons, if_pos (by rw [txt_getD_end]; rfl)]
      rfl
    have e3 : (List.range (rowT ts).length).filter (fun i => (txt t ++ rowT ts).getD (t.length + 1 + i) 0 == 1) = (List.range (rowT ts).length).filter (fun i => (rowT ts).getD i 0 == 1) := by
      refine filter_same _ _ _ fun i _ => ?_
      simp only [List.getD]
      rw [← txt_length, List.getElem?_append_right (by omega), Nat.add_sub_cancel_left]
    rw [rowT_cons, List.length_append, txt_length, filter_range_add, e1, e3, List.map_append, List.map_map, stf, ← ih (o + t.length + 1)]
    refine congrArg (o :: ·) ?_
    show (o + (t.length + 1)) :: _ = _
    rw [show o + (t.length + 1) = o + t.length + 1 by omega]
    refine congrArg ((o + t.length + 1) :: ·) ?_
    refine List.map_congr_left fun i _ => ?_
    simp only [Function.comp]
    omega
theorem stp_rowT (ts : List (List Nat)) : stp (rowT ts) (rowT ts).length = stf 0 ts := by
  rw [← stp_gen ts 0]
  unfold stp
  simp

def mrk (sa : List Nat) : List Bool := (List.range sa.length).map fun i => sa.getD i 0 % 8 == 0
theorem mrk_length (sa : List Nat) : (mrk sa).length = sa.length := by simp [mrk]
theorem mrk_getD (sa : List Nat) (i : Nat) (h : i < sa.length) : (mrk sa).getD i false = (sa.getD i 0 % 8 == 0) := by
  simp [mrk, List.getD, h]
theorem laid_getD (l : List Bool) (y : Int) (i : Nat) (h : i < l.length) : (laid l y).getD i false = (l.getD i false || (y == (i : Int))) := by
  unfold laid
  by_cases hy : 0 ≤ y ∧ y < (l.length : Int)
  · rw [if_pos hy]
    simp only [List.getD, List.getElem?_set]
    by_cases e : y.toNat = i
    · have e2 : y = (i : Int) := by omega
      rw [if_pos e, if_pos (by omega)]
      simp [e2]
    · have e2 : (y == (i : Int)) = false := by rw [beq_eq_false_iff_ne]; omega
      rw [if_neg e, e2, Bool.or_false]
  · rw [if_neg hy]
    have e2 : (y == (i : Int)) = false := by rw [beq_eq_false_iff_ne]; omega
    rw [e2, Bool.or_false]
theorem fold_getD (ys : List Int) (l : List Bool) (i : Nat) (h : i < l.length) : (ys.foldl laid l).getD i false = (l.getD i false || ys.any fun y => y == (i : Int)) := by
  induction ys generalizing l with
  | nil => simp
  | cons y ys ih =>
    rw [List.foldl_cons, ih _ (by rw [laid_length]; exact h), laid_getD l y i h, List.any_cons, Bool.or_assoc]
theorem laid_ons (sa : List Nat) : laidAll (List.replicate sa.length false) (NI (ons sa sa.length)) (ons sa sa.length).length = mrk sa := by
  refine getD_ext (by rw [laidAll_length, List.length_replicate, mrk_length]) fun i hi => ?_
  rw [laidAll_length, List.length_replicate] at hi
  unfold laidAll
  rw [List.take_of_length_le (by rw [NI_length]; exact Nat.le_refl _), fold_getD _ _ _ (by rw [List.length_replicate]; exact hi), mrk_getD _ _ hi]
  have e1 : (List.replicate sa.length false).getD i false = false := by simp [List.getD, List.getElem?_replicate, hi]
  rw [e1, Bool.false_or, Bool.eq_iff_iff, List.any_eq_true, beq_iff_eq]
  constructor
  · rintro ⟨y, hy, e⟩
    obtain ⟨k, hk, rfl⟩ := List.mem_map.1 hy
    have e2 : k = i := by
      have := beq_iff_eq.1 e
      omega
    subst e2
    exact (ons_mem.1 hk).2
  · intro e
    exact ⟨(i : Int), List.mem_map.2 ⟨i, ons_mem.2 ⟨hi, e⟩, rfl⟩, by simp⟩
theorem rk_mrk (sa : List Nat) (i : Nat) (h : i ≤ sa.length) : rk (mrk sa) true i = (ons sa i).length := by
  unfold rk mrk ons
  rw [← List.map_take, List.take_range, Nat.min_eq_left h, List.count, List.countP_map, List.countP_eq_length_filter]
  congr 1
  refine filter_same _ _ _ fun k _ => ?_
  simp only [Function.comp]
  cases h : (sa.getD k 0 % 8 == 0) <;> rfl
theorem plc_rk (sa : List Nat) (i : Nat) (h : i < sa.length) (h8 : sa.getD i 0 % 8 = 0) : rk (mrk sa) true i < (plc sa sa.length).length ∧ (plc sa sa.length).getD (rk (mrk sa) true i) 0 = sa.getD i 0 := by
  rw [rk_mrk sa i (by omega)]
  have e : ∃ r, ons sa sa.length = ons sa i ++ i :: r := by
    refine ⟨((List.range (sa.length - (i + 1))).map (fun k => i + 1 + k)).filter fun k => sa.getD k 0 % 8 == 0, ?_⟩
    have e2 : ons sa sa.length = ons sa (i + 1) ++ ((List.range (sa.length - (i + 1))).map (fun k => i + 1 + k)).filter fun k => sa.getD k 0 % 8 == 0 := by
      unfold ons
      rw [← List.filter_append, ← List.range_add, show i + 1 + (sa.length - (i + 1)) = sa.length by omega]
    rw [e2, ons_succ, if_pos h8, List.append_assoc]
    rfl
  obtain ⟨r, e⟩ := e
  have hk : (ons sa i).length < (ons sa sa.length).length := by rw [e]; simp
  refine ⟨by rw [plc_length]; exact hk, ?_⟩
  rw [plc_at _ _ _ hk]
  have : (ons sa sa.length).getD (ons sa i).length 0 = i := by
    rw [e]; simp [List.getD]
  rw [this]

theorem TM.mono {w : World} {base base' b W : Nat} {l : List Nat} (h : TM w base b W l) (hb : base' ≤ base) : TM w base' b W l := by
  obtain ⟨h1, h2, h3, h4, h5, hh, cap, cur, vb, hg, hbk, hc, hl⟩ := h
  exact ⟨h1, h2, h3, h4, by omega, hh, cap, cur, vb, by omega, hbk, hc, fun k hkW => ⟨(hl k hkW).1, (hl k hkW).2.1, (hl k hkW).2.2.mono hb⟩⟩
structure IdxM (w : World) (base x : Nat) (s sa : List Nat) : Prop where
  ge : base ≤ x
  len : s.length ≤ 65536
  lt : ∀ c ∈ s, c < 512
  cl : Closed s
  ord : IsSA s sa
  blk : ∃ (tr g3 y yc mb pb pg k rb : Nat) (r : List Int), base ≤ g3 ∧ base ≤ y ∧ base ≤ pb ∧ base ≤ pg ∧ base ≤ rb ∧
    w.heap[x]? = some (.cells #[.pointer (some ⟨tr, 0, none⟩), .slice (some ⟨g3, 0, none⟩) 513 513, .slice (some ⟨y, 0, none⟩) (stp s s.length).length yc, .pointer (some ⟨mb, 0, none⟩), .pointer (some ⟨pb, 0, none⟩), .slice (some ⟨rb, 0, none⟩) (ons sa s.length).length (ons sa s.length).length] 113 (0, 0)) ∧
    TM w base tr 9 (trn s sa) ∧ IB w g3 (NI ((List.range 513).map (lessN s))) ∧
    (∃ cur, w.heap[y]? = some (.cells cur 3 (0, 0)) ∧ cur.toList.take (stp s s.length).length = VI (NI (stp s s.length))) ∧ (stp s s.length).length ≤ yc ∧
    BVec w base mb (mrk sa) ∧ PArr w pb pg k (plc sa s.length) ∧ IB w rb r ∧ RowsOf sa (ons sa s.length).length (ons sa s.length).length r
theorem IdxM.keep {w w' : World} {base x : Nat} {s sa : List Nat} (h : IdxM w base x s sa) (hk : ∀ k, base ≤ k → k < w.heap.size → w'.heap[k]? = w.heap[k]?) : IdxM w' base x s sa := by
  obtain ⟨h1, h2, h3, h4, h5, tr, g3, y, yc, mb, pb, pg, k, rb, r, b1, b2, b3, b4, b5, c0, c1, c2, ⟨cur, c3, c3t⟩, c4, c5, c6, c7, c8⟩ := h
  exact ⟨h1, h2, h3, h4, h5, tr, g3, y, yc, mb, pb, pg, k, rb, r, b1, b2, b3, b4, b5, (hk _ h1 (blk_lt c0)).trans c0, c1.keep hk, (hk _ b1 (blk_lt c2)).trans c2, ⟨cur, (hk _ b2 (blk_lt c3)).trans c3, c3t⟩, c4,
    c5.keep hk, c6.kept (hk _ b3 (blk_lt c6.hd)) (hk _ b4 (blk_lt c6.ws)), (hk _ b5 (blk_lt c7)).trans c7, c8⟩
theorem IdxM.below {w w' : World} {base x : Nat} {s sa : List Nat} (h : IdxM w base x s sa) (hb : Below w.heap.size w w') : IdxM w' base x s sa :=
  h.keep fun k _ hk => hb.block k hk
end Go.Proofs.YtphccomhggnccaaGreat
namespace Go.Proofs.YtphccomhggnccaaGreat
set_option maxRecDepth 100000
set_option linter.unusedVariables false
set_option linter.unusedSimpArgs false
set_option maxRecDepth 100000
open Go.RowKit Fm
theorem starts_new (w : World) : (w.alloc (.cells (I [0]) 3)).ownsRow w.heap.size 3 1 (.slice (some ⟨w.heap.size, 0, none⟩) 1 1) 1 (VI (NI [0])) := by
  refine ⟨rfl, .inr ⟨w.heap.size, 1, I [0], rfl, Nat.le_refl _, heap_alloc_new w _, Nat.le_refl _, by decide, rfl, rfl⟩⟩

theorem app_int_mv {w : World} {ops : Array Oper} {rest : List Oper} {o : Oper} {a : Act} {Q : Exit → Act → World → Prop} (hgd : o.guard = none) (s x : Operand)
    (ho : o.op = .call { callee := .builtin .append, args := #[s, x], argTypes := #[26, 26] })
    (base : Nat) (v : Value) (xs : List Int) (hs : a.eval s = v) (hown : w.ownsRow base 3 1 v xs.length (VI xs))
    (ad : Addr) (m c : Nat) (news : List Int) (hx : a.eval x = .slice (some ad) m c) (hl : news.length = m) (hnews : Sl w (some ad) (VI news))
    (h63 : xs.length + m ≤ 1099511627776) (hbase : base ≤ w.heap.size)
    (h : ∀ v' w', w'.ownsRow base 3 1 v' (xs ++ news).length (VI (xs ++ news)) → w.grownBy w' v.ownBlock → (v'.ownBlock = v.ownBlock ∨ v'.ownBlock = some w.heap.size) → wpList Tryz.prog ops Q rest (a.put o.dst v') w') : wpList Tryz.prog ops Q (o :: rest) a w := by
  obtain ⟨i0, hi, hz0, hz1, hz2⟩ := info_parts info_int
  refine wpList_append_own_at w hgd s x 26 ho base 3 i0 (.int .i64 0) 1 8 Tryz.underlying26 hi hz0 hz1 hz2 rfl (by decide) v xs.length (VI xs) hs hown ad m c (VI news) hx (by rw [VI_length]; omega) (hnews.cell ad rfl) (VI_one _) (by unfold maxLen; omega) (by omega) hbase ?_
  intro v' w' h1 h2 _ h4
  refine h v' w' ?_ h2 h4
  rw [List.length_append, hl, VI_append]
  exact h1
theorem V_append (xs ys : List Nat) : V (xs ++ ys) = V xs ++ V ys := by simp [V]
theorem app_u64_mv {w : World} {ops : Array Oper} {rest : List Oper} {o : Oper} {a : Act} {Q : Exit → Act → World → Prop} (hgd : o.guard = none) (s x : Operand)
    (ho : o.op = .call { callee := .builtin .append, args := #[s, x], argTypes := #[183, 183] })
    (base : Nat) (v : Value) (xs : List Nat) (hs : a.eval s = v) (hown : w.ownsRow base 154 1 v xs.length (V xs))
    (ad : Addr) (m c : Nat) (news : List Nat) (hx : a.eval x = .slice (some ad) m c) (hl : news.length = m) (hnews : Sl w (some ad) (V news))
    (h63 : xs.length + m ≤ 1099511627776) (hbase : base ≤ w.heap.size)
    (h : ∀ v' w', w'.ownsRow base 154 1 v' (xs ++ news).length (V (xs ++ news)) → w.grownBy w' v.ownBlock → (v'.ownBlock = v.ownBlock ∨ v'.ownBlock = some w.heap.size) → wpList Tryz.prog ops Q rest (a.put o.dst v') w') : wpList Tryz.prog ops Q (o :: rest) a w := by
  obtain ⟨i0, hi, hz0, hz1, hz2⟩ := info_parts info_u64
  refine wpList_append_own_at w hgd s x 183 ho base 154 i0 (.int .u64 0) 1 8 Tryz.underlying183 hi hz0 hz1 hz2 rfl (by decide) v xs.length (V xs) hs hown ad m c (V news) hx (by rw [V_length]; omega) (hnews.cell ad rfl) (V_one _) (by unfold maxLen; omega) (by omega) hbase ?_
  intro v' w' h1 h2 _ h4
  refine h v' w' ?_ h2 h4
  rw [List.length_append, hl, V_append]
  exact h1
theorem own_cell {w : World} {base : Nat} {e : TypeId} {v : Value} {n : Nat} {xs : List Value} (h : w.ownsRow base e 1 v n xs) (c j : Nat) (u : Value) (hne : v.ownBlock ≠ some c) : (w.setCell ⟨c, j, none⟩ u).ownsRow base e 1 v n xs :=
  World.ownsRow.kept h (row := some c) ⟨rfl, rfl, rfl, by simp [World.setCell], fun k hk hk2 => Below.heap_setCell w ⟨c, j, none⟩ u k (by show k ≠ c; intro e2; exact hk2 (by rw [e2]))⟩ (.inr hne)
structure Two (w : World) (base : Nat) (e1 e2 : TypeId) (u v : Value) (m n : Nat) (xs ys : List Value) : Prop where
  fst : w.ownsRow base e1 1 u m xs
  snd : w.ownsRow base e2 1 v n ys
  ne : ∀ k, u.ownBlock = some k → v.ownBlock ≠ some k
theorem Two.none (w : World) (base : Nat) (e1 e2 : TypeId) : Two w base e1 e2 (.slice none 0 0) (.slice none 0 0) 0 0 [] [] :=
  ⟨World.ownsRow_nil w base e1 1, World.ownsRow_nil w base e2 1, fun k hk => by cases hk⟩
theorem Two.turn {w : World} {base : Nat} {e1 e2 : TypeId} {u v : Value} {m n : Nat} {xs ys : List Value} (h : Two w base e1 e2 u v m n xs ys) : Two w base e2 e1 v u n m ys xs :=
  ⟨h.snd, h.fst, fun k hk e => h.ne k e hk⟩
theorem Two.grow {w w' : World} {base : Nat} {e1 e2 : TypeId} {u v u' : Value} {m n m' : Nat} {xs ys xs' : List Value} (h : Two w base e1 e2 u v m n xs ys) (o : Obj)
    (h1 : w'.ownsRow base e1 1 u' m' xs') (hg : (w.alloc o).grownBy w' u.ownBlock) (hat : u'.ownBlock = u.ownBlock ∨ u'.ownBlock = some (w.alloc o).heap.size) : Two w' base e1 e2 u' v m' n xs' ys := by
  refine ⟨h1, World.ownsRow.kept (World.ownsRow.alloc h.snd o) hg ?_, fun k hk e => ?_⟩
  · cases hv : v.ownBlock with
    | none => exact .inl rfl
    | some k => exact .inr fun e => h.ne k e.symm hv
  · rcases hat with h9 | h9
    · exact h.ne k (h9.symm.trans hk) e
    · rw [hk] at h9
      have h8 := Option.some.inj h9
      have := (World.ownsRow.lt h.snd k e).2
      simp at h8
      omega
theorem Two.below {w w' : World} {base : Nat} {e1 e2 : TypeId} {u v : Value} {m n : Nat} {xs ys : List Value} (h : Two w base e1 e2 u v m n xs ys) (hb : Below w.heap.size w w') : Two w' base e1 e2 u v m n xs ys :=
  ⟨own_below h.fst hb, own_below h.snd hb, h.ne⟩
theorem Two.cell {w : World} {base : Nat} {e1 e2 : TypeId} {u v : Value} {m n : Nat} {xs ys : List Value} (h : Two w base e1 e2 u v m n xs ys) (c j : Nat) (x : Value) (h1 : ∀ k, u.ownBlock = some k → k ≠ c) (h2 : ∀ k, v.ownBlock = some k → k ≠ c) : Two (w.setCell ⟨c, j, .none⟩ x) base e1 e2 u v m n xs ys :=
  ⟨own_cell h.fst c j x (fun e => h1 c e rfl), own_cell h.snd c j x (fun e => h2 c e rfl), h.ne⟩
theorem below_app {B : Nat} {w0 w w' : World} {o : Obj} {r : Option Nat} (h : Below B w0 w) (hg : (w.alloc o).grownBy w' r) (hs : B ≤ w0.heap.size) (hr : ∀ k, r = some k → B ≤ k) : Below B w0 w' :=
  (h.alloc (by have := h.size; omega) o).grown hg (by have := h.size; simp; omega) hr
end Go.Proofs.YtphccomhggnccaaGreat
namespace Go.Proofs.YtphccomhggnccaaGreat
set_option maxRecDepth 100000
set_option linter.unusedVariables false
set_option linter.unusedSimpArgs false
set_option maxRecDepth 100000
open Go.RowKit Fm
set_option maxHeartbeats 20000000 in
theorem made_fm (w : World) (b off n cap : Nat) (s : List Nat) (hl : s.length = n) (hc : Closed s) (hn : n ≤ 65536) (hS : Sl w (some ⟨b, off, none⟩) (VI (NI s))) (hb : b < w.heap.size) (hx : ∀ x ∈ s, x < 512) :
    Calls Tryz.prog 102 #[.slice (some ⟨b, off, none⟩) n cap] w fun e w' => ∃ (x : Nat) (sa : List Nat), e = .returned (.tuple #[.pointer (some ⟨x, 0, none⟩), .int .i64 0]) ∧ IdxM w' w.heap.size x s sa ∧ Below w.heap.size w w' := by
  have hpos := hc.pos
  rw [hl] at hpos
  have HA := Lib.hid (array_any w b off n cap s hl hpos hn hS hb)
  have HS := Lib.hid hS
  have Hl := Lib.hid hl
  have Hc := Lib.hid hc
  have Hx := Lib.hid hx
  clear hS hl hc hx
  go_enter Tryz.func102, Tryz.ntmps102
  go_wp2_with fail
  go_at_call 136
  refine HA.out.mono ?_
  rintro e w1 ⟨g, sa, rfl, hg, hI, hsa, hB1⟩
  have HSA := Lib.hid hsa
  have HI := Lib.hid hI
  have hgl := hI.lt
  have hs1 := hB1.size
  have HT := Lib.hid (turn_any w1 b off n cap s Hl.out Hc.out hn (HS.out.below hB1) (by omega))
  clear HA hsa hI
  go_wp2_with fail
  go_at_call 137
  refine HT.out.mono ?_
  rintro e w2 ⟨A, c2, sb, rfl, hsb, hSt, hAq, hB2⟩
  obtain rfl := HSA.out.unique hsb
  have htl : (trn s sa).length = n := by rw [trn_length HSA.out, Hl.out]
  obtain ⟨tb, toff, hA, _⟩ := hSt.lit (j := 0) (by rw [VI_length, NI_length, htl]; exact hpos)
  subst hA
  have htx : ∀ x ∈ trn s sa, x < 512 := fun x hx => Hx.out x ((trn_perm Hc.out HSA.out).mem_iff.1 hx)
  have hs2 := hB2.size
  obtain ⟨q1, q2⟩ := hAq _ rfl
  have HCn := Lib.hid (counts_any w2 tb toff n c2 (trn s sa) htl hn (rowAt_of hSt) q2 (fun j hj => htx _ (by rw [getD_at (by omega)]; exact List.getElem_mem _)))
  have HSt := Lib.hid hSt
  have Htl := Lib.hid htl
  have Htx := Lib.hid htx
  have HB2 := Lib.hid (below_step hB1 hB2)
  have Hb12 := Lib.hid hB2
  clear hSt hsb HT hAq hB2 htl htx hB1
  go_wp2_with fail
  go_at_call 138
  refine HCn.out.mono ?_
  rintro e w3 ⟨g3, rfl, hg3, hI3, hB3⟩
  have hg3l := hI3.lt
  have HI3 := Lib.hid hI3
  have HB3 := Lib.hid hB3
  clear HCn hI3 hB3
  go_wp2_with fail
  obtain ⟨wI, hwI⟩ : ∃ wI, (w3.alloc (.cells #[.int .i64 0] 3)).alloc (.cells #[.pointer none, .slice (some ⟨g3, 0, none⟩) 513 513, .slice (some ⟨w3.heap.size, 0, none⟩) 1 1, .pointer none, .pointer none, .slice none 0 0] 113) = wI := ⟨_, rfl⟩
  have hIx : wI.heap[w3.heap.size + 1]? = some (.cells #[.pointer none, .slice (some ⟨g3, 0, none⟩) 513 513, .slice (some ⟨w3.heap.size, 0, none⟩) 1 1, .pointer none, .pointer none, .slice none 0 0] 113 (0, 0)) := by
    rw [← hwI]
    have := heap_alloc_new (w3.alloc (.cells #[.int .i64 0] 3)) (.cells #[.pointer none, .slice (some ⟨g3, 0, none⟩) 513 513, .slice (some ⟨w3.heap.size, 0, none⟩) 1 1, .pointer none, .pointer none, .slice none 0 0] 113)
    simpa using this
  have hOw : wI.ownsRow w3.heap.size 3 1 (.slice (some ⟨w3.heap.size, 0, none⟩) 1 1) 1 (VI (NI [0])) := by
    rw [← hwI]; exact World.ownsRow.alloc (starts_new w3) _
  have hBI : Below w3.heap.size w3 wI := by rw [← hwI]; exact ((Below.refl _ w3).alloc (Nat.le_refl _) _).alloc (by simp) _
  have hsI : wI.heap.size = w3.heap.size + 2 := by rw [← hwI]; simp
  rw [hwI]
  clear hwI
  have hs3 := HB3.out.size
  have HBd := Lib.hid (build_any wI (some ⟨tb, toff, none⟩) n c2 9 (trn s sa) (by omega) (by omega) Htl.out (by omega) (fun h => by cases h) ((HSt.out.below HB3.out).below hBI) (fun x hx => by have := Htx.out x hx; omega))
  have HIx := Lib.hid hIx
  have HOw := Lib.hid hOw
  have HBI := Lib.hid hBI
  clear hIx hOw hBI
  refine HBd.out.mono ?_
  rintro e w4 ⟨tr, rfl, hTM, hB4⟩
  have hIx4 := (hB4.block _ (by omega)).trans HIx.out
  have HTM := Lib.hid hTM
  have HB4 := Lib.hid hB4
  have hs4 := hB4.size
  have hfx := frozen_blk hIx4 0
  have HIx4 := Lib.hid hIx4
  clear HBd hTM hB4 hIx4 HIx
  obtain ⟨x0, hx0⟩ : ∃ x0, w3.heap.size + 1 = x0 := ⟨_, rfl⟩
  rw [hx0] at HIx4 hfx ⊢
  have hc0 := (cell_blk HIx4.out 0).trans rfl
  go_upto_region 11 with fail
  obtain ⟨y0, hy0⟩ : ∃ y0, w3.heap.size = y0 := ⟨_, rfl⟩
  obtain ⟨less, hless⟩ : ∃ less, Value.slice (some ⟨g3, 0, none⟩) 513 513 = less := ⟨_, rfl⟩
  have hIx5 : (w4.setCell ⟨x0, 0, none⟩ (.pointer (some ⟨tr, 0, none⟩))).heap[x0]? = some (.cells #[.pointer (some ⟨tr, 0, none⟩), less, .slice (some ⟨y0, 0, none⟩) 1 1, .pointer none, .pointer none, .slice none 0 0] 113 (0, 0)) := by
    rw [← hy0, ← hless]; exact blk_set HIx4.out 0 _
  have hB5 : Below w3.heap.size w3 (w4.setCell ⟨x0, 0, none⟩ (.pointer (some ⟨tr, 0, none⟩))) :=
    below_cell (HBI.out.trans (HB4.out.mono (by omega))) (by omega) _ _ rfl
  have hOw5 : (w4.setCell ⟨x0, 0, none⟩ (.pointer (some ⟨tr, 0, none⟩))).ownsRow w3.heap.size 3 1 (.slice (some ⟨y0, 0, none⟩) 1 1) 1 (VI (NI [0])) := by
    have h9 := World.ownsRow.kept HOw.out (below_grown HB4.out (Nat.le_refl _) none) (.inr (by simp [Value.ownBlock]))
    rw [hy0] at h9
    rw [hy0]
    exact own_cell h9 x0 0 _ (by intro e; have e2 : y0 = x0 := Option.some.inj e; omega)
  have HK5 : Hid (∀ k, w3.heap.size + 2 ≤ k → k < w4.heap.size → (w4.setCell ⟨x0, 0, none⟩ (.pointer (some ⟨tr, 0, none⟩))).heap[k]? = w4.heap[k]?) := fun k h1 h2 => Below.heap_setCell w4 _ _ k (by show k ≠ x0; omega)
  have Hless := Lib.hid hless
  have Hy0 := Lib.hid hy0
  have Hx0 := Lib.hid hx0
  clear hc0 hless hfx hy0 hx0
  obtain ⟨w5, hw5⟩ : ∃ w5, w4.setCell ⟨x0, 0, none⟩ (.pointer (some ⟨tr, 0, none⟩)) = w5 := ⟨_, rfl⟩
  have hs5 : w5.heap.size = w4.heap.size := by rw [← hw5]; simp [World.setCell]
  rw [hw5] at hIx5 hB5 hOw5 HK5 ⊢
  clear hw5
  have HR := Lib.hid (rowAt_of HS.out)
  go_wp2_with fail
  go_loopw [8, 9, 50] (fun s8 s9 q wr => ∃ (j : Nat) (v : Value), j ≤ n ∧ q = .int .i64 (j : Int) ∧ wr.heap[x0]? = some (.cells #[.pointer (some ⟨tr, 0, none⟩), less, v, .pointer none, .pointer none, .slice none 0 0] 113 (0, 0)) ∧
      wr.ownsRow w3.heap.size 3 1 v (stp s j).length (VI (NI (stp s j))) ∧ Hid (∀ k, v.ownBlock = some k → k = y0 ∨ w5.heap.size ≤ k) ∧ Below w3.heap.size w3 wr ∧ w5.heap.size ≤ wr.heap.size ∧ Hid (∀ k, w3.heap.size + 2 ≤ k → k < w4.heap.size → wr.heap[k]? = w4.heap[k]?)) (fun _ _ q _ => n - (intOf q).toNat)
  case atStart => exact ⟨0, _, Nat.zero_le _, rfl, hIx5, hOw5, fun k hk => .inl (Option.some.inj hk).symm, hB5, Nat.le_refl _, HK5⟩
  case round =>
    clear hIx5 hOw5 hB5 HK5
    obtain ⟨j, v, hj, rfl, hIx, hOw, Hv, hB, hsz, HK⟩ := hrel
    by_cases hjn : j < n
    · have hca := HR.out.below (below_step (below_step HB2.out HB3.out) hB) hb j (by rw [Hl.out]; exact hjn)
      have HIx := Lib.hid hIx
      have hc2 := (cell_blk hIx 2).trans rfl
      have hfx := frozen_blk hIx 2
      have hstp := stp_succ s j
      have hjl := stp_le s j
      have HB := Lib.hid hB
      clear hIx hB
      by_cases h1 : s.getD j 0 = 1
      · rw [if_pos h1] at hstp
        have Hstp := Lib.hid hstp
        rw [h1] at hca
        clear hstp
        obtain ⟨A0, c9, hv, _, _, _⟩ := own_sl hOw
        subst hv
        have hOw' : wr.ownsRow w3.heap.size 3 1 (.slice A0 (stp s j).length c9) (NI (stp s j)).length (VI (NI (stp s j))) := by rw [NI_length]; exact hOw
        have hne : some x0 ≠ (Value.slice A0 (stp s j).length c9).ownBlock := fun e => by
          have := Hv.out x0 e.symm
          have := Hy0.out
          have := Hx0.out
          omega
        have hbl := HB.out.size
        go_wp2_with (at_builtin; refine app_int_mv rfl _ _ rfl w3.heap.size _ (NI (stp s j)) rfl (World.ownsRow.alloc hOw' _) ⟨wr.heap.size, 0, none⟩ 1 1 [((j : Int) + 1)] rfl rfl (sl_blk (heap_alloc_new wr _)) (by rw [NI_length]; omega) (by simp; omega) ?_; intro v' w7 hown7 hgrow hat; obtain ⟨A1, c1x, hv', _, _, _⟩ := own_sl hown7; subst hv'; have hIx7 := grown_blk hgrow (blk_alloc HIx.out _) hne; have hc7 := (cell_blk hIx7 2).trans rfl; have hf7 := frozen_blk hIx7 2)
        have e1 : NI (stp s (j + 1)) = NI (stp s j) ++ [((j : Int) + 1)] := by rw [Hstp.out]; simp [NI]
        have el : (NI (stp s j) ++ [((j : Int) + 1)]).length = (NI (stp s j)).length + 1 := by simp
        rw [el] at hown7 hat
        have hv7 : ∀ k, (Value.slice A1 ((NI (stp s j)).length + 1) c1x).ownBlock = some k → k = y0 ∨ w5.heap.size ≤ k := fun k hk => by
          rcases hat with h9 | h9
          · exact Hv.out k (h9.symm.trans hk)
          · rw [hk] at h9
            have := Option.some.inj h9
            simp at this
            omega
        have hne7 : (Value.slice A1 ((NI (stp s j)).length + 1) c1x).ownBlock ≠ some x0 := fun e => by
          have := hv7 x0 e
          have := Hy0.out
          have := Hx0.out
          omega
        go_roundw
        case rel =>
          refine ⟨j + 1, _, by omega, rfl, blk_set hIx7 2 _, ?_, hv7, ?_, ?_, ?_⟩
          · rw [← NI_length, e1, el]; exact own_cell hown7 x0 2 _ hne7
          · exact below_cell ((HB.out.alloc HB.out.size _).grown hgrow (by simp; omega) (fun k hk => (World.ownsRow.lt hOw k hk).1)) (by have := Hx0.out; omega) _ _ rfl
          · have h9 := hgrow.size
            have h8 : (wr.alloc (.cells #[.int .i64 ((j : Int) + 1)] 3)).heap.size = wr.heap.size + 1 := by simp
            show w5.heap.size ≤ (w7.setCell _ _).heap.size
            simp [World.setCell]
            omega
          · intro k h1 h2
            rw [Below.heap_setCell w7 _ _ k (by have := Hx0.out; show k ≠ x0; omega), hgrow.block k (by simp; omega) (fun e => by have := Hv.out k e.symm; have := Hy0.out; omega), ← HK.out k h1 h2]
            exact heap_alloc_old wr _ (by omega)
        case measure =>
          show n - ((j : Int) + 1).toNat < n - ((j : Int)).toNat
          omega
      · have h1i : ¬ ((s.getD j 0 : Nat) : Int) = 1 := by omega
        rw [if_neg h1, List.append_nil] at hstp
        have Hstp := Lib.hid hstp
        clear hstp
        generalize s.getD j 0 = x at *
        go_wp2_with fail
        refine ⟨⟨j + 1, v, by omega, rfl, HIx.out, by rw [Hstp.out]; exact hOw, Hv, HB.out, hsz, HK⟩, ?_⟩
        show n - ((j : Int) + 1).toNat < n - ((j : Int)).toNat
        omega
    · obtain rfl : n = j := by omega
      obtain ⟨w8, rfl⟩ : ∃ w8 : World, w8 = wr := ⟨_, rfl⟩
      have HIx8 := Lib.hid hIx
      have HOw8 := Lib.hid hOw
      have HB8 := Lib.hid hB
      have HBw8 := Lib.hid (below_step (below_step HB2.out HB3.out) hB)
      have hsa8 := HI.out.below (below_step (below_step Hb12.out HB3.out) hB)
      have Hsal := Lib.hid HSA.out.length
      clear hIx hOw hB
      go_wp2_with fail
      have HT0 := Lib.hid (Two.none w8 w8.heap.size 3 154)
      have Hmono := Lib.hid (fun j (h : j ≤ n) => ons_le sa j)
      go_loopw [10, 11, 12, 13, 71] (fun s10 s11 s12 s13 q wr => ∃ j : Nat, j ≤ n ∧ q = .int .i64 (j : Int) ∧ Two wr w8.heap.size 3 154 s10 s11 (ons sa j).length (plc sa j).length (VI (NI (ons sa j))) (V (plc sa j)) ∧ Below w8.heap.size w8 wr) (fun _ _ _ _ q _ => n - (intOf q).toNat)
      case atStart => exact ⟨0, Nat.zero_le _, rfl, HT0.out, Below.refl _ _⟩
      case round =>
        obtain ⟨j, hj, rfl, hT, hB⟩ := hrel
        by_cases hjn : j < n
        · have hca := (hsa8.below hB).cell (i := j) (by rw [NI_length, Hsal.out, Hl.out]; exact hjn)
          rw [NI_getD _ _ (by rw [Hsal.out, Hl.out]; exact hjn)] at hca
          have HT := Lib.hid hT
          have HB := Lib.hid hB
          have hbl := hB.size
          have ho1 := ons_succ sa j
          have ho2 := plc_succ sa j
          have hol := ons_le sa j
          have hpl := plc_length sa j
          clear hT hB
          by_cases h8 : sa.getD j 0 % 8 = 0
          · rw [if_pos h8] at ho1 ho2
            have Ho1 := Lib.hid ho1
            have Ho2 := Lib.hid ho2
            have Hpl := Lib.hid hpl
            clear ho1 ho2 hpl
            have hx65 : sa.getD j 0 < 65536 := by
              have := HSA.out.lt (p := sa.getD j 0) (by rw [getD_at (by rw [Hsal.out, Hl.out]; exact hjn)]; exact List.getElem_mem _)
              have := Hl.out
              omega
            generalize hx : sa.getD j 0 = x at *
            clear hx
            have h8i : (x : Int) % 8 = 0 := by omega
            obtain ⟨A0, c10, hv0, _, _, _⟩ := own_sl HT.out.fst
            obtain ⟨A1, c11, hv1, _, _, _⟩ := own_sl HT.out.snd
            subst hv0
            subst hv1
            have hT1 : wr.ownsRow w8.heap.size 3 1 (.slice A0 (ons sa j).length c10) (NI (ons sa j)).length (VI (NI (ons sa j))) := by rw [NI_length]; exact HT.out.fst
            have hbs := HB.out.size
            go_wp2_with (first | (at_builtin; refine app_int_mv rfl _ _ rfl w8.heap.size _ (NI (ons sa j)) rfl (World.ownsRow.alloc hT1 _) ⟨wr.heap.size, 0, none⟩ 1 1 [((j : Nat) : Int)] rfl rfl (sl_blk (heap_alloc_new wr _)) (by rw [NI_length]; omega) (by simp; omega) ?_; intro v10 w10 hown10 hg10 hat10; have hT10 := Two.grow HT.out _ hown10 hg10 hat10; have hB10 := below_app HB.out hg10 (Nat.le_refl _) (fun k hk => (World.ownsRow.lt HT.out.fst k hk).1)) | (at_builtin; refine app_u64_mv rfl _ _ rfl w8.heap.size _ (plc sa j) rfl (World.ownsRow.alloc hT10.snd _) ⟨w10.heap.size, 0, none⟩ 1 1 [x] rfl rfl (sl_blk (heap_alloc_new w10 _)) (by have := Hpl.out; omega) (by have := hB10.size; simp; omega) ?_; intro v11 w11 hown11 hg11 hat11; have hT11 := Two.grow hT10.turn _ hown11 hg11 hat11; have hB11 := below_app hB10 hg11 (Nat.le_refl _) (fun k hk => (World.ownsRow.lt hT10.snd k hk).1)))
            have e1 : NI (ons sa (j + 1)) = NI (ons sa j) ++ [((j : Nat) : Int)] := by rw [Ho1.out]; simp [NI]
            have HT11 := Lib.hid hT11.turn
            have HB11 := Lib.hid hB11
            go_roundw
            case rel =>
              refine ⟨j + 1, by omega, rfl, ?_, HB11.out⟩
              have h9 := HT11.out
              rw [← NI_length (ons sa (j + 1)), e1, Ho2.out]
              exact h9
            case measure =>
              show n - ((j : Int) + 1).toNat < n - ((j : Int)).toNat
              omega
          · rw [if_neg h8, List.append_nil] at ho1 ho2
            have Ho1 := Lib.hid ho1
            have Ho2 := Lib.hid ho2
            have hx65 : sa.getD j 0 < 65536 := by
              have := HSA.out.lt (p := sa.getD j 0) (by rw [getD_at (by rw [Hsal.out, Hl.out]; exact hjn)]; exact List.getElem_mem _)
              have := Hl.out
              omega
            clear ho1 ho2 hpl
            generalize hx : sa.getD j 0 = x at *
            clear hx
            have h8i : ¬ (x : Int) % 8 = 0 := by omega
            go_wp2_with fail
            refine ⟨⟨j + 1, by omega, rfl, by rw [Ho1.out, Ho2.out]; exact HT.out, HB.out⟩, ?_⟩
            show n - ((j : Int) + 1).toNat < n - ((j : Int)).toNat
            omega
        · obtain rfl : n = j := by omega
          obtain ⟨w12, rfl⟩ : ∃ w12 : World, w12 = wr := ⟨_, rfl⟩
          have HT12 := Lib.hid hT
          have HB12 := Lib.hid hB
          obtain ⟨A0, c10, hv0, hS0, _, _⟩ := own_sl hT.fst
          obtain ⟨A1, c11, hv1, hS1, _, _⟩ := own_sl hT.snd
          subst hv0
          subst hv1
          have hpl := plc_length sa n
          have hol := ons_le sa n
          have HIx12 := Lib.hid ((hB.block _ (blk_lt HIx8.out)).trans HIx8.out)
          have HS0 := Lib.hid hS0
          have HS1 := Lib.hid hS1
          clear hT hB hS0 hS1
          rw [hpl] at HT12 ⊢
          clear hpl
          obtain ⟨K, hK⟩ : ∃ K, (ons sa n).length = K := ⟨_, rfl⟩
          rw [hK] at HT12 hol ⊢
          have HK0 := Lib.hid hK
          clear hK
          have hmk := make_int K (by omega)
          have hA13 := blk_alloc HIx12.out (.cells (I (List.replicate K 0)) 3)
          have hc5 := (cell_blk hA13 5).trans rfl
          have hfx := frozen_blk hA13 5
          have HA13 := Lib.hid hA13
          clear hA13
          go_upto_region 26 with fail
          have hsa : sa.length = n := by rw [Hsal.out, Hl.out]
          have hplK : (plc sa n).length = K := by rw [plc_length, HK0.out]
          have hKn : K = (s.length + 7) / 8 := by rw [← hplK, ← Hl.out]; exact plc_count HSA.out
          have h8x : x0 < w8.heap.size := blk_lt HIx8.out
          have h8w : w8.heap.size ≤ w12.heap.size := HB12.out.size
          obtain ⟨w13, hw13⟩ : ∃ w13, (w12.alloc (.cells (I (List.replicate K 0)) 3)).setCell ⟨x0, 5, none⟩ (.slice (some ⟨w12.heap.size, 0, none⟩) K K) = w13 := ⟨_, rfl⟩
          have HIB13 : Hid (IB w13 w12.heap.size (List.replicate K 0)) := by
            rw [← hw13]; exact IB.other (heap_alloc_new w12 _) (by omega) _ _
          have HX13 : Hid (w13.heap[x0]? = some (.cells #[.pointer (some ⟨tr, 0, none⟩), less, v, .pointer none, .pointer none, .slice (some ⟨w12.heap.size, 0, none⟩) K K] 113 (0, 0))) := by
            rw [← hw13]; exact blk_set HA13.out 5 _
          have HF13 : Hid (∀ k, k < w12.heap.size → k ≠ x0 → w13.heap[k]? = w12.heap[k]?) := fun k h1 h2 => by
            rw [← hw13, Below.heap_setCell _ _ _ k (by show k ≠ x0; exact h2)]; exact heap_alloc_old w12 _ h1
          have HB13 : Hid (Below w3.heap.size w3 w13) := by
            rw [← hw13]; exact below_cell ((HB8.out.trans (HB12.out.mono (by have := HB8.out.size; omega))).alloc (by have := HB8.out.size; omega) _) (by have := Hx0.out; omega) _ _ rfl
          have hs13 : w13.heap.size = w12.heap.size + 1 := by rw [← hw13]; simp [World.setCell]
          have HA0 : Hid (∀ a, A0 = some a → w8.heap.size ≤ a.block ∧ a.block < w12.heap.size) := fun a ha => by subst ha; exact World.ownsRow.lt HT12.out.fst _ rfl
          have HA1 : Hid (∀ a, A1 = some a → w8.heap.size ≤ a.block ∧ a.block < w12.heap.size) := fun a ha => by subst ha; exact World.ownsRow.lt HT12.out.snd _ rfl
          have HS0' : Hid (Sl w13 A0 (VI (NI (ons sa n)))) := HS0.out.kept fun a ha _ => HF13.out _ (HA0.out a ha).2 (by have := (HA0.out a ha).1; omega)
          have HS1' : Hid (Sl w13 A1 (V (plc sa n))) := HS1.out.kept fun a ha _ => HF13.out _ (HA1.out a ha).2 (by have := (HA1.out a ha).1; omega)
          rw [hw13]
          have Hsz13 := Lib.hid hs13
          have Hsa := Lib.hid hsa
          have HplK := Lib.hid hplK
          have HKn := Lib.hid hKn
          clear hw13 hsa hplK hKn hc5 hfx hmk hs13
          obtain ⟨rb, hrb⟩ : ∃ rb, w12.heap.size = rb := ⟨_, rfl⟩
          have Hrb := Lib.hid hrb
          rw [hrb] at h8w HIB13 HX13 HF13 HA0 HA1 Hsz13 ⊢
          clear hrb
          go_wp2_with fail
          go_loopw [14, 15, 97] (fun s14 s15 q wr => ∃ (j : Nat) (r : List Int), j ≤ K ∧ q = .int .i64 (j : Int) ∧ IB wr rb r ∧ Hid (RowsOf sa K j r) ∧ w13.grownBy wr (some rb)) (fun _ _ q _ => K - (intOf q).toNat)
          case atStart => exact ⟨0, _, Nat.zero_le _, rfl, HIB13.out, rows_zero sa K _ (by simp), grown_refl _ _⟩
          case round =>
            obtain ⟨j, r, hj, rfl, hIB, HRw, hg⟩ := hrel
            by_cases hjK : j < K
            · have hne : some x0 ≠ some rb := fun e => by have := Option.some.inj e; omega
              have hXr := grown_blk hg HX13.out hne
              obtain ⟨a1, rfl, hc1⟩ := (HS1'.out.grown hg (fun a ha _ e => by have := Option.some.inj e; have := (HA1.out a ha).2; omega)).some (j := j) (by rw [V_length, HplK.out]; exact hjK)
              obtain ⟨a0, rfl, hc0⟩ := (HS0'.out.grown hg (fun a ha _ e => by have := Option.some.inj e; have := (HA0.out a ha).2; omega)).some (j := j) (by rw [VI_length, NI_length, HK0.out]; exact hjK)
              rw [V_get _ _ (by rw [HplK.out]; exact hjK)] at hc1
              rw [VI_get _ _ (by rw [NI_length, HK0.out]; exact hjK), NI_getD _ _ (by rw [HK0.out]; exact hjK)] at hc0
              have hc5 := (cell_blk hXr 5).trans rfl
              have hkk : j < (ons sa sa.length).length := by rw [Hsa.out, HK0.out]; exact hjK
              have hpl := plc_lt HSA.out j hkk
              have hrs := rows_step HSA.out HKn.out HRw.out hkk
              rw [Hsa.out] at hpl hrs
              rw [Hl.out] at hpl
              have Hrs := Lib.hid hrs
              have hrl := HRw.out.1
              have hxK : (plc sa n).getD j 0 / 8 < K := by have := HKn.out; have := Hl.out; omega
              have HIBr := Lib.hid hIB
              have Hg := Lib.hid hg
              have hold := hIB.cell (i := (plc sa n).getD j 0 / 8) (by omega)
              have hfree := hIB.free ((plc sa n).getD j 0 / 8)
              clear hIB hg hrs hXr
              generalize (plc sa n).getD j 0 = x at *
              generalize (ons sa n).getD j 0 = y at *
              have f1 : ((x : Int)).tdiv 8 = ((x / 8 : Nat) : Int) := by rw [Int.tdiv_eq_ediv_of_nonneg (by omega)]; omega
              have f2 : IntKind.u64.wrap ((x / 8 : Nat) : Int) = ((x / 8 : Nat) : Int) := by rw [IntKind.wrap_u64]; omega
              have f3 : ((x : Int)) / 8 = ((x / 8 : Nat) : Int) := by omega
              generalize x / 8 = qx at *
              have g1 : (0 : Int) ≤ (qx : Int) := by omega
              have g2 : (qx : Int) < (K : Int) := by omega
              have g3 : (j : Int) < (K : Int) := by omega
              have g4 : (0 : Int) ≤ (j : Int) := by omega
              clear hkk hpl
              go_wp2_with fail
              refine wp_region_still_tail 11 (by kernel_rfl) (by kernel_rfl) ?_
              simp only [List.take_succ_cons, List.take_zero, List.drop_succ_cons, List.drop_zero]
              change wpStill _ _ wr.drew (fun a' => wpList _ _ _ _ a' wr.drew) _ _
              repeat still_step
              refine wpStill_nil ?_
              go_wp2_with fail
              go_roundw
              case rel =>
                refine ⟨j + 1, r.set qx (y : Int), by omega, by go_num, ?_, Hrs.out, ?_⟩
                · exact IB.set (w := wr.drew) HIBr.out qx (y : Int)
                · exact grown_trans (grown_trans Hg.out (grown_drew wr _)) (grown_set _ _ _ _)
              case measure => simp [intOf]; omega
            · obtain rfl : K = j := by omega
              obtain ⟨w14, rfl⟩ : ∃ w14 : World, w14 = wr := ⟨_, rfl⟩
              have hne : some x0 ≠ some rb := fun e => by have := Option.some.inj e; omega
              have hcap : K ≤ c11 := by
                rcases HT12.out.snd.2 with ⟨h, h0⟩ | ⟨g9, cap9, cur9, h, hg9, hb9, hn9, _⟩
                · omega
                · injection h with _ _ h; omega
              have HX14 := Lib.hid (grown_blk hg HX13.out hne)
              have HS0w := Lib.hid (HS0'.out.grown hg (fun a ha _ e => by have := Option.some.inj e; have := (HA0.out a ha).2; omega))
              have HS1w := Lib.hid (HS1'.out.grown hg (fun a ha _ e => by have := Option.some.inj e; have := (HA1.out a ha).2; omega))
              have Hg := Lib.hid hg
              have HIB14 := Lib.hid hIB
              have HNw := Lib.hid (new_any w14 (n : Int) n (by omega) (.inr rfl) A0 K c10 (NI (ons sa n)) (by rw [NI_length, HK0.out]) (by omega) HS0w.out)
              have hs14 := hg.size
              clear hg hIB
              go_wp2_with fail
              go_at_call 140
              refine HNw.out.mono ?_
              rintro e w15 ⟨mb, rfl, hBV, hB15⟩
              have HBV := Lib.hid hBV
              have HB15 := Lib.hid hB15
              have HX15 := Lib.hid ((hB15.block _ (blk_lt HX14.out)).trans HX14.out)
              have HPk := Lib.hid (pack_any A1 (plc sa n) K c11 w15 (HS1w.out.below hB15) HplK.out hcap (by omega) (fun y hy => by
                have : y ∈ sa := by
                  unfold plc at hy
                  obtain ⟨i, hi, rfl⟩ := List.mem_map.1 hy
                  rw [getD_at (by rw [Hsa.out]; exact (ons_mem.1 hi).1)]
                  exact List.getElem_mem _
                have := HSA.out.lt this
                have := Hl.out
                omega))
              have hs15 := hB15.size
              clear hBV hB15 HNw
              go_wp2_with fail
              go_at_call 141
              refine HPk.out.mono ?_
              rintro e w16 ⟨pb, pg, rfl, hPA, hpb, hpg, hB16⟩
              have HPA := Lib.hid hPA
              have HX16 := Lib.hid ((hB16.block _ (blk_lt HX15.out)).trans HX15.out)
              have HB16 := Lib.hid hB16
              have hs16 := hB16.size
              have hc3 := (cell_blk HX16.out 3).trans rfl
              have hc4 := (cell_blk HX16.out 4).trans rfl
              have hf3 := frozen_blk HX16.out 3
              have hf4 := frozen_blk HX16.out 4
              clear hPA hB16 HPk
              go_wp2_with fail
              have hHF : ∀ k, k < w16.heap.size → k ≠ x0 → ((w16.setCell ⟨x0, 3, none⟩ (.pointer (some ⟨mb, 0, none⟩))).setCell ⟨x0, 4, none⟩ (.pointer (some ⟨pb, 0, none⟩))).heap[k]? = w16.heap[k]? := fun k h1 h2 => by
                rw [Below.heap_setCell _ _ _ k (by show k ≠ x0; exact h2), Below.heap_setCell _ _ _ k (by show k ≠ x0; exact h2)]
              have hX17 : ((w16.setCell ⟨x0, 3, none⟩ (.pointer (some ⟨mb, 0, none⟩))).setCell ⟨x0, 4, none⟩ (.pointer (some ⟨pb, 0, none⟩))).heap[x0]? = some (.cells #[.pointer (some ⟨tr, 0, none⟩), less, v, .pointer (some ⟨mb, 0, none⟩), .pointer (some ⟨pb, 0, none⟩), .slice (some ⟨rb, 0, none⟩) K K] 113 (0, 0)) :=
                blk_set (blk_set HX16.out 3 _) 4 _
              have hB17 : Below w3.heap.size w3 ((w16.setCell ⟨x0, 3, none⟩ (.pointer (some ⟨mb, 0, none⟩))).setCell ⟨x0, 4, none⟩ (.pointer (some ⟨pb, 0, none⟩))) := by
                have e1 := HB8.out.size
                have e2 := Hrb.out
                have e3 := Hsz13.out
                have e4 := Hx0.out
                refine below_cell (below_cell ?_ (by omega) _ _ rfl) (by omega) _ _ rfl
                exact ((HB13.out.grown Hg.out (by omega) (fun k hk => by have := Option.some.inj hk; omega)).trans (HB15.out.mono (by omega))).trans (HB16.out.mono (by omega))
              go_ret2
              refine ⟨x0, sa, rfl, ?_, below_step (below_step HB2.out HB3.out) hB17⟩
              obtain ⟨w17, hw17⟩ : ∃ w17, ((w16.setCell ⟨x0, 3, none⟩ (.pointer (some ⟨mb, 0, none⟩))).setCell ⟨x0, 4, none⟩ (.pointer (some ⟨pb, 0, none⟩))) = w17 := ⟨_, rfl⟩
              rw [hw17] at hHF hX17 ⊢
              clear hw17 hB17 hc3 hc4 hf3 hf4
              have q2 := HB2.out.size
              have q3 := HB3.out.size
              have q4 := Hx0.out
              have q5 := HBI.out.size
              have q6 := HB4.out.size
              have q7 := HB8.out.size
              have q8 := Hrb.out
              have q9 := Hsz13.out
              have k8 : ∀ k, k < w8.heap.size → k ≠ x0 → w17.heap[k]? = w8.heap[k]? := fun k h1 h2 => by
                rw [hHF k (by omega) h2, HB16.out.block k (by omega), HB15.out.block k (by omega), Hg.out.block k (by omega) (fun e => by have := Option.some.inj e; omega), HF13.out k (by omega) h2, HB12.out.block k h1]
              have hTM17 : TM w17 wI.heap.size tr 9 (trn s sa) := HTM.out.keep fun k h1 h2 => by
                rw [k8 k (by omega) (by omega), HK.out k (by omega) h2]
              have hl3 : NI ((List.range 513).map (lessN (trn s sa))) = NI ((List.range 513).map (lessN s)) := by
                refine congrArg NI (List.map_congr_left fun c _ => ?_)
                exact lessN_perm (trn_perm Hc.out HSA.out) c
              have hI17 : IB w17 g3 (NI ((List.range 513).map (lessN s))) := by
                rw [← hl3]
                exact (k8 g3 (by omega) (by omega)).trans ((HB8.out.block g3 hg3l).trans HI3.out)
              obtain ⟨y, yc, cur, hv9, hy9, hblk9, hyc, hcs9, htk9⟩ := own_blk HOw8.out (fun e => by
                have h9 := HOw8.out
                rw [e] at h9
                rcases h9.2 with ⟨_, h0⟩ | ⟨g9, cap9, cur9, h, _⟩
                · have h1 := h9.1
                  simp [stp] at h0
                · cases h)
              subst hv9
              have hyx : y ≠ x0 := by
                have h9 := Hv.out y rfl
                have := Hy0.out
                omega
              have hYl : y < w8.heap.size := blk_lt hblk9
              have hpbx : w15.heap.size ≤ pb := hpb
              have hpgx : w15.heap.size ≤ pg := hpg
              have hPA17 : PArr w17 pb pg (wid (plc sa n)) (plc sa n) := HPA.out.kept (hHF pb (blk_lt HPA.out.hd) (by omega)) (hHF pg (blk_lt HPA.out.ws) (by omega))
              have hBV17 : BVec w17 w.heap.size mb (mrk sa) := by
                have e9 : laidAll (List.replicate n false) (NI (ons sa n)) K = mrk sa := by
                  have := laid_ons sa
                  rw [Hsa.out, HK0.out] at this
                  exact this
                have h9 := (HBV.out.below HB16.out).mono (base' := w14.heap.size) (Nat.le_refl _)
                rw [e9] at h9
                exact (h9.keep fun k h1 h2 => hHF k h2 (by omega)).mono (by omega)
              have hR17 : IB w17 rb r := by
                have hrb14 := HIB14.out.lt
                exact (hHF rb (by omega) (by omega)).trans ((HB16.out.block rb (by omega)).trans ((HB15.out.block rb (by omega)).trans HIB14.out))
              have hless9 := Hless.out
              subst hless9
              have hln := Hl.out
              subst hln
              exact ⟨by omega, hn, Hx.out, Hc.out, HSA.out, tr, g3, y, yc, mb, pb, pg, wid (plc sa s.length), rb, r, by omega, by omega, by omega, by omega, by omega,
                by rw [HK0.out]; exact hX17, hTM17.mono (by omega), hI17, ⟨cur, (k8 y hYl hyx).trans hblk9, htk9⟩, hyc, hBV17, hPA17, hR17, by rw [HK0.out]; exact HRw.out⟩
end Go.Proofs.YtphccomhggnccaaGreat
