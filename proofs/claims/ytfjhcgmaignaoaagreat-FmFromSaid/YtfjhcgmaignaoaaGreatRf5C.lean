/- haystackref5: Array. -/
import Derived.Test.YtfjhcgmaignaoaaGreatRf5B
import Derived.BigRegion
namespace Go.Proofs.YtfjhcgmaignaoaaGreat
set_option linter.unusedVariables false
set_option linter.unusedSimpArgs false
set_option maxRecDepth 100000
open Go.RowKit Fm Rank

/-- the next ranks, as far as they are laid -/
structure Nxt (R : List Nat) (step : Nat) (sb N : List Nat) (i : Nat) : Prop where
  len : N.length = sb.length
  at' : ∀ j, j < i → N.getD (sb.getD j 0) 0 = lad (fun a b => rkey R step a != rkey R step b) sb j
theorem getD_set_ne (N : List Nat) (p q v : Nat) (h : p ≠ q) : (N.set p v).getD q 0 = N.getD q 0 := by
  simp [List.getD, List.getElem?_set, h]
theorem getD_set_eq (N : List Nat) (p v : Nat) (h : p < N.length) : (N.set p v).getD p 0 = v := by
  simp [List.getD, List.getElem?_set, h]
theorem Nxt.start (R : List Nat) (step : Nat) (sb : List Nat) (n : Nat) (hp : sb.Perm (List.range n)) (hn : 1 ≤ n) : Nxt R step sb (List.replicate n 0) 1 := by
  refine ⟨by rw [List.length_replicate, hp.length_eq, List.length_range], fun j hj => ?_⟩
  obtain rfl : j = 0 := by omega
  simp only [lad]
  simp [List.getD]
  cases h : (List.replicate n 0)[sb[0]?.getD 0]? with
  | none => rfl
  | some v =>
    have := List.mem_of_getElem? h
    rw [(List.mem_replicate.1 this).2]; rfl
theorem Nxt.step {R : List Nat} {step : Nat} {sb N : List Nat} {i n : Nat} (h : Nxt R step sb N (i + 1)) (hp : sb.Perm (List.range n)) (hi : i + 1 < n) (v : Nat)
    (hv : v = N.getD (sb.getD i 0) 0 + if (rkey R step (sb.getD i 0) != rkey R step (sb.getD (i + 1) 0)) = true then 1 else 0) : Nxt R step sb (N.set (sb.getD (i + 1) 0) v) (i + 2) := by
  obtain ⟨bl, bs, blt, binj⟩ := perm_at hp
  refine ⟨by rw [List.length_set]; exact h.len, fun j hj => ?_⟩
  by_cases e : j = i + 1
  · subst e
    rw [getD_set_eq _ _ _ (by rw [h.len, bl]; exact blt _ hi), hv, h.at' i (by omega)]
    simp only [lad]
  · rw [getD_set_ne _ _ _ _ (fun e2 => e (binj _ _ hi (by omega) e2).symm)]
    exact h.at' j (by omega)
theorem NI_set (N : List Nat) (p v : Nat) : (NI N).set p (v : Int) = NI (N.set p v) := by simp [NI, List.map_set]
/-- what the rounds keep -/
def Rn5 (s R sa : List Nat) (k : Nat) : Prop := (k = 0 ∧ R = s ∧ sa.Perm (List.range s.length)) ∨ (1 ≤ k ∧ Rnd s k (fun p => R.getD p 0) sa)
theorem Rn5.emb {s R sa : List Nat} {k : Nat} (h : Rn5 s R sa k) : ∃ k', Emb s k' (fun p => R.getD p 0) ∧ ((k = 0 ∧ k' = 1) ∨ (1 ≤ k ∧ k = k')) := by
  rcases h with ⟨rfl, rfl, _⟩ | ⟨h1, h2⟩
  · exact ⟨1, emb_first R, .inl ⟨rfl, rfl⟩⟩
  · exact ⟨k, h2.emb, .inr ⟨h1, rfl⟩⟩
theorem Rn5.perm {s R sa : List Nat} {k : Nat} (h : Rn5 s R sa k) : sa.Perm (List.range s.length) := h.elim (fun h => h.2.2) (fun h => h.2.perm)
theorem Rn5.next {s R sa sb N : List Nat} {k : Nat} (h : Rn5 s R sa k) (hn : 1 ≤ s.length) (hR : R.length = s.length) (hb : sb.Perm sa) (hs : sb.Pairwise fun a b => kle (rkey R k a) (rkey R k b)) (hN : Nxt R k sb N s.length) : Rnd s (max 1 (2 * k)) (fun p => N.getD p 0) sb := by
  obtain ⟨k', he, hk⟩ := h.emb
  exact Rnd.next hn hR he hk (hb.trans h.perm) hs (fun i hi => hN.at' i hi)
theorem sl_IB {w : World} {g : Nat} {l : List Int} (h : IB w g l) : Sl w (some ⟨g, 0, none⟩) (VI l) := sl_blk (xs := VI l) h
set_option maxHeartbeats 8000000 in
theorem array5_any (w : World) (b off n cap : Nat) (s : List Nat) (hl : s.length = n) (hn1 : 1 ≤ n) (hn : n ≤ 65536) (hS : Sl w (some ⟨b, off, none⟩) (VI (NI s))) :
    Calls Tryz.prog 68 #[.slice (some ⟨b, off, none⟩) n cap] w
      fun e w' => ∃ A c sa, e = .returned (.tuple #[.slice A n c, .int .i64 0]) ∧ IsSA s sa ∧ Sl w' A (VI (NI sa)) ∧ Below w.heap.size w w' := by
  have HS := Lib.hid hS
  have Hl := Lib.hid hl
  have hmk := make_int n (by omega)
  have hbl := World.block_lt_of_cell? w _ (sl_cellN hS (i := 0) (by omega))
  clear hS hl
  go_enter Tryz.func68, Tryz.ntmps68
  go_wp2_with fail
  go_loop [4] (fun i => ∃ k : Nat, k ≤ n ∧ i = .int .i64 (k : Int)) (fun i => n - (intOf i).toNat)
  case atStart => exact ⟨0, Nat.zero_le _, rfl⟩
  case round =>
    obtain ⟨k, hk, rfl⟩ := hrel
    by_cases hkn : k < n
    · have hc := sl_cellN HS.out (i := k) (by rw [Hl.out]; exact hkn)
      generalize s.getD k 0 = x at *
      have hx : ¬ (x : Int) < 0 := by omega
      go_wp2_with fail
      go_round
      case rel => exact ⟨k + 1, by omega, by go_num⟩
      case measure => simp [intOf]; omega
    · obtain rfl : n = k := by omega
      go_wp2_with fail
      clear hmk
      obtain ⟨w2, hw2⟩ : ∃ w2, ((w.alloc (.cells (I (List.replicate n 0)) 3)).alloc (.cells (I (List.replicate n 0)) 3)) = w2 := ⟨_, rfl⟩
      have hB2 : Below w.heap.size w w2 := by rw [← hw2]; exact ((Below.refl _ w).alloc (Nat.le_refl _) _).alloc (by simp) _
      have hI1 : IB w2 w.heap.size (half (NI (List.range n)) 0) := by
        rw [half_zero, NI_length, List.length_range, ← hw2]; exact blk_alloc (heap_alloc_new w _) _
      have hI2 : IB w2 (w.heap.size + 1) (half (NI s) 0) := by
        rw [half_zero, NI_length, Hl.out, ← hw2]
        have := heap_alloc_new (w.alloc (.cells (I (List.replicate n 0)) 3)) (.cells (I (List.replicate n 0)) 3)
        rw [World.size_alloc] at this
        exact this
      rw [hw2]
      clear hw2
      obtain ⟨g, hg⟩ : ∃ g, w.heap.size = g := ⟨_, rfl⟩
      rw [hg] at hI1 hI2 hbl
      rw [hg]
      have Hg := Lib.hid hg
      have hne1 : ¬ b = g := by omega
      have hne2 : ¬ b = g + 1 := by omega
      clear hg
      go_loopw [8] (fun q wr => ∃ j : Nat, j ≤ n ∧ q = .int .i64 (j : Int) ∧ IB wr g (half (NI (List.range n)) j) ∧ IB wr (g + 1) (half (NI s) j) ∧ Below w.heap.size w wr) (fun q _ => n - (intOf q).toNat)
      case atStart => exact ⟨0, Nat.zero_le _, rfl, hI1, hI2, hB2⟩
      case round =>
        clear hI1 hI2 hB2
        obtain ⟨j, hj, rfl, hA, hC, hB⟩ := hrel
        by_cases hjn : j < n
        · have hla : (NI (List.range n)).length = n := by rw [NI_length, List.length_range]
          have hlc : (NI s).length = n := by rw [NI_length, Hl.out]
          have ha := hA.cell (i := j) (by rw [half_length _ _ (by omega)]; omega)
          have hc := hC.cell (i := j) (by rw [half_length _ _ (by omega)]; omega)
          have hfa := hA.free j
          have hfc := hC.free j
          have hs := sl_cellN (HS.out.below hB) (i := j) (by rw [Hl.out]; exact hjn)
          have hA2 : IB (wr.setCell ⟨g, j, none⟩ (.int .i64 (j : Int))) g (half (NI (List.range n)) (j + 1)) := by
            have h := hA.set j (j : Int)
            have e := half_set (NI (List.range n)) j (by omega)
            rw [show (NI (List.range n)).getD j 0 = (j : Int) by rw [NI_getD _ _ (by simpa using hjn)]; simp [List.getD, hjn]] at e
            rwa [e] at h
          have hC2 : IB (wr.setCell ⟨g + 1, j, none⟩ (.int .i64 ((s.getD j 0 : Nat) : Int))) (g + 1) (half (NI s) (j + 1)) := by
            have h := hC.set j ((s.getD j 0 : Nat) : Int)
            have e := half_set (NI s) j (by omega)
            rw [NI_getD _ _ (by rw [Hl.out]; exact hjn)] at e
            rwa [e] at h
          have HA2 := Lib.hid hA2
          have HC := Lib.hid hC
          have HB := Lib.hid hB
          have HC2 := Lib.hid (show ∀ W : World, IB W (g + 1) (half (NI s) j) → IB (W.setCell ⟨g + 1, j, none⟩ (.int .i64 ((s.getD j 0 : Nat) : Int))) (g + 1) (half (NI s) (j + 1)) from fun W hW => by
            have h := hW.set j ((s.getD j 0 : Nat) : Int)
            have e := half_set (NI s) j (by omega)
            rw [NI_getD _ _ (by rw [Hl.out]; exact hjn)] at e
            rwa [e] at h)
          clear hA hC hB hA2 hC2 hla hlc
          generalize (half (NI (List.range n)) j).getD j 0 = xa at *
          generalize (half (NI s) j).getD j 0 = xc at *
          generalize s.getD j 0 = y at *
          go_wp2_with fail
          refine ⟨⟨j + 1, by omega, by go_num, ?_, ?_, ?_⟩, ?_⟩
          · exact HA2.out.other (by omega) _ _
          · exact HC2.out _ (HC.out.other (by omega) _ _)
          · exact below_cell (below_cell HB.out (Nat.le_of_eq Hg.out) _ _ rfl) (by have := Hg.out; show w.heap.size ≤ g + 1; omega) _ _ rfl
          · simp [intOf]; omega
        · obtain rfl : n = j := by omega
          have e1 : half (NI (List.range n)) n = NI (List.range n) := by
            have := half_all (NI (List.range n)); rwa [NI_length, List.length_range] at this
          have e2 : half (NI s) n = NI s := by
            have := half_all (NI s); rwa [NI_length, Hl.out] at this
          rw [e1] at hA
          rw [e2] at hC
          clear e1 e2
          go_wp2_with fail
          have hg2 := hC.lt
          have hRn : Rn5 s s (List.range n) 0 := .inl ⟨rfl, rfl, by rw [Hl.out]⟩
          go_loopw [6, 7, 9] (fun s6 s7 s9 wk => ∃ (bs os cs rb k : Nat) (sa R : List Nat), s6 = .slice (some ⟨bs, os, none⟩) n cs ∧ s7 = .slice (some ⟨rb, 0, none⟩) n n ∧ s9 = .int .i64 (k : Int) ∧ n ≤ cs ∧ k ≤ 131072 ∧ Hid (Rn5 s R sa k) ∧ Hid (R.length = n) ∧ Hid (Sl wk (some ⟨bs, os, none⟩) (VI (NI sa))) ∧ Hid (IB wk rb (NI R)) ∧ Hid (Below w.heap.size w wk)) (fun _ _ s9 _ => n - (intOf s9).toNat)
          case atStart => exact ⟨g, 0, n, g + 1, 0, List.range n, s, rfl, rfl, rfl, Nat.le_refl _, by omega, Lib.hid hRn, Hl, Lib.hid (sl_IB hA), Lib.hid hC, Lib.hid hB⟩
          case round =>
            clear hA hC hB hRn hg2
            obtain ⟨bs, os, cs, rb, k, sa, R, rfl, rfl, rfl, hcs, hk, HRn, HRl, HSa, HRb, HB⟩ := hrel
            by_cases hkn : k < n
            · have hsal : sa.length = n := by rw [HRn.out.perm.length_eq, List.length_range, Hl.out]
              have HSo := Lib.hid (sort5_any (c0 := n) (rb := rb) k HRl.out hn (by omega) n sa (some ⟨bs, os, none⟩) cs wr hsal hcs hn (fun e => (by cases e)) HSa.out (fun x hx => by have := List.mem_range.1 (HRn.out.perm.mem_iff.1 hx); rwa [Hl.out] at this) HRb.out)
              clear hsal
              go_wp2_with fail
              go_at_call 89
              refine HSo.out.mono ?_
              rintro e w3 ⟨A3, c3, sb, rfl, hc3, hnil3, hsb, hsorted, hS3, hB3⟩
              have HSb := Lib.hid hsb
              have HSt := Lib.hid hsorted
              have HB3 := Lib.hid (below_step HB.out hB3)
              have HR3 := Lib.hid (HRb.out.below hB3)
              have hbp : sb.Perm (List.range n) := by have := hsb.trans HRn.out.perm; rwa [Hl.out] at this
              have Hbp := Lib.hid hbp
              obtain ⟨b3, o3, rfl, _⟩ := hS3.lit (j := 0) (by rw [VI_length, NI_length, hbp.length_eq, List.length_range]; omega)
              have hb3 := World.block_lt_of_cell? w3 _ (sl_cellN hS3 (i := 0) (by rw [hbp.length_eq, List.length_range]; omega))
              have HS3 := Lib.hid hS3
              have hr3 := HR3.out.lt
              have hmk := make_int n (by omega) w3
              clear hsb hsorted hB3 hS3 HSo hnil3 hbp
              go_wp2_with fail
              clear hmk
              have hN0 : IB (w3.alloc (.cells (I (List.replicate n 0)) 3)) w3.heap.size (NI (List.replicate n 0)) := by
                have := heap_alloc_new w3 (.cells (I (List.replicate n 0)) 3)
                have e : NI (List.replicate n 0) = List.replicate n 0 := by simp [NI]
                unfold IB
                rw [e]; exact this
              have hx0 := Nxt.start R k sb n Hbp.out hn1
              go_loopw [11] (fun q wr => ∃ (i : Nat) (N : List Nat), i + 1 ≤ n ∧ q = .int .i64 ((i : Int) + 1) ∧ Hid (Nxt R k sb N (i + 1)) ∧ IB wr w3.heap.size (NI N) ∧ Below w3.heap.size w3 wr) (fun q _ => n + 1 - (intOf q).toNat)
              case atStart => exact ⟨0, _, by omega, rfl, Lib.hid hx0, hN0, (Below.refl _ w3).alloc (Nat.le_refl _) _⟩
              case round =>
                clear hN0 hx0
                obtain ⟨i, N, hi, rfl, HX, hN, hB4⟩ := hrel
                by_cases hin : i + 1 < n
                · obtain ⟨bl, bsx, blt, binj⟩ := perm_at Hbp.out
                  have hp1 := sl_cellN (HS3.out.below hB4) (i := i) (by rw [bl]; omega)
                  have hp2 := sl_cellN (HS3.out.below hB4) (i := i + 1) (by rw [bl]; omega)
                  have hl1 := blt i (by omega)
                  have hl2 := blt (i + 1) hin
                  have hNl : N.length = n := by rw [HX.out.len, bl]
                  have hn1' := hN.cell (i := sb.getD i 0) (by rw [NI_length, hNl]; exact hl1)
                  rw [NI_getD _ _ (by rw [hNl]; exact hl1)] at hn1'
                  have hn2' := hN.cell (i := sb.getD (i + 1) 0) (by rw [NI_length, hNl]; exact hl2)
                  rw [NI_getD _ _ (by rw [hNl]; exact hl2)] at hn2'
                  have hfr := hN.free (sb.getD (i + 1) 0)
                  have hmono : N.getD (sb.getD i 0) 0 ≤ 65536 := by
                    rw [HX.out.at' i (by omega)]
                    have := lad_le (fun a b => rkey R k a != rkey R k b) sb i
                    omega
                  have hne : sb.getD i 0 ≠ sb.getD (i + 1) 0 := fun e => by have := binj _ _ (by omega) hin e; omega
                  have hbef := bef_ne HSt.out (j := i) (by rw [bl]; exact hin)
                  have hstp := fun v hv => HX.out.step Hbp.out hin v hv
                  have HBf := Lib.hid (fun W (hW : IB W rb (NI R)) => before5_any (w := W) (rb := rb) (c := n) k (sb.getD i 0) (sb.getD (i + 1) 0) hW HRl.out hl1 hl2 hn (by omega))
                  rw [hbef] at HBf
                  have HR4 := Lib.hid (HR3.out.below hB4)
                  have HSt1 := Lib.hid (fun v => hN.set (sb.getD (i + 1) 0) v)
                  have Hstp := Lib.hid hstp
                  have HN := Lib.hid hN
                  have HB4 := Lib.hid hB4
                  have hb4 := hB4.size
                  clear hbef hstp hN hB4 bl bsx blt binj hNl
                  generalize (rkey R k (sb.getD i 0) != rkey R k (sb.getD (i + 1) 0)) = D at *
                  generalize N.getD (sb.getD (i + 1) 0) 0 = v2 at *
                  obtain ⟨v1, hv1⟩ : ∃ v1, N.getD (sb.getD i 0) 0 = v1 := ⟨_, rfl⟩
                  rw [hv1] at hn1' hmono
                  have Hv1 := Lib.hid hv1
                  clear hv1
                  obtain ⟨p1, hp1e⟩ : ∃ p, sb.getD i 0 = p := ⟨_, rfl⟩
                  obtain ⟨p2, hp2e⟩ : ∃ p, sb.getD (i + 1) 0 = p := ⟨_, rfl⟩
                  rw [hp1e] at hp1 hl1 hn1' hne HBf
                  rw [hp2e] at hp2 hl2 hn2' hfr hne HBf
                  have Hp1 := Lib.hid hp1e
                  have Hp2 := Lib.hid hp2e
                  clear hp1e hp2e
                  go_wp2_with fail
                  go_region
                  obtain ⟨w5, hw5⟩ : ∃ w5, (wr.setCell ⟨w3.heap.size, p2, none⟩ (.int .i64 (v1 : Int))).drew = w5 := ⟨_, rfl⟩
                  have hN5 : IB w5 w3.heap.size (NI (N.set p2 v1)) := by rw [← hw5, ← NI_set, ← Hp2.out]; exact HSt1.out _
                  have hB5 : Below w3.heap.size w3 w5 := by rw [← hw5]; exact (below_cell HB4.out (Nat.le_refl _) _ _ rfl).trans (below_drewN _ _ 1)
                  have hp1' := sl_cellN (HS3.out.below hB5) (i := i) (by have := Hbp.out.length_eq; rw [List.length_range] at this; omega)
                  have hp2' := sl_cellN (HS3.out.below hB5) (i := i + 1) (by have := Hbp.out.length_eq; rw [List.length_range] at this; omega)
                  rw [Hp1.out] at hp1'
                  rw [Hp2.out] at hp2'
                  have hNl : (N.set p2 v1).length = n := by rw [List.length_set, HX.out.len, Hbp.out.length_eq, List.length_range]
                  have hn5 := hN5.cell (i := p2) (by rw [NI_length, hNl]; exact hl2)
                  rw [NI_getD _ _ (by rw [hNl]; exact hl2), getD_set_eq _ _ _ (by rw [List.length_set] at hNl; rw [hNl]; exact hl2)] at hn5
                  have hfr5 := hN5.free p2
                  have HR5 := Lib.hid (HR3.out.below hB5)
                  have HBf5 := Lib.hid (fun q => HBf.out (w5.drewN q) (HR5.out.below (below_drewN _ w5 q)))
                  rw [hw5]
                  have HN5 := Lib.hid hN5
                  have HB5 := Lib.hid hB5
                  clear hw5 hN5 hB5 hp1 hp2 hn1' hn2' hfr HBf HSt1 HN HB4 hNl HR4
                  have t1 : (i : Int) + 1 < (n : Int) := by omega
                  have t2 : (i : Int) < (n : Int) := by omega
                  have hVal := Hstp.out
                  rw [Hp1.out, (show N.getD p1 0 = v1 by rw [← Hp1.out]; exact Hv1.out), Hp2.out] at hVal
                  have HVal := Lib.hid hVal
                  clear hVal Hstp
                  cases D with
                  | true =>
                    go_wp2_with fail
                    go_quiet ((go_at_call 90; exact Calls.quiet_of (HBf5.out _)))
                    obtain ⟨w6, hw6⟩ : ∃ w6, w5.drewN nq = w6 := ⟨_, rfl⟩
                    have hp2'' : w6.cell? ⟨b3, o3 + (i + 1), none⟩ = some (.int .i64 (p2 : Int)) := by rw [← hw6]; exact hp2'
                    have hn6 : w6.cell? ⟨w3.heap.size, p2, none⟩ = some (.int .i64 (v1 : Int)) := by rw [← hw6]; exact hn5
                    have hfr6 : w6.frozen? ⟨w3.heap.size, p2, none⟩ = false := by rw [← hw6]; exact hfr5
                    have HN6 := Lib.hid (show IB w6 w3.heap.size (NI (N.set p2 v1)) by rw [← hw6]; exact HN5.out)
                    have HB6 := Lib.hid (show Below w3.heap.size w3 w6 by rw [← hw6]; exact HB5.out.trans (below_drewN _ _ _))
                    rw [hw6]
                    clear hw6 hp1' hp2' hn5 hfr5 HBf5
                    go_wp2_with fail
                    refine ⟨⟨i + 1, N.set p2 (v1 + 1), by omega, by go_num, Lib.hid (HVal.out (v1 + 1) (by simp)), ?_, below_cell HB6.out (Nat.le_refl _) _ _ rfl⟩, ?_⟩
                    · have h9 := HN6.out.set p2 ((v1 : Int) + 1)
                      have e9 : (NI (N.set p2 v1)).set p2 ((v1 : Int) + 1) = NI (N.set p2 (v1 + 1)) := by
                        have := NI_set (N.set p2 v1) p2 (v1 + 1)
                        rw [List.set_set] at this
                        rw [← this]; simp
                      rwa [e9] at h9
                    · simp [intOf]; omega
                  | false =>
                    go_wp2_with fail
                    go_quiet ((go_at_call 90; exact Calls.quiet_of (HBf5.out _)))
                    go_wp2_with fail
                    refine ⟨⟨i + 1, N.set p2 v1, by omega, by go_num, Lib.hid (HVal.out v1 (by simp)), HN5.out, HB5.out.trans (below_drewN _ _ _)⟩, ?_⟩
                    simp [intOf]; omega
                · have hie : i + 1 = n := by omega
                  have e1 : (i : Int) + 1 = (n : Int) := by omega
                  have e2 : (n : Int) - 1 = (i : Int) := by omega
                  have HX' := HX.out
                  rw [hie] at HX'
                  have HRnd := Lib.hid (HRn.out.next (by rw [Hl.out]; exact hn1) (by rw [HRl.out, Hl.out]) HSb.out HSt.out (by rw [Hl.out]; exact HX'))
                  obtain ⟨bl, bsx, blt, binj⟩ := perm_at Hbp.out
                  have hp1 := sl_cellN (HS3.out.below hB4) (i := i) (by rw [bl]; omega)
                  have hl1 := blt i (by omega)
                  have hNl : N.length = n := by rw [HX.out.len, bl]
                  have HNl := Lib.hid hNl
                  have hn1' := hN.cell (i := sb.getD i 0) (by rw [NI_length, hNl]; exact hl1)
                  rw [NI_getD _ _ (by rw [hNl]; exact hl1)] at hn1'
                  have HN := Lib.hid hN
                  have HB4 := Lib.hid hB4
                  have hb4 := hB4.size
                  have Hlast := Lib.hid (show N.getD (sb.getD i 0) 0 = n - 1 → IsSA s sb from fun h => HRnd.out.done (HRnd.out.inj (by rw [Hl.out, ← hie, Nat.add_sub_cancel]; rw [← hie, Nat.add_sub_cancel] at h; exact h)))
                  have HS4 := Lib.hid (HS3.out.below hB4)
                  clear hN hB4 HX' bl bsx blt binj hNl HX
                  generalize N.getD (sb.getD i 0) 0 = v1 at *
                  generalize sb.getD i 0 = p1 at *
                  have hnp : (0 : Int) < (n : Int) := by omega
                  have hik : i < n := by omega
                  have e3 : (1 : Int) ≤ (n : Int) := by omega
                  clear hin hi
                  by_cases hv : v1 = i
                  · have hv1 : (v1 : Int) = (i : Int) := by omega
                    have HSA := Lib.hid (Hlast.out (by omega))
                    clear hv Hlast
                    go_wp2_with fail
                    go_ret2
                    exact ⟨_, _, sb, rfl, HSA.out, HS4.out, below_step HB3.out HB4.out⟩
                  · have hv1 : ¬ (v1 : Int) = (i : Int) := by omega
                    have hv2 : ((v1 : Int) == (i : Int)) = false := by rw [beq_eq_false_iff_ne]; exact hv1
                    clear hv Hlast
                    go_wp2_with fail
                    have hif : (if (1 : Int) < 2 * (k : Int) then 2 * (k : Int) else 1) = ((max 1 (2 * k) : Nat) : Int) := by split <;> omega
                    rw [hif]
                    refine ⟨⟨b3, o3, c3, w3.heap.size, max 1 (2 * k), sb, N, rfl, rfl, rfl, hc3, by omega, Lib.hid (.inr ⟨by omega, HRnd.out⟩), HNl, HS4, HN, Lib.hid (below_step HB3.out HB4.out)⟩, ?_⟩
                    show n - ((max 1 (2 * k) : Nat) : Int).toNat < n - ((k : Int)).toNat
                    omega
            · have HSA := Lib.hid (show IsSA s sa from by
                rcases HRn.out with ⟨h, _⟩ | ⟨_, h⟩
                · omega
                · exact h.full (by rw [Hl.out]; omega))
              go_wp2_with fail
              go_ret2
              exact ⟨_, _, sa, rfl, HSA.out, HSa.out, HB.out⟩
end Go.Proofs.YtfjhcgmaignaoaaGreat
