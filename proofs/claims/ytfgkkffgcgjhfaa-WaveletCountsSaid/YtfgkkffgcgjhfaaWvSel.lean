/- wavelet: Select. -/
import Derived.Test.YtfgkkffgcgjhfaaWvBelow
namespace Go.Proofs.Ytfgkkffgcgjhfaa
set_option linter.unusedVariables false
set_option linter.unusedSimpArgs false
open Go.RowKit PkMath Pop Rank BtMath Wv

theorem trank_out {w : World} {base b W : Nat} {l : List Nat} (h : TM w base b W l) (c : Int) (hc : c < 0 ∨ (2 : Int) ^ W ≤ c) (i : Int) :
    Calls Try.prog 27 #[.pointer (some ⟨b, 0, none⟩), .int .i64 c, .int .i64 i] w (IntBelow 0 w) := by
  have hS := isSym_any h c
  rw [show decide (0 ≤ c ∧ c < 2 ^ W) = false by
    rw [decide_eq_false_iff_not]
    rintro ⟨h1, h2⟩
    rcases hc with h3 | h3
    · omega
    · exact absurd h2 (Int.not_lt.2 h3)] at hS
  have HS := Lib.hid hS
  clear hS hc
  go_enter Try.func27, Try.ntmps27
  go_wp2_with (go_at_call 49; refine HS.out.mono ?_; rintro e w' ⟨rfl, rfl⟩)
  go_ret
  exact ⟨rfl, Below.refl _ _⟩

theorem elem_of_getD {l : List Bool} {i : Nat} {x : Bool} (h : i < l.length) (e : l.getD i false = x) : l[i] = x := by
  simpa [List.getD, List.getElem?_eq_getElem h] using e
/-- one step back: the place on the level above -/
theorem back_step (W : Nat) (l : List Nat) (p : Nat) (hp : p < l.length) (j : Nat) :
    slI (bitsOf (W - 1 - j) (lvl W l j)) ((l.getD p 0).testBit (W - 1 - j)) (((trk W l (l.getD p 0) p (j + 1) : Nat) : Int) - (if (l.getD p 0).testBit (W - 1 - j) then ((zeros (W - 1 - j) (lvl W l j) : Nat) : Int) else 0)) = ((trk W l (l.getD p 0) p j : Nat) : Int) := by
  obtain ⟨h1, h2⟩ := trk_getD W l p hp j
  have hB := bitsOf_getD (W - 1 - j) (lvl W l j) (trk W l (l.getD p 0) p j) (by rw [rowAt_length]; exact h1)
  rw [h2] at hB
  have hs : sl (bitsOf (W - 1 - j) (lvl W l j)) ((l.getD p 0).testBit (W - 1 - j)) (rk (bitsOf (W - 1 - j) (lvl W l j)) ((l.getD p 0).testBit (W - 1 - j)) (trk W l (l.getD p 0) p j)) = some (trk W l (l.getD p 0) p j) := by
    have hl : trk W l (l.getD p 0) p j < (bitsOf (W - 1 - j) (lvl W l j)).length := by rw [bitsOf_length, rowAt_length]; exact h1
    exact sl_some.2 ⟨hl, elem_of_getD hl hB, rfl⟩
  have e : ((trk W l (l.getD p 0) p (j + 1) : Nat) : Int) - (if (l.getD p 0).testBit (W - 1 - j) then ((zeros (W - 1 - j) (lvl W l j) : Nat) : Int) else 0) = ((rk (bitsOf (W - 1 - j) (lvl W l j)) ((l.getD p 0).testBit (W - 1 - j)) (trk W l (l.getD p 0) p j) : Nat) : Int) := by
    rw [trk]
    unfold nx
    cases (l.getD p 0).testBit (W - 1 - j)
    · simp
    · simp only [if_true]; omega
  rw [e]
  exact slI_some hs
theorem back_start (W : Nat) (l : List Nat) (p : Nat) (hp : p < l.length) (hl : ∀ x ∈ l, x < 2 ^ W) (hc : l.getD p 0 < 2 ^ W) :
    trk W l (l.getD p 0) p W = trk W l (l.getD p 0) 0 W + rk l (l.getD p 0) p := by
  have h1 := trk_rank W l (l.getD p 0) p (by omega) hl hc
  have h2 := trk_mono W l (l.getD p 0) W (Nat.zero_le p)
  omega

theorem keep3A {w2 W : World} {a1 a2 a3 : Addr} {v1 v2 v3 : Value} (h : W.cell? a1 = some v1 ∧ W.cell? a2 = some v2 ∧ W.cell? a3 = some v3 ∧ Below w2.heap.size w2 W) (o : Obj) : (W.alloc o).cell? a1 = some v1 ∧ (W.alloc o).cell? a2 = some v2 ∧ (W.alloc o).cell? a3 = some v3 ∧ Below w2.heap.size w2 (W.alloc o) := by
  have hc : ∀ {a : Addr} {v : Value}, W.cell? a = some v → (W.alloc o).cell? a = some v := fun {a v} h => by
    rw [World.cell?_of_block (w := W) (Below.heap_alloc _ _ _ (World.block_lt_of_cell? W _ h))]; exact h
  exact ⟨hc h.1, hc h.2.1, hc h.2.2.1, h.2.2.2.alloc h.2.2.2.size _⟩
theorem keep3E {w2 W : World} {a1 a2 a3 : Addr} {v1 v2 v3 : Value} (h : W.cell? a1 = some v1 ∧ W.cell? a2 = some v2 ∧ W.cell? a3 = some v3 ∧ Below w2.heap.size w2 W) : W.drew.cell? a1 = some v1 ∧ W.drew.cell? a2 = some v2 ∧ W.drew.cell? a3 = some v3 ∧ Below w2.heap.size w2 W.drew :=
  ⟨h.1, h.2.1, h.2.2.1, h.2.2.2.os, h.2.2.2.tape, h.2.2.2.output, h.2.2.2.size, h.2.2.2.block⟩
theorem keep3S {w2 W : World} {a1 a2 a3 : Addr} {v1 v2 v3 : Value} {o : Obj} (h : W.cell? a1 = some v1 ∧ W.cell? a2 = some v2 ∧ W.cell? a3 = some v3 ∧ Below w2.heap.size w2 W) {bx : Nat} (hb : W.heap.size ≤ bx) (q : Nat) (u : Value) : (W.setCell ⟨bx, q, none⟩ u).cell? a1 = some v1 ∧ (W.setCell ⟨bx, q, none⟩ u).cell? a2 = some v2 ∧ (W.setCell ⟨bx, q, none⟩ u).cell? a3 = some v3 ∧ Below w2.heap.size w2 (W.setCell ⟨bx, q, none⟩ u) := by
  have hc : ∀ {a : Addr} {v : Value}, W.cell? a = some v → (W.setCell ⟨bx, q, none⟩ u).cell? a = some v := fun {a v} h => by
    have hl := World.block_lt_of_cell? W _ h
    rw [World.cell?_of_block (w := W) (Below.heap_setCell _ _ _ _ (by show a.block ≠ bx; omega))]; exact h
  exact ⟨hc h.1, hc h.2.1, hc h.2.2.1, below_cell h.2.2.2 (by have := h.2.2.2.size; omega) _ _ rfl⟩
set_option maxRecDepth 100000 in
set_option maxHeartbeats 4000000 in
theorem tsel_some {w : World} {base b W : Nat} {l : List Nat} (h : TM w base b W l) (p : Nat) (hp : p < l.length) (c k0 : Nat) (hcp : l.getD p 0 = c) (hk0 : rk l c p = k0) :
    Calls Try.prog 29 #[.pointer (some ⟨b, 0, none⟩), .int .i64 (c : Int), .int .i64 (k0 : Int)] w (IntBelow ((p : Nat) : Int) w) := by
  have hlen := h.len
  have hmem : c ∈ l := by rw [← hcp]; simp [List.getD, List.getElem?_eq_getElem hp]
  have hc := h.lt _ hmem
  have W1 := h.W1
  have W2 := h.W2
  have hR := trank_any h c hc (l.length : Int)
  rw [Int.toNat_natCast] at hR
  have hkr : k0 < rk l c l.length := by
    have h1 : rk l c (p + 1) = rk l c p + 1 := by
      rw [rk_succ l c p hp]; simp [List.getD, List.getElem?_eq_getElem hp] at hcp; simp [hcp]
    have h2 := rk_mono l c (show p + 1 ≤ l.length by omega)
    omega
  have hrl := rk_le l c l.length
  have HR := Lib.hid hR
  have HL := Lib.hid (tlen_cell b l.length w h.c0)
  have hstart := back_start W l p hp h.lt (by rw [hcp]; exact hc)
  have hback := back_step W l p hp
  rw [hcp] at hstart hback
  rw [hk0] at hstart
  have Hback := Lib.hid hback
  have Hstart := Lib.hid hstart
  have Hle := Lib.hid (fun i k (h : i ≤ l.length) => trk_le W l c i k h)
  have hc63 : c < 2 ^ 63 := Nat.lt_of_lt_of_le hc (Nat.pow_le_pow_right (by decide) (by omega))
  have Hc := Lib.hid hc63
  have HTM := Lib.hid h
  obtain ⟨hh, cap, hcell, hlv⟩ := h.c1
  have Hlv := Lib.hid hlv
  have hple : p ≤ l.length := by omega
  clear hR hc hc63 hlv hstart hback hmem hcp hk0 h hp
  generalize rk l c l.length = r at *
  go_enter Try.func29, Try.ntmps29
  go_wp2_with fail
  go_at_call 32
  refine HL.out.mono ?_
  rintro e w' ⟨rfl, rfl⟩
  go_wp2_with fail
  go_at_call 27
  refine HR.out.mono ?_
  rintro e w1 ⟨rfl, hB1⟩
  have hcell1 : w1.cell? ⟨b, 1, none⟩ = some (.slice (some ⟨hh, 0, none⟩) W cap) := by
    rw [World.cell?_of_block (w := w) (hB1.block _ (World.block_lt_of_cell? w _ hcell))]; exact hcell
  clear HR HL
  go_wp2_with fail
  have hdec : decide (r ≤ k0) = false := decide_eq_false (by omega)
  have hdec2 : decide ((k0 : Int) < 0) = false := decide_eq_false (by omega)
  simp only [hdec, hdec2, Bool.or_false]
  clear hdec hdec2
  go_loopw [7, 29] (fun f q wr => ∃ k : Nat, k ≤ W ∧ q = .int .i64 (k : Int) ∧ f = .int .i64 ((trk W l c 0 k : Nat) : Int) ∧ Below w.heap.size w wr) (fun _ q _ => W - (intOf q).toNat)
  case atStart => exact ⟨0, Nat.zero_le _, rfl, rfl, hB1⟩
  case round =>
    clear hcell1 hB1
    obtain ⟨k, hk, rfl, rfl, hB⟩ := hrel
    by_cases hlt : k < W
    · obtain ⟨v, hc1, hc2, hV⟩ := Hlv.out k hlt
      have hwc1 : wr.cell? ⟨hh, k * 2, none⟩ = some (.pointer (some ⟨v, 0, none⟩)) := by
        rw [World.cell?_of_block (w := w) (hB.block _ (World.block_lt_of_cell? w _ hc1))]; exact hc1
      have hwc2 : wr.cell? ⟨hh, k * 2 + 1, none⟩ = some (.int .i64 ((zeros (W - 1 - k) (lvl W l k) : Nat) : Int)) := by
        rw [World.cell?_of_block (w := w) (hB.block _ (World.block_lt_of_cell? w _ hc2))]; exact hc2
      clear hc1 hc2
      go_upto_region 7 with fail
      obtain ⟨wb, hwb⟩ : ∃ wb, wr.alloc (.cells #[.pointer (some ⟨v, 0, none⟩), .int .i64 ((zeros (W - 1 - k) (lvl W l k) : Nat) : Int)] 74) = wb := ⟨_, rfl⟩
      have hBb : Below w.heap.size w wb := by rw [← hwb]; exact hB.alloc hB.size _
      have hx1 : wb.cell? ⟨wr.heap.size, 0, none⟩ = some (.pointer (some ⟨v, 0, none⟩)) := by rw [← hwb, cell_blk (heap_alloc_new wr _)]; rfl
      have hx2 : wb.cell? ⟨wr.heap.size, 1, none⟩ = some (.int .i64 ((zeros (W - 1 - k) (lvl W l k) : Nat) : Int)) := by rw [← hwb, cell_blk (heap_alloc_new wr _)]; rfl
      rw [hwb]
      have hVb := hV.below hBb
      have hTb := HTM.out.below hBb
      obtain ⟨bx, hbx⟩ : ∃ bx, wr.heap.size = bx := ⟨_, rfl⟩
      rw [hbx] at hx1 hx2 ⊢
      obtain ⟨d, hd⟩ : ∃ d, W - 1 - k = d := ⟨_, rfl⟩
      have htF : trk W l c 0 (k + 1) = nx d (lvl W l k) (c.testBit d) (trk W l c 0 k) := by rw [trk, hd]
      have HBit := Lib.hid (fun (W' : World) (h : W'.cell? ⟨bx, 0, none⟩ = some (.pointer (some ⟨v, 0, none⟩)) ∧ W'.cell? ⟨bx, 1, none⟩ = some (.int .i64 ((zeros d (lvl W l k) : Nat) : Int)) ∧ Below wb.heap.size wb W') => bit_any (hTb.below h.2.2) c k hlt Hc.out)
      rw [hd] at hx2 HBit hVb ⊢
      have HF := Lib.hid (fun (W' : World) (h : W'.cell? ⟨bx, 0, none⟩ = some (.pointer (some ⟨v, 0, none⟩)) ∧ W'.cell? ⟨bx, 1, none⟩ = some (.int .i64 ((zeros d (lvl W l k) : Nat) : Int)) ∧ Below wb.heap.size wb W') => nx_any (hVb.below h.2.2) (c.testBit d) (trk W l c 0 k))
      rw [← htF] at HF
      have Hx1 := Lib.hid hx1
      have Hx2 := Lib.hid hx2
      have HBb := Lib.hid (fun (W' : World) (h : W'.cell? ⟨bx, 0, none⟩ = some (.pointer (some ⟨v, 0, none⟩)) ∧ W'.cell? ⟨bx, 1, none⟩ = some (.int .i64 ((zeros d (lvl W l k) : Nat) : Int)) ∧ Below wb.heap.size wb W') => below_step hBb h.2.2)
      clear hwb hwc1 hwc2 hV hB hx1 hx2 hVb hTb hBb htF hbx hd
      generalize zeros d (lvl W l k) = zz at *
      generalize trk W l c 0 k = p0 at *
      generalize c.testBit d = bb at *
      go_region_held3 (fun w' => w'.cell? ⟨bx, 0, none⟩ = some (.pointer (some ⟨v, 0, none⟩)) ∧ w'.cell? ⟨bx, 1, none⟩ = some (.int .i64 (zz : Int)) ∧ Below wb.heap.size wb w')
        (first | exact keep2D Hx1.out Hx2.out | exact keep2S (by assumption) (by assumption) | exact keep2E Hx1.out Hx2.out (by assumption))
        (first | (go_at_call 51; refine (HBit.out _ (by assumption)).mono ?_; rintro e w4 ⟨rfl, rfl⟩) | (go_at_call 52; refine (HF.out _ (by assumption)).mono ?_; rintro e w5 ⟨rfl, hB5⟩))
      all_goals go_wp2_with fail
      all_goals refine ⟨⟨k + 1, by omega, rfl, rfl, HBb.out _ (by first | assumption | exact keep2S (by assumption) (by assumption) | exact keep2E Hx1.out Hx2.out (by assumption))⟩, ?_⟩
      all_goals show W - ((k : Int) + 1).toNat < W - ((k : Int)).toNat
      all_goals omega
    · obtain rfl : k = W := by omega
      have hst := Hstart.out
      have hpl := Hle.out p k hple
      have hcellr : wr.cell? ⟨b, 1, none⟩ = some (.slice (some ⟨hh, 0, none⟩) k cap) := by
        rw [World.cell?_of_block (w := w) (hB.block _ (World.block_lt_of_cell? w _ hcell))]; exact hcell
      have hadd : ((trk k l c 0 k : Nat) : Int) + (k0 : Int) = ((trk k l c p k : Nat) : Int) := by omega
      clear hst Hstart
      go_wp2_with fail
      go_loopw [7, 10] (fun f q wx => ∃ m : Nat, m ≤ k ∧ q = .int .i64 ((m : Int) - 1) ∧ f = .int .i64 ((trk k l c p m : Nat) : Int) ∧ Below w.heap.size w wx) (fun _ q _ => (intOf q + 1).toNat)
      case atStart => exact ⟨k, Nat.le_refl _, rfl, rfl, hB⟩
      case round =>
        clear hcellr hB hadd hpl
        obtain ⟨m, hm, rfl, rfl, hB⟩ := hrel
        by_cases hm0 : m = 0
        · subst hm0
          go_wp2_with fail
          go_ret
          exact ⟨rfl, hB⟩
        · obtain ⟨j, rfl⟩ : ∃ j, m = j + 1 := ⟨m - 1, by omega⟩
          have hjk : j < k := by omega
          rw [show (((j + 1 : Nat) : Int) - 1) = (j : Int) by omega]
          obtain ⟨v, hc1, hc2, hV⟩ := Hlv.out j hjk
          have hw0 : wr.cell? ⟨b, 1, none⟩ = some (.slice (some ⟨hh, 0, none⟩) k cap) := by
            rw [World.cell?_of_block (w := w) (hB.block _ (World.block_lt_of_cell? w _ hcell))]; exact hcell
          have hwc1 : wr.cell? ⟨hh, j * 2, none⟩ = some (.pointer (some ⟨v, 0, none⟩)) := by
            rw [World.cell?_of_block (w := w) (hB.block _ (World.block_lt_of_cell? w _ hc1))]; exact hc1
          have hwc2 : wr.cell? ⟨hh, j * 2 + 1, none⟩ = some (.int .i64 ((zeros (k - 1 - j) (lvl k l j) : Nat) : Int)) := by
            rw [World.cell?_of_block (w := w) (hB.block _ (World.block_lt_of_cell? w _ hc2))]; exact hc2
          go_upto_region 13 with fail
          obtain ⟨d, hd⟩ : ∃ d, k - 1 - j = d := ⟨_, rfl⟩
          have hbk := Hback.out j
          have HBit := Lib.hid (fun (W' : World) (h : Below wr.heap.size wr W') => bit_any ((HTM.out.below hB).below h) c j hjk Hc.out)
          rw [hd] at hwc2 hbk hV HBit
          have hzl : zeros d (lvl k l j) ≤ l.length := by
            unfold zeros
            exact Nat.le_trans (List.length_filter_le _ _) (by rw [rowAt_length]; exact Nat.le_refl _)
          have hq1 : trk k l c p (j + 1) ≤ l.length := Hle.out p (j + 1) hple
          generalize zeros d (lvl k l j) = zz at *
          generalize trk k l c p (j + 1) = q1 at *
          generalize hq0 : trk k l c p j = q0 at *
          have Hq0 := Lib.hid hq0
          clear hq0
          generalize c.testBit d = bb at *
          go_cut [11, 12] (fun s1 s2 wx => ∃ bx, s1 = .pointer (some ⟨bx, 0, none⟩) ∧ s2 = .bool bb ∧ wx.cell? ⟨bx, 0, none⟩ = some (.pointer (some ⟨v, 0, none⟩)) ∧ wx.cell? ⟨bx, 1, none⟩ = some (.int .i64 (zz : Int)) ∧ Below wr.heap.size wr wx)
          case first =>
            have HK0 := Lib.hid hw0
            go_region_held3 (fun w' => w'.cell? ⟨b, 1, none⟩ = some (.slice (some ⟨hh, 0, none⟩) k cap) ∧ w'.cell? ⟨hh, j * 2, none⟩ = some (.pointer (some ⟨v, 0, none⟩)) ∧ w'.cell? ⟨hh, j * 2 + 1, none⟩ = some (.int .i64 (zz : Int)) ∧ Below wr.heap.size wr w')
              (first | exact ⟨hw0, hwc1, hwc2, below0 _ _⟩ | exact keep3E (keep3A ⟨hw0, hwc1, hwc2, Below.refl _ _⟩ _) | exact keep3E (by assumption) | exact keep3A (by assumption) _ | exact keep3A ⟨hw0, hwc1, hwc2, below0 _ _⟩ _ | exact keep3S (by assumption) (Nat.le_refl _) _ _ | exact keep3S (keep3A (by assumption) _) (Nat.le_refl _) _ _)
              (first | (go_at_call 51; refine (HBit.out _ (by first | exact (And.right (And.right (And.right (by assumption)))) | exact below0 _ _)).mono ?_; rintro e w4 ⟨rfl, rfl⟩))
            all_goals go_wp2_with fail
            all_goals go_meet
            all_goals exact ⟨wr.heap.size, rfl, rfl, (cell_blk (heap_alloc_new wr _) 0).trans rfl, (cell_blk (heap_alloc_new wr _) 1).trans rfl, ((Below.refl _ wr).alloc (Nat.le_refl _) _).drew⟩
          case rest =>
            obtain ⟨bx, rfl, rfl, hx1, hx2, hBw⟩ := hcut
            have hVx := (hV.below hB).below hBw
            have hBB := below_step hB hBw
            clear hwc1 hwc2 hw0 hV hB HBit
            cases bb with
            | true =>
              have hs := select_any hVx true ((q1 : Int) - (zz : Int))
              rw [if_pos rfl] at hbk
              rw [hbk] at hs
              have HSel := Lib.hid hs
              clear hs hbk hVx
              go_wp2_with fail
              go_at_call 18
              refine HSel.out.mono ?_
              rintro e w6 ⟨rfl, hB6⟩
              go_wp2_with fail
              refine ⟨⟨j, by omega, by first | rfl | trivial, by rw [Hq0.out], below_step hBB hB6⟩, ?_⟩
              show ((j : Int) - 1 + 1).toNat < ((j : Int) + 1).toNat
              omega
            | false =>
              have hs := select_any hVx false (q1 : Int)
              rw [if_neg (by decide), Int.sub_zero] at hbk
              rw [hbk] at hs
              have HSel := Lib.hid hs
              clear hs hbk hVx
              go_wp2_with fail
              go_at_call 18
              refine HSel.out.mono ?_
              rintro e w6 ⟨rfl, hB6⟩
              go_wp2_with fail
              refine ⟨⟨j, by omega, by first | rfl | trivial, by rw [Hq0.out], below_step hBB hB6⟩, ?_⟩
              show ((j : Int) - 1 + 1).toNat < ((j : Int) + 1).toNat
              omega
end Go.Proofs.Ytfgkkffgcgjhfaa
