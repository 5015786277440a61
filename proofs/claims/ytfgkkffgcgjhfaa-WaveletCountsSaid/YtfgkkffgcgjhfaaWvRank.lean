/- wavelet: within, Rank. -/
import Derived.Test.YtfgkkffgcgjhfaaWvTo
import Derived.Test.YtfgkkffgcgjhfaaBtLawG
namespace Go.Proofs.Ytfgkkffgcgjhfaa
set_option linter.unusedVariables false
set_option linter.unusedSimpArgs false
open Go.RowKit PkMath Pop Rank BtMath Wv

theorem within_cell (b : Nat) (n : Nat) (i : Int) (w : World) (h1 : w.cell? ⟨b, 0, none⟩ = some (.int .i64 (n : Int))) :
    Calls Try.prog 50 #[.pointer (some ⟨b, 0, none⟩), .int .i64 i] w fun e w' => e = .returned (.int .i64 ((min n i.toNat : Nat) : Int)) ∧ w = w' := by
  have HL := Lib.hid (tlen_cell b n w h1)
  by_cases hi : i ≤ 0
  · have hm : min n i.toNat = 0 := by omega
    rw [hm]
    by_cases h0 : i = 0
    · subst h0
      by_cases hn : n = 0
      · subst hn
        clear hm
        go_enter Try.func50, Try.ntmps50
        go_wp2_with (go_at_call 32; refine HL.out.mono ?_; rintro e w' ⟨rfl, rfl⟩)
        go_ret
        exact ⟨rfl, rfl⟩
      · have hn0 : 0 < n := by omega
        clear hm hn
        go_enter Try.func50, Try.ntmps50
        go_wp2_with (go_at_call 32; refine HL.out.mono ?_; rintro e w' ⟨rfl, rfl⟩)
        go_ret
        exact ⟨rfl, rfl⟩
    · have hi0 : i < 0 := by omega
      clear hm h0
      go_enter Try.func50, Try.ntmps50
      go_wp2_with (go_at_call 32; refine HL.out.mono ?_; rintro e w' ⟨rfl, rfl⟩)
      go_ret
      exact ⟨rfl, rfl⟩
  · obtain ⟨j, rfl⟩ : ∃ j : Nat, i = (j : Int) := ⟨i.toNat, by omega⟩
    have hj : 0 < j := by omega
    rw [Int.toNat_natCast]
    by_cases h2 : j < n
    · rw [show min n j = j by omega]
      go_enter Try.func50, Try.ntmps50
      go_wp2_with (go_at_call 32; refine HL.out.mono ?_; rintro e w' ⟨rfl, rfl⟩)
      go_ret
      exact ⟨rfl, rfl⟩
    · rw [show min n j = n by omega]
      by_cases h3 : j = n
      · subst h3
        go_enter Try.func50, Try.ntmps50
        go_wp2_with (go_at_call 32; refine HL.out.mono ?_; rintro e w' ⟨rfl, rfl⟩)
        go_ret
        exact ⟨rfl, rfl⟩
      · have h4 : n < j := by omega
        clear h2 h3
        by_cases hn : n = 0
        · subst hn
          go_enter Try.func50, Try.ntmps50
          go_wp2_with (go_at_call 32; refine HL.out.mono ?_; rintro e w' ⟨rfl, rfl⟩)
          go_ret
          exact ⟨rfl, rfl⟩
        · have hn0 : 0 < n := by omega
          go_enter Try.func50, Try.ntmps50
          go_wp2_with (go_at_call 32; refine HL.out.mono ?_; rintro e w' ⟨rfl, rfl⟩)
          go_ret
          exact ⟨rfl, rfl⟩

theorem keep2D {w2 : World} {a1 a2 : Addr} {v1 v2 : Value} (h1 : w2.cell? a1 = some v1) (h2 : w2.cell? a2 = some v2) : w2.drew.cell? a1 = some v1 ∧ w2.drew.cell? a2 = some v2 ∧ Below w2.heap.size w2 w2.drew :=
  ⟨h1, h2, rfl, rfl, rfl, Nat.le_refl _, fun _ _ => rfl⟩
theorem keep2S {w2 W W' : World} {a1 a2 : Addr} {v1 v2 : Value} (h : W.cell? a1 = some v1 ∧ W.cell? a2 = some v2 ∧ Below w2.heap.size w2 W) (k : Below W.heap.size W W') : W'.cell? a1 = some v1 ∧ W'.cell? a2 = some v2 ∧ Below w2.heap.size w2 W' :=
  ⟨by rw [World.cell?_of_block (w := W) (k.block _ (World.block_lt_of_cell? W _ h.1))]; exact h.1, by rw [World.cell?_of_block (w := W) (k.block _ (World.block_lt_of_cell? W _ h.2.1))]; exact h.2.1, below_step h.2.2 k⟩
theorem keep2E {w2 W' : World} {a1 a2 : Addr} {v1 v2 : Value} (h1 : w2.cell? a1 = some v1) (h2 : w2.cell? a2 = some v2) (k : Below w2.drew.heap.size w2.drew W') : W'.cell? a1 = some v1 ∧ W'.cell? a2 = some v2 ∧ Below w2.heap.size w2 W' :=
  keep2S (keep2D h1 h2) k

set_option maxRecDepth 100000 in
set_option maxHeartbeats 2000000 in
theorem trank_any {w : World} {base b W : Nat} {l : List Nat} (h : TM w base b W l) (c : Nat) (hc : c < 2 ^ W) (i : Int) :
    Calls Try.prog 27 #[.pointer (some ⟨b, 0, none⟩), .int .i64 (c : Int), .int .i64 i] w (IntBelow ((rk l c i.toNat : Nat) : Int) w) := by
  have hr : rk l c i.toNat = trk W l c (min l.length i.toNat) W - trk W l c 0 W := by
    rw [trk_rank W l c _ (Nat.min_le_left _ _) h.lt hc]
    by_cases hm : i.toNat ≤ l.length
    · rw [Nat.min_eq_right hm]
    · rw [Nat.min_eq_left (by omega)]; exact rk_big l c _ (by omega)
  rw [hr]
  have hmono := trk_mono W l c W (Nat.zero_le (min l.length i.toNat))
  have hle := trk_le W l c (min l.length i.toNat) W (Nat.min_le_left _ _)
  have hlen := h.len
  have hS := isSym_any h (c : Int)
  rw [show decide (0 ≤ (c : Int) ∧ (c : Int) < 2 ^ W) = true by
    rw [decide_eq_true_eq]
    refine ⟨by omega, ?_⟩
    have : ((c : Nat) : Int) < ((2 ^ W : Nat) : Int) := by exact_mod_cast hc
    rwa [Int.natCast_pow] at this] at hS
  have HS := Lib.hid hS
  have HI := Lib.hid (within_cell b l.length i w h.c0)
  have W2 := h.W2
  have hc63 : c < 2 ^ 63 := Nat.lt_of_lt_of_le hc (Nat.pow_le_pow_right (by decide) (by omega))
  have Hc := Lib.hid hc63
  have HTM := Lib.hid h
  have hmin := Nat.min_le_left l.length i.toNat
  have Htl := Lib.hid (fun i k (h : i ≤ l.length) => trk_le W l c i k h)
  obtain ⟨hh, cap, hcell, hlv⟩ := h.c1
  have Hlv := Lib.hid hlv
  generalize min l.length i.toNat = z at *
  clear hS hr hc hc63 hlv
  go_enter Try.func27, Try.ntmps27
  go_wp2_with (go_at_call 49; refine HS.out.mono ?_; rintro e w' ⟨rfl, rfl⟩)
  go_at_call 50
  refine HI.out.mono ?_
  rintro e w' ⟨rfl, rfl⟩
  go_wp2_with fail
  go_loopw [7, 8, 24] (fun f t q wr => ∃ k : Nat, k ≤ W ∧ q = .int .i64 (k : Int) ∧ f = .int .i64 ((trk W l c 0 k : Nat) : Int) ∧ t = .int .i64 ((trk W l c z k : Nat) : Int) ∧ Below w.heap.size w wr) (fun _ _ q _ => W - (intOf q).toNat)
  case atStart => exact ⟨0, Nat.zero_le _, rfl, rfl, rfl, Below.refl _ _⟩
  case round =>
    obtain ⟨k, hk, rfl, rfl, rfl, hB⟩ := hrel
    by_cases hlt : k < W
    · obtain ⟨v, hc1, hc2, hV⟩ := Hlv.out k hlt
      have hwc1 : wr.cell? ⟨hh, k * 2, none⟩ = some (.pointer (some ⟨v, 0, none⟩)) := by
        rw [World.cell?_of_block (w := w) (hB.block _ (World.block_lt_of_cell? w _ hc1))]; exact hc1
      have hwc2 : wr.cell? ⟨hh, k * 2 + 1, none⟩ = some (.int .i64 ((zeros (W - 1 - k) (lvl W l k) : Nat) : Int)) := by
        rw [World.cell?_of_block (w := w) (hB.block _ (World.block_lt_of_cell? w _ hc2))]; exact hc2
      clear hc1 hc2
      go_upto_region 7 with fail
      obtain ⟨wb, hwb⟩ : ∃ wb, wr.alloc (.cells #[.pointer (some ⟨v, 0, none⟩), .int .i64 ((zeros (W - 1 - k) (lvl W l k) : Nat) : Int)] 74) = wb := ⟨_, rfl⟩
      have hBb : Below w.heap.size w wb := by rw [← hwb]; exact hB.alloc hB.size _
      have hx1 : wb.cell? ⟨wr.heap.size, 0, none⟩ = some (.pointer (some ⟨v, 0, none⟩)) := by rw [← hwb, cell_blk (heap_alloc_new wr _)]; rfl
      have hx2 : wb.cell? ⟨wr.heap.size, 1, none⟩ = some (.int .i64 ((zeros (W - 1 - k) (lvl W l k) : Nat) : Int)) := by rw [← hwb, cell_blk (heap_alloc_new wr _)]; rfl
      rw [hwb]
      have hVb := hV.below hBb
      have HBit := Lib.hid (bit_any (HTM.out.below hBb) c k hlt Hc.out)
      obtain ⟨bx, hbx⟩ : ∃ bx, wr.heap.size = bx := ⟨_, rfl⟩
      rw [hbx] at hx1 hx2 ⊢
      obtain ⟨d, hd⟩ : ∃ d, W - 1 - k = d := ⟨_, rfl⟩
      have htF : trk W l c 0 (k + 1) = nx d (lvl W l k) (c.testBit d) (trk W l c 0 k) := by rw [trk, hd]
      have htT : trk W l c z (k + 1) = nx d (lvl W l k) (c.testBit d) (trk W l c z k) := by rw [trk, hd]
      rw [hd] at hx2 HBit hVb ⊢
      obtain ⟨f, hf⟩ : ∃ f : Nat → Nat, ∀ i, nx d (lvl W l k) (c.testBit d) i = f i := ⟨_, fun _ => rfl⟩
      have HF := Lib.hid (fun (W' : World) (h : W'.cell? ⟨bx, 0, none⟩ = some (.pointer (some ⟨v, 0, none⟩)) ∧ W'.cell? ⟨bx, 1, none⟩ = some (.int .i64 ((zeros d (lvl W l k) : Nat) : Int)) ∧ Below wb.heap.size wb W') (i : Nat) => nx_any (hVb.below h.2.2) (c.testBit d) i)
      simp only [hf] at HF
      rw [hf] at htF htT
      have HtF := Lib.hid htF
      have HtT := Lib.hid htT
      have Hx1 := Lib.hid hx1
      have Hx2 := Lib.hid hx2
      have HBb := Lib.hid (fun (W' : World) (h : W'.cell? ⟨bx, 0, none⟩ = some (.pointer (some ⟨v, 0, none⟩)) ∧ W'.cell? ⟨bx, 1, none⟩ = some (.int .i64 ((zeros d (lvl W l k) : Nat) : Int)) ∧ Below wb.heap.size wb W') => below_step hBb h.2.2)
      clear hwb hwc1 hwc2 hV hB hx1 hx2 hVb hBb htF htT hbx hd hf
      generalize zeros d (lvl W l k) = zz at *
      generalize trk W l c 0 k = p0 at *
      generalize trk W l c z k = pz at *
      generalize c.testBit d = bb at *
      go_wp2_with fail
      go_at_call 51
      refine HBit.out.mono ?_
      rintro e w' ⟨rfl, rfl⟩
      go_upto_region 8 with fail
      go_region_held3 (fun w' => w'.cell? ⟨bx, 0, none⟩ = some (.pointer (some ⟨v, 0, none⟩)) ∧ w'.cell? ⟨bx, 1, none⟩ = some (.int .i64 (zz : Int)) ∧ Below wb.heap.size wb w')
        (first | exact keep2D Hx1.out Hx2.out | exact keep2S (by assumption) (by assumption) | exact keep2E Hx1.out Hx2.out (by assumption))
        (first | (go_at_call 52; refine (HF.out _ (by assumption) _).mono ?_; rintro e w5 ⟨rfl, hB5⟩))
      all_goals go_wp2_with fail
      all_goals refine ⟨⟨k + 1, by omega, rfl, by rw [HtF.out], by rw [HtT.out], HBb.out _ (by first | assumption | exact keep2S (by assumption) (by assumption) | exact keep2E Hx1.out Hx2.out (by assumption))⟩, ?_⟩
      all_goals show W - ((k : Int) + 1).toNat < W - ((k : Int)).toNat
      all_goals omega
    · obtain rfl : k = W := by omega
      go_wp2_with fail
      go_ret
      exact ⟨ret_int (by omega), hB⟩

end Go.Proofs.Ytfgkkffgcgjhfaa
