/- wavelet: Get. -/
import Derived.Test.YtfgkkffgcgjhfaaWvRank
namespace Go.Proofs.Ytfgkkffgcgjhfaa
set_option linter.unusedVariables false
set_option linter.unusedSimpArgs false
open Go.RowKit PkMath Pop Rank BtMath Wv

theorem or_one (a : Nat) (h : a < 65536) : bits BinOp.or IntKind.i64 ((a : Int) * 2) 1 = ((2 * a + 1 : Nat) : Int) := by
  have e : (a : Int) * 2 = ((2 * a : Nat) : Int) := by omega
  rw [e, show ((1 : Int)) = ((1 : Nat) : Int) from rfl, i64_or_nat _ _ (by omega) (by decide)]
  congr 1
  have := Nat.two_pow_add_eq_or_of_lt (i := 1) (b := 1) (by decide) a
  rw [Nat.pow_one] at this
  exact this.symm
theorem tget_out (b : Nat) (n : Nat) (i : Int) (w : World) (h1 : w.cell? ⟨b, 0, none⟩ = some (.int .i64 (n : Int))) (h : i < 0 ∨ (n : Int) ≤ i) :
    Calls Try.prog 31 #[.pointer (some ⟨b, 0, none⟩), .int .i64 i] w fun e w' => e = .returned (.int .i64 (-1)) ∧ w = w' := by
  have HL := Lib.hid (tlen_cell b n w h1)
  by_cases h0 : i < 0
  · clear h
    go_enter Try.func31, Try.ntmps31
    go_wp2_with fail
    go_ret
    exact ⟨rfl, rfl⟩
  · have h2 : (n : Int) ≤ i := by omega
    clear h
    go_enter Try.func31, Try.ntmps31
    go_wp2_with (go_at_call 32; refine HL.out.mono ?_; rintro e w' ⟨rfl, rfl⟩)
    go_ret
    exact ⟨rfl, rfl⟩

set_option maxRecDepth 100000 in
set_option maxHeartbeats 2000000 in
theorem tget_any {w : World} {base b W : Nat} {l : List Nat} (h : TM w base b W l) (i : Nat) (hi : i < l.length) :
    Calls Try.prog 31 #[.pointer (some ⟨b, 0, none⟩), .int .i64 (i : Int)] w (IntBelow ((l.getD i 0 : Nat) : Int) w) := by
  have W2 := h.W2
  have hlen := h.len
  have hmem : l.getD i 0 ∈ l := by simp [List.getD, List.getElem?_eq_getElem hi]
  have hxW := h.lt _ hmem
  have HL := Lib.hid (tlen_cell b l.length w h.c0)
  have Htrk := Lib.hid (trk_getD W l i hi)
  obtain ⟨hh, cap, hcell, hlv⟩ := h.c1
  have Hlv := Lib.hid hlv
  generalize l.getD i 0 = x at *
  have hx16 : x < 65536 := Nat.lt_of_lt_of_le hxW (Nat.pow_le_pow_right (by decide) W2)
  have hx0 : x / 2 ^ W = 0 := Nat.div_eq_of_lt hxW
  clear hlv hmem hxW h
  go_enter Try.func31, Try.ntmps31
  go_wp2_with (go_at_call 32; refine HL.out.mono ?_; rintro e w' ⟨rfl, rfl⟩)
  have hdec : decide (l.length ≤ i) = false := decide_eq_false (by omega)
  have hdec2 : decide ((i : Int) < 0) = false := decide_eq_false (by omega)
  simp only [hdec, hdec2, Bool.or_false]
  clear hdec hdec2 hi
  go_loopw [1, 5, 22] (fun p c q wr => ∃ k : Nat, k ≤ W ∧ q = .int .i64 (k : Int) ∧ p = .int .i64 ((trk W l x i k : Nat) : Int) ∧ c = .int .i64 ((x / 2 ^ (W - k) : Nat) : Int) ∧ Below w.heap.size w wr) (fun _ _ q _ => W - (intOf q).toNat)
  case atStart => exact ⟨0, Nat.zero_le _, rfl, rfl, by rw [Nat.sub_zero, hx0]; rfl, Below.refl _ _⟩
  case round =>
    obtain ⟨k, hk, rfl, rfl, rfl, hB⟩ := hrel
    by_cases hlt : k < W
    · obtain ⟨v, hc1, hc2, hV⟩ := Hlv.out k hlt
      have hwc1 : wr.cell? ⟨hh, k * 2, none⟩ = some (.pointer (some ⟨v, 0, none⟩)) := by
        rw [World.cell?_of_block (w := w) (hB.block _ (World.block_lt_of_cell? w _ hc1))]; exact hc1
      have hwc2 : wr.cell? ⟨hh, k * 2 + 1, none⟩ = some (.int .i64 ((zeros (W - 1 - k) (lvl W l k) : Nat) : Int)) := by
        rw [World.cell?_of_block (w := w) (hB.block _ (World.block_lt_of_cell? w _ hc2))]; exact hc2
      clear hc1 hc2
      go_upto_region 7 with fail
      obtain ⟨wb, hwb⟩ : ∃ wb, wr.alloc (.cells #[.pointer (some ⟨v, 0, none⟩), .int .i64 ((zeros (W - 1 - k) (lvl W l k) : Nat) : Int)] 74) = wb := ⟨_, rfl⟩
      have hBb : Below w.heap.size w wb := by rw [← hwb]; exact hB.alloc hB.size _
      have hx1 : wb.cell? ⟨wr.heap.size, 0, none⟩ = some (.pointer (some ⟨v, 0, none⟩)) := by rw [← hwb, cell_blk (heap_alloc_new wr _)]; rfl
      have hx2 : wb.cell? ⟨wr.heap.size, 1, none⟩ = some (.int .i64 ((zeros (W - 1 - k) (lvl W l k) : Nat) : Int)) := by rw [← hwb, cell_blk (heap_alloc_new wr _)]; rfl
      rw [hwb]
      have hVb := hV.below hBb
      obtain ⟨bx, hbx⟩ : ∃ bx, wr.heap.size = bx := ⟨_, rfl⟩
      rw [hbx] at hx1 hx2 ⊢
      obtain ⟨d, hd⟩ : ∃ d, W - 1 - k = d := ⟨_, rfl⟩
      have htF : trk W l x i (k + 1) = nx d (lvl W l k) (x.testBit d) (trk W l x i k) := by rw [trk, hd]
      rw [hd] at hx2 hVb ⊢
      obtain ⟨hp1, hp2⟩ := Htrk.out k
      have hG := bget_any hVb ((trk W l x i k : Nat) : Int)
      rw [Int.toNat_natCast, bitsOf_getD _ _ _ (by rw [rowAt_length]; exact hp1), hp2, show decide ((0 : Int) ≤ ((trk W l x i k : Nat) : Int)) = true by simp, Bool.true_and] at hG
      have HG := Lib.hid hG
      have hT := nx_any hVb (x.testBit d) (trk W l x i k)
      rw [← htF] at hT
      have HT := Lib.hid hT
      have hacc : x / 2 ^ (W - (k + 1)) = 2 * (x / 2 ^ (W - k)) + (x.testBit d).toNat := by
        rw [show W - (k + 1) = d by omega, show W - k = d + 1 by omega]; exact half_succ x d
      have Hacc := Lib.hid hacc
      have hab : x / 2 ^ (W - k) < 65536 := Nat.lt_of_le_of_lt (Nat.div_le_self _ _) hx16
      clear hwb hwc1 hwc2 hV hB hVb htF hbx hd hG hT hp1 hp2 hacc
      generalize zeros d (lvl W l k) = zz at *
      generalize trk W l x i k = p0 at *
      generalize x / 2 ^ (W - k) = acc at *
      generalize x.testBit d = bb at *
      have hor := or_one acc hab
      have hw2 : IntKind.i64.wrap ((acc : Int) * 2) = (acc : Int) * 2 := wrap_small _ (by omega) (by omega)
      cases bb
      all_goals
        go_wp2_with fail
        go_at_call 23
        refine HG.out.mono ?_
        rintro e w' ⟨rfl, rfl⟩
        go_wp2_with fail
        go_at_call 52
        refine HT.out.mono ?_
        rintro e w' ⟨rfl, hB5⟩
        go_wp2_with fail
        go_roundw
        case rel =>
          refine ⟨k + 1, by omega, rfl, rfl, ?_, below_step hBb hB5⟩
          rw [Hacc.out]
          exact congrArg (Value.int IntKind.i64) (by first | (simp only [Bool.toNat_false, Bool.toNat_true]; omega) | (show (acc : Int) * 2 = ((2 * acc + 0 : Nat) : Int); omega) | (show 2 * (acc : Int) + 1 = ((2 * acc + 1 : Nat) : Int); omega))
        case measure =>
          show W - ((k : Int) + 1).toNat < W - ((k : Int)).toNat
          omega
    · obtain rfl : k = W := by omega
      go_wp2_with fail
      go_ret
      refine ⟨?_, hB⟩
      rw [Nat.sub_self, Nat.pow_zero, Nat.div_one]
      rfl
end Go.Proofs.Ytfgkkffgcgjhfaa
