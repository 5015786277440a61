/- wavelet: Below. -/
import Derived.Test.YtfgkkffgcgjhfaaWvGet
namespace Go.Proofs.Ytfgkkffgcgjhfaa
set_option linter.unusedVariables false
set_option linter.unusedSimpArgs false
open Go.RowKit PkMath Pop Rank BtMath Wv

/-- how many of a part are below c -/
def cntB (l : List Nat) (c : Int) (a z : Nat) : Nat := ((seg l a z).filter (fun x : Nat => decide ((x : Int) < c))).length
theorem seg_nil {α : Type} (l : List α) (a z : Nat) (h : z ≤ a) : seg l a z = [] := by
  unfold seg
  apply List.drop_eq_nil_of_le
  rw [List.length_take]
  omega
theorem cntB_nil (l : List Nat) (c : Int) (a z : Nat) (h : z ≤ a) : cntB l c a z = 0 := by unfold cntB; rw [seg_nil l a z h]; rfl
theorem cntB_low (l : List Nat) (c : Int) (a z : Nat) (h : c ≤ 0) : cntB l c a z = 0 := by
  unfold cntB
  rw [List.length_eq_zero_iff, List.filter_eq_nil_iff]
  intro x _
  simp; omega
theorem cntB_all (W : Nat) (l : List Nat) (c : Int) (a z : Nat) (hz : z ≤ l.length) (hl : ∀ x ∈ l, x < 2 ^ W) (h : (2 : Int) ^ W ≤ c) : cntB l c a z = z - a := by
  unfold cntB
  rw [List.filter_eq_self.2, seg_length _ _ _ hz]
  intro x hx
  have hm : x ∈ l := by
    unfold seg at hx
    exact List.mem_of_mem_take (List.mem_of_mem_drop hx)
  have h1 := hl x hm
  have h2 : ((x : Nat) : Int) < ((2 ^ W : Nat) : Int) := by exact_mod_cast h1
  rw [Int.natCast_pow] at h2
  simp only [decide_eq_true_eq]
  exact Int.lt_of_lt_of_le h2 h
theorem cntB_blw (W : Nat) (l : List Nat) (c a z : Nat) : cntB l (c : Int) a z = blw W l c a z W := by
  rw [blw_all]
  unfold cntB
  congr 1
  congr 1
  funext x
  simp
theorem blw_le (W : Nat) (l : List Nat) (c a z k : Nat) : blw W l c a z k ≤ l.length := by
  unfold blw
  refine Nat.le_trans (List.length_filter_le _ _) ?_
  unfold seg
  rw [List.length_drop, List.length_take]
  omega

theorem keep2M {w2 : World} {a1 a2 : Addr} {v1 v2 : Value} (h1 : w2.cell? a1 = some v1) (h2 : w2.cell? a2 = some v2) (m : Nat) : (w2.drewN m).drew.cell? a1 = some v1 ∧ (w2.drewN m).drew.cell? a2 = some v2 ∧ Below w2.heap.size w2 (w2.drewN m).drew :=
  ⟨h1, h2, rfl, rfl, rfl, Nat.le_refl _, fun _ _ => rfl⟩
theorem keep2N {w2 : World} {a1 a2 : Addr} {v1 v2 : Value} (h1 : w2.cell? a1 = some v1) (h2 : w2.cell? a2 = some v2) (m : Nat) : (w2.drewN m).cell? a1 = some v1 ∧ (w2.drewN m).cell? a2 = some v2 ∧ Below w2.heap.size w2 (w2.drewN m) :=
  ⟨h1, h2, rfl, rfl, rfl, Nat.le_refl _, fun _ _ => rfl⟩
theorem keep2F {w2 W' : World} {a1 a2 : Addr} {v1 v2 : Value} (h1 : w2.cell? a1 = some v1) (h2 : w2.cell? a2 = some v2) {m : Nat} (k : Below (w2.drewN m).heap.size (w2.drewN m) W') : W'.cell? a1 = some v1 ∧ W'.cell? a2 = some v2 ∧ Below w2.heap.size w2 W' :=
  keep2S (keep2N h1 h2 m) k
set_option maxRecDepth 100000 in
set_option maxHeartbeats 2000000 in
theorem tbelow_sym {w : World} {base b W : Nat} {l : List Nat} (h : TM w base b W l) (c : Nat) (hc : c < 2 ^ W) (hc0 : 1 ≤ c) (i j : Int) (a z : Nat) (ha : min l.length i.toNat = a) (hz : min l.length j.toNat = z) (haz : a < z) :
    Calls Try.prog 28 #[.pointer (some ⟨b, 0, none⟩), .int .i64 (c : Int), .int .i64 i, .int .i64 j] w (IntBelow ((blw W l c a z W : Nat) : Int) w) := by
  have hlen := h.len
  have hS := isSym_any h (c : Int)
  rw [show decide (0 ≤ (c : Int) ∧ (c : Int) < 2 ^ W) = true by
    rw [decide_eq_true_eq]
    refine ⟨by omega, ?_⟩
    have : ((c : Nat) : Int) < ((2 ^ W : Nat) : Int) := by exact_mod_cast hc
    rwa [Int.natCast_pow] at this] at hS
  have HS := Lib.hid hS
  have hI := within_cell b l.length i w h.c0
  have hJ := within_cell b l.length j w h.c0
  rw [ha] at hI
  rw [hz] at hJ
  have HI := Lib.hid hI
  have HJ := Lib.hid hJ
  have W2 := h.W2
  have hc63 : c < 2 ^ 63 := Nat.lt_of_lt_of_le hc (Nat.pow_le_pow_right (by decide) (by omega))
  have Hc := Lib.hid hc63
  have HTM := Lib.hid h
  have Hb0 := Lib.hid (blw_zero W l c a z hc)
  have Hsucc := Lib.hid (fun k hk => blw_succ W l c a z (Nat.le_of_lt haz) h.lt hc k hk)
  have Hble := Lib.hid (fun k => blw_le W l c a z k)
  have Hmono := Lib.hid (fun k => trk_mono W l c k (Nat.le_of_lt haz))
  obtain ⟨hh, cap, hcell, hlv⟩ := h.c1
  have Hlv := Lib.hid hlv
  clear hS hc hc63 hlv hI hJ ha hz h
  go_enter Try.func28, Try.ntmps28
  go_wp2_with fail
  go_at_call 50
  refine HI.out.mono ?_
  rintro e w' ⟨rfl, rfl⟩
  go_wp2_with fail
  go_at_call 50
  refine HJ.out.mono ?_
  rintro e w' ⟨rfl, rfl⟩
  go_wp2_with (go_at_call 49; refine HS.out.mono ?_; rintro e w' ⟨rfl, rfl⟩)
  go_loopw [2, 3, 9, 40] (fun f t n q wr => ∃ k : Nat, k ≤ W ∧ q = .int .i64 (k : Int) ∧ f = .int .i64 ((trk W l c a k : Nat) : Int) ∧ t = .int .i64 ((trk W l c z k : Nat) : Int) ∧ n = .int .i64 ((blw W l c a z k : Nat) : Int) ∧ Below w.heap.size w wr) (fun _ _ _ q _ => W - (intOf q).toNat)
  case atStart => exact ⟨0, Nat.zero_le _, rfl, rfl, rfl, by rw [Hb0.out]; rfl, Below.refl _ _⟩
  case round =>
    obtain ⟨k, hk, rfl, rfl, rfl, rfl, hB⟩ := hrel
    by_cases hlt : k < W
    · obtain ⟨v, hc1, hc2, hV⟩ := Hlv.out k hlt
      have hwc1 : wr.cell? ⟨hh, k * 2, none⟩ = some (.pointer (some ⟨v, 0, none⟩)) := by
        rw [World.cell?_of_block (w := w) (hB.block _ (World.block_lt_of_cell? w _ hc1))]; exact hc1
      have hwc2 : wr.cell? ⟨hh, k * 2 + 1, none⟩ = some (.int .i64 ((zeros (W - 1 - k) (lvl W l k) : Nat) : Int)) := by
        rw [World.cell?_of_block (w := w) (hB.block _ (World.block_lt_of_cell? w _ hc2))]; exact hc2
      clear hc1 hc2
      go_upto_region 10 with fail
      obtain ⟨wb, hwb⟩ : ∃ wb, wr.alloc (.cells #[.pointer (some ⟨v, 0, none⟩), .int .i64 ((zeros (W - 1 - k) (lvl W l k) : Nat) : Int)] 74) = wb := ⟨_, rfl⟩
      have hBb : Below w.heap.size w wb := by rw [← hwb]; exact hB.alloc hB.size _
      have hx1 : wb.cell? ⟨wr.heap.size, 0, none⟩ = some (.pointer (some ⟨v, 0, none⟩)) := by rw [← hwb, cell_blk (heap_alloc_new wr _)]; rfl
      have hx2 : wb.cell? ⟨wr.heap.size, 1, none⟩ = some (.int .i64 ((zeros (W - 1 - k) (lvl W l k) : Nat) : Int)) := by rw [← hwb, cell_blk (heap_alloc_new wr _)]; rfl
      rw [hwb]
      have hVb := hV.below hBb
      have HBit := Lib.hid (bit_any (HTM.out.below hBb) c k hlt Hc.out)
      obtain ⟨bx, hbx⟩ : ∃ bx, wr.heap.size = bx := ⟨_, rfl⟩
      rw [hbx] at hx1 hx2 ⊢
      have hsc := Hsucc.out k hlt
      have hble := Hble.out k
      have hble1 := Hble.out (k + 1)
      have hmo := Hmono.out k
      obtain ⟨d, hd⟩ : ∃ d, W - 1 - k = d := ⟨_, rfl⟩
      have htF : trk W l c a (k + 1) = nx d (lvl W l k) (c.testBit d) (trk W l c a k) := by rw [trk, hd]
      have htT : trk W l c z (k + 1) = nx d (lvl W l k) (c.testBit d) (trk W l c z k) := by rw [trk, hd]
      rw [hd] at hx2 HBit hVb hsc ⊢
      obtain ⟨f, hf⟩ : ∃ f : Nat → Nat, ∀ i, nx d (lvl W l k) (c.testBit d) i = f i := ⟨_, fun _ => rfl⟩
      obtain ⟨r0, hr0⟩ : ∃ r0 : Nat → Nat, ∀ i, rk (bitsOf d (lvl W l k)) false i = r0 i := ⟨_, fun _ => rfl⟩
      have hrm : r0 (trk W l c a k) ≤ r0 (trk W l c z k) := by rw [← hr0, ← hr0]; exact rk_mono _ _ hmo
      have hrl : r0 (trk W l c z k) ≤ l.length := by
        rw [← hr0]
        have := rk_le (bitsOf d (lvl W l k)) false (trk W l c z k)
        by_cases h9 : trk W l c z k ≤ l.length
        · omega
        · rw [rk_big _ _ _ (by rw [bitsOf_length, rowAt_length]; omega)]
          have := rk_le (bitsOf d (lvl W l k)) false (bitsOf d (lvl W l k)).length
          rw [bitsOf_length, rowAt_length] at this
          rw [bitsOf_length, rowAt_length]
          exact this
      have HRq := Lib.hid (fun (m : Nat) (i : Nat) => rank_any (hVb.drewN m) false (i : Int))
      simp only [Int.toNat_natCast, hr0] at HRq
      have HF := Lib.hid (fun (W' : World) (h : W'.cell? ⟨bx, 0, none⟩ = some (.pointer (some ⟨v, 0, none⟩)) ∧ W'.cell? ⟨bx, 1, none⟩ = some (.int .i64 ((zeros d (lvl W l k) : Nat) : Int)) ∧ Below wb.heap.size wb W') (i : Nat) => nx_any (hVb.below h.2.2) (c.testBit d) i)
      simp only [hf] at HF
      rw [hf] at htF htT
      rw [hr0, hr0] at hsc
      have HtF := Lib.hid htF
      have HtT := Lib.hid htT
      have Hsc := Lib.hid hsc
      have Hx1 := Lib.hid hx1
      have Hx2 := Lib.hid hx2
      have HBb := Lib.hid (fun (W' : World) (h : W'.cell? ⟨bx, 0, none⟩ = some (.pointer (some ⟨v, 0, none⟩)) ∧ W'.cell? ⟨bx, 1, none⟩ = some (.int .i64 ((zeros d (lvl W l k) : Nat) : Int)) ∧ Below wb.heap.size wb W') => below_step hBb h.2.2)
      clear hwb hwc1 hwc2 hV hB hVb hBb htF htT hbx hd hf hr0 hsc hmo
      generalize zeros d (lvl W l k) = zz at *
      generalize trk W l c a k = p0 at *
      generalize trk W l c z k = pz at *
      generalize blw W l c a z k = nn at *
      generalize c.testBit d = bb at *
      cases bb with
      | false =>
        clear HRq
        go_wp2_with fail
        go_at_call 51
        refine HBit.out.mono ?_
        rintro e w' ⟨rfl, rfl⟩
        go_upto_region 13 with fail
        clear hx1 hx2
        go_region_held3 (fun w' => w'.cell? ⟨bx, 0, none⟩ = some (.pointer (some ⟨v, 0, none⟩)) ∧ w'.cell? ⟨bx, 1, none⟩ = some (.int .i64 (zz : Int)) ∧ Below wb.heap.size wb w')
          (first | exact keep2D Hx1.out Hx2.out | exact keep2S (by assumption) (by assumption) | exact keep2E Hx1.out Hx2.out (by assumption))
          (first | (go_at_call 52; refine (HF.out _ (by assumption) _).mono ?_; rintro e w5 ⟨rfl, hB5⟩))
        all_goals go_wp2_with fail
        all_goals refine ⟨⟨k + 1, by omega, rfl, by rw [HtF.out], by rw [HtT.out], by rw [Hsc.out]; rfl, HBb.out _ (by first | assumption | exact keep2S (by assumption) (by assumption) | exact keep2E Hx1.out Hx2.out (by assumption))⟩, ?_⟩
        all_goals show W - ((k : Int) + 1).toNat < W - ((k : Int)).toNat
        all_goals omega
      | true =>
        go_wp2_with fail
        go_at_call 51
        refine HBit.out.mono ?_
        rintro e w' ⟨rfl, rfl⟩
        go_upto_region 12 with fail
        go_quiet ((go_at_call 19; exact Calls.quiet_of (HRq.out _ _)))
        clear HRq
        go_upto_region 13 with fail
        clear hx1 hx2
        go_region_held3 (fun w' => w'.cell? ⟨bx, 0, none⟩ = some (.pointer (some ⟨v, 0, none⟩)) ∧ w'.cell? ⟨bx, 1, none⟩ = some (.int .i64 (zz : Int)) ∧ Below wb.heap.size wb w')
          (first | exact keep2M Hx1.out Hx2.out _ | exact keep2N Hx1.out Hx2.out _ | exact keep2S (by assumption) (by assumption) | exact keep2F Hx1.out Hx2.out (by assumption))
          (first | (go_at_call 52; refine (HF.out _ (by assumption) _).mono ?_; rintro e w5 ⟨rfl, hB5⟩))
        all_goals go_wp2_with fail
        all_goals refine ⟨⟨k + 1, by omega, rfl, by rw [HtF.out], by rw [HtT.out], ?_, HBb.out _ (by first | assumption | exact keep2S (by assumption) (by assumption) | exact keep2F Hx1.out Hx2.out (by assumption))⟩, ?_⟩
        · rw [Hsc.out]
          exact congrArg (Value.int IntKind.i64) (by simp only [if_true]; omega)
        · show W - ((k : Int) + 1).toNat < W - ((k : Int)).toNat
          omega
    · obtain rfl : k = W := by omega
      go_wp2_with fail
      go_ret
      exact ⟨rfl, hB⟩
set_option maxRecDepth 100000 in
set_option maxHeartbeats 2000000 in
/-- Below, of any c and any places -/
theorem tbelow_any {w : World} {base b W : Nat} {l : List Nat} (h : TM w base b W l) (c i j : Int) :
    Calls Try.prog 28 #[.pointer (some ⟨b, 0, none⟩), .int .i64 c, .int .i64 i, .int .i64 j] w (IntBelow ((cntB l c (min l.length i.toNat) (min l.length j.toNat) : Nat) : Int) w) := by
  have hI := Lib.hid (within_cell b l.length i w h.c0)
  have hJ := Lib.hid (within_cell b l.length j w h.c0)
  have ha := Nat.min_le_left l.length i.toNat
  have hz := Nat.min_le_left l.length j.toNat
  obtain ⟨a, hae⟩ : ∃ a, min l.length i.toNat = a := ⟨_, rfl⟩
  obtain ⟨z, hze⟩ : ∃ z, min l.length j.toNat = z := ⟨_, rfl⟩
  rw [hae] at hI ha ⊢
  rw [hze] at hJ hz ⊢
  have hlen := h.len
  by_cases hc0 : c ≤ 0
  · rw [cntB_low l c a z hc0]
    by_cases haz : z ≤ a
    · clear hae hze
      go_enter Try.func28, Try.ntmps28
      go_wp2_with fail
      go_at_call 50
      refine hI.out.mono ?_
      rintro e w' ⟨rfl, rfl⟩
      go_wp2_with fail
      go_at_call 50
      refine hJ.out.mono ?_
      rintro e w' ⟨rfl, rfl⟩
      go_wp2_with fail
      go_ret
      exact ⟨rfl, Below.refl _ _⟩
    · have haz2 : a < z := by omega
      clear hae hze haz
      go_enter Try.func28, Try.ntmps28
      go_wp2_with fail
      go_at_call 50
      refine hI.out.mono ?_
      rintro e w' ⟨rfl, rfl⟩
      go_wp2_with fail
      go_at_call 50
      refine hJ.out.mono ?_
      rintro e w' ⟨rfl, rfl⟩
      go_wp2_with fail
      go_ret
      exact ⟨rfl, Below.refl _ _⟩
  by_cases haz : z ≤ a
  · rw [cntB_nil l c a z haz]
    clear hae hze
    go_enter Try.func28, Try.ntmps28
    go_wp2_with fail
    go_at_call 50
    refine hI.out.mono ?_
    rintro e w' ⟨rfl, rfl⟩
    go_wp2_with fail
    go_at_call 50
    refine hJ.out.mono ?_
    rintro e w' ⟨rfl, rfl⟩
    go_wp2_with fail
    go_ret
    exact ⟨rfl, Below.refl _ _⟩
  have haz2 : a < z := by omega
  by_cases hcW : (2 : Int) ^ W ≤ c
  · rw [cntB_all W l c a z hz h.lt hcW]
    have hS := isSym_any h c
    rw [show decide (0 ≤ c ∧ c < 2 ^ W) = false by
      rw [decide_eq_false_iff_not]
      rintro ⟨_, h2⟩
      exact absurd h2 (Int.not_lt.2 hcW)] at hS
    have HS := Lib.hid hS
    clear hS hae hze hcW haz
    go_enter Try.func28, Try.ntmps28
    go_wp2_with fail
    go_at_call 50
    refine hI.out.mono ?_
    rintro e w' ⟨rfl, rfl⟩
    go_wp2_with fail
    go_at_call 50
    refine hJ.out.mono ?_
    rintro e w' ⟨rfl, rfl⟩
    go_wp2_with (go_at_call 49; refine HS.out.mono ?_; rintro e w' ⟨rfl, rfl⟩)
    go_ret
    exact ⟨ret_int (by omega), Below.refl _ _⟩
  · obtain ⟨d, rfl⟩ : ∃ d : Nat, c = (d : Int) := ⟨c.toNat, by omega⟩
    have hd : d < 2 ^ W := by
      have h2 : (d : Int) < (2 : Int) ^ W := Int.not_le.1 hcW
      have h3 : ((d : Nat) : Int) < ((2 ^ W : Nat) : Int) := by rw [Int.natCast_pow]; exact h2
      exact_mod_cast h3
    rw [cntB_blw W]
    exact tbelow_sym h d hd (by omega) i j a z hae hze haz2
end Go.Proofs.Ytfgkkffgcgjhfaa
