/- The law PackedFrom, walked. -/
import Derived.Test.YtbpnidmhbflgfaaPkRefFrom
namespace Go.Proofs.Ytbpnidmhbflgfaa
set_option linter.unusedVariables false
set_option linter.unusedSimpArgs false
open Go.RowKit PkMath

/-- From: words with a bit behind the numbers -/
theorem from_bad (k n m : Nat) (A : Option Addr) (c : Nat) (W : List Nat) (w : World) (hA : Sl w A (V W)) (h1 : 1 ≤ k) (h2 : k ≤ 64) (h3 : n ≤ 1048576) (hM : (k * n + 63) / 64 = m) (hl : W.length = m) (hW : ∀ x ∈ W, x < 2 ^ 64)
    (hz : ¬ ∀ p, k * n ≤ p → p < 64 * W.length → bt W p = false) :
    Calls Try.prog 21 #[.int .i64 (k : Int), .int .i64 (n : Int), .slice A m c] w (FailBelow 3 w) := by
  have hlM : W.length = (k * n + 63) / 64 := by omega
  have hr : 0 < k * n % 64 := by
    refine Nat.pos_of_ne_zero fun e => hz (spare_none hlM e)
  obtain ⟨L, hL⟩ : ∃ L, (k * n + 63) / 64 = L + 1 := ⟨(k * n + 63) / 64 - 1, by omega⟩
  obtain rfl : m = L + 1 := by omega
  refine from_rest k n (k * n) L A c W w hA h1 h2 h3 rfl hL hl hr (fun e => hz ((spare_iff hlM hW hr).1 ?_)) hW
  rw [hl]
  exact e

theorem lawFrom (k0 n0 : Int) (A : Option Addr) (m c : Nat) (W : List Nat) (w : World) (h : Arg w A m c W) :
    Calls Try.prog 7 #[.int .i64 k0, .int .i64 n0, .slice A m c] w (TrueBelow w) := by
  by_cases hbig : 500 < n0
  · go_enter Try.func7, Try.ntmps7
    go_wp2_with fail
    go_ret
    exact ⟨rfl, Below.refl _ _⟩
  by_cases hbig2 : 600 < m
  · go_enter Try.func7, Try.ntmps7
    go_wp2_with fail
    go_ret
    exact ⟨rfl, Below.refl _ _⟩
  obtain ⟨hA, hl, hc, hcn, h64⟩ := h
  have Hl := Lib.hid hl
  have Hc := Lib.hid hcn
  have HO := Lib.hid h64
  clear hl hcn h64
  by_cases hbad : k0 < 1 ∨ 64 < k0 ∨ n0 < 0
  · have Hbad := Lib.hid hbad
    clear hbad
    go_enter Try.func7, Try.ntmps7
    go_wp2_with (at_builtin; refine app_u64 rfl _ _ rfl w.heap.size _ [] rfl (World.ownsRow_made w #[] 0 (Nat.le_refl _) (by decide) (by simp)) A m c W rfl Hc.out Hl.out (hA.below ((Below.refl _ w).alloc (Nat.le_refl _) _)) (by simp; omega) (by simp) ?_; intro v' w1 hown1 hgrow hnil)
    obtain ⟨g, cap, cur, rfl, hg, hblk, hcap, hcs, htake⟩ := own_blk hown1 (fun e => by have := (hnil.1 e).1; cases this)
    have hB1 : Below w.heap.size w w1 := ((Below.refl _ w).alloc (Nat.le_refl _) _).grown hgrow (by simp) (fun k hk => by have hk' : some w.heap.size = some k := hk; injection hk' with hk'; omega)
    rw [List.nil_append] at hcap hcs htake hown1 ⊢
    rw [Hl.out] at hcap hcs htake hown1 ⊢
    have hs1 := sl_take hblk htake
    have hN1 := NumBlk.of_take hblk htake Hl.out
    have hgl := blk_lt hblk
    clear hown1 hgrow hnil hblk htake hcs
    go_wp2_with fail
    refine (from_arg k0 n0 _ _ Hbad.out).mono ?_
    rintro e w2 ⟨rfl, hB2⟩
    have hN2 : NumBlk w2 g m := by
      obtain ⟨cur, hb, hc⟩ := hN1
      exact ⟨cur, (hB2.block g (by omega)).trans hb, hc⟩
    have hB12 := below_trans hB1 hB2
    go_wp2_with fail
    refine (refFrom_arg k0 n0 _ _ Hbad.out).mono ?_
    rintro e w3 ⟨rfl, hB23⟩
    have hN3 : NumBlk w3 g m := by
      obtain ⟨cur, hb, hc⟩ := hN2
      exact ⟨cur, (hB23.block g (by have := hB2.size; omega)).trans hb, hc⟩
    have hB3 := below_trans hB12 hB23
    clear hB1 hB2 hB12 hB23 hN1 hN2 hs1 hgl
    go_wp2_with fail
    go_loopw [12] (fun i wr => ∃ z : Nat, z ≤ m ∧ i = .int .i64 (z : Int) ∧ NumBlk wr g m ∧ Below w.heap.size w wr) (fun i _ => m - (intOf i).toNat)
    case atStart => exact ⟨0, Nat.zero_le _, rfl, hN3, hB3⟩
    case round =>
      clear hN3 hB3
      obtain ⟨z, hz, rfl, hN, hB⟩ := hrel
      by_cases hlz : z < m
      · obtain ⟨y, hy, hfr⟩ := hN.cell hlz
        go_wp2_with fail
        go_roundw
        case rel => exact ⟨z + 1, by omega, by go_num, hN.set z _, hB.setCell hg _⟩
        case measure => simp [intOf]; omega
      · go_wp2_with fail
        refine (known_any _).mono ?_
        rintro e w4 ⟨rfl, hB4⟩
        go_wp2_with fail
        go_ret
        exact ⟨rfl, below_trans hB hB4⟩
  obtain ⟨k, rfl⟩ : ∃ k : Nat, k0 = (k : Int) := ⟨k0.toNat, by omega⟩
  obtain ⟨n, rfl⟩ : ∃ n : Nat, n0 = (n : Int) := ⟨n0.toNat, by omega⟩
  have hk1 : 1 ≤ k := by omega
  have hk2 : k ≤ 64 := by omega
  have hn : n ≤ 500 := by omega
  clear hbad hbig
  obtain ⟨M, hM⟩ : ∃ M, (k * n + 63) / 64 = M := ⟨_, rfl⟩
  have HM := Lib.hid hM
  clear hM
  by_cases hm : m = M
  · subst hm
    by_cases hz : ∀ p, k * n ≤ p → p < 64 * W.length → bt W p = false
    · have Hz := Lib.hid hz
      clear hz
      go_enter Try.func7, Try.ntmps7
      go_wp2_with (at_builtin; refine app_u64 rfl _ _ rfl w.heap.size _ [] rfl (World.ownsRow_made w #[] 0 (Nat.le_refl _) (by decide) (by simp)) A m c W rfl Hc.out Hl.out (hA.below ((Below.refl _ w).alloc (Nat.le_refl _) _)) (by simp; omega) (by simp) ?_; intro v' w1 hown1 hgrow hnil)
      obtain ⟨g, cap, cur, rfl, hg, hblk, hcap, hcs, htake⟩ := own_blk hown1 (fun e => by have := (hnil.1 e).1; cases this)
      have hB1 : Below w.heap.size w w1 := ((Below.refl _ w).alloc (Nat.le_refl _) _).grown hgrow (by simp) (fun k hk => by have hk' : some w.heap.size = some k := hk; injection hk' with hk'; omega)
      rw [List.nil_append] at hcap hcs htake hown1 ⊢
      rw [Hl.out] at hcap hcs htake hown1 ⊢
      have hs1 := sl_take hblk htake
      have hN1 := NumBlk.of_take hblk htake Hl.out
      have hgl := blk_lt hblk
      clear hown1 hgrow hnil hblk htake hcs
      go_wp2_with fail
      refine (from_ok k n m _ _ W _ hs1 hk1 hk2 (by omega) (by rw [Hl.out, HM.out]) Hl.out HO.out Hz.out).mono ?_
      rintro e w2 ⟨b, q, rfl, hP, hbb, hqq, hB2⟩
      have hN2 : NumBlk w2 g m := by
        obtain ⟨cur, hb, hc⟩ := hN1
        exact ⟨cur, (hB2.block g (by omega)).trans hb, hc⟩
      have hB12 := below_trans hB1 hB2
      have hcd : canon k (dec k n W) = W := canon_dec hk1 (by rw [Hl.out, HM.out]) HO.out Hz.out
      have HCD := Lib.hid hcd
      clear hcd
      go_wp2_with fail
      refine (refFrom_any k n m A c W _ (hA.below hB12) hk1 hk2 (by omega) HM.out Hl.out HO.out).mono ?_
      rintro e w3 (⟨_, r, rfl, hr, hrb, hB23⟩ | ⟨hno, _⟩)
      rotate_left
      · exact absurd Hz.out hno
      have hN3 : NumBlk w3 g m := by
        obtain ⟨cur, hb, hc⟩ := hN2
        exact ⟨cur, (hB23.block g (by have := hB2.size; omega)).trans hb, hc⟩
      have hB3 := below_trans hB12 hB23
      have hP3 := hP.below hB23
      have hgb : ¬ b = g := by omega
      have hgq : ¬ q = g := by omega
      have hgr : ¬ r = g := by have := hB2.size; omega
      have hrb2 : w3.heap[r]? = some (.cells (V (dec k n W)).toArray 25 (0, 0)) := hrb
      have hdl : (dec k n W).length = n := dec_length _ _ _
      have HDL := Lib.hid hdl
      clear hB1 hB2 hB12 hB23 hN1 hN2 hs1 hgl hP hbb hqq hr hrb hdl
      rw [HDL.out]
      go_wp2_with fail
      go_loopw [12] (fun i wr => ∃ z : Nat, z ≤ m ∧ i = .int .i64 (z : Int) ∧ NumBlk wr g m ∧ Below w.heap.size w wr ∧ PArr wr b q k (dec k n W) ∧ Hid (wr.heap[r]? = some (.cells (V (dec k n W)).toArray 25 (0, 0)))) (fun i _ => m - (intOf i).toNat)
      case atStart => exact ⟨0, Nat.zero_le _, rfl, hN3, hB3, hP3, hrb2⟩
      case round =>
        clear hN3 hB3 hP3 hrb2
        obtain ⟨z, hz, rfl, hN, hB, hP, hr⟩ := hrel
        by_cases hlz : z < m
        · obtain ⟨y, hy, hfr⟩ := hN.cell hlz
          go_wp2_with fail
          go_roundw
          case rel => exact ⟨z + 1, by omega, by go_num, hN.set z _, hB.setCell hg _, hP.kept (Below.heap_setCell _ _ _ _ hgb) (Below.heap_setCell _ _ _ _ hgq), blk_other hr.out hgr _ _⟩
          case measure => simp [intOf]; omega
        · have hsr := sl_blk hr.out
          go_wp2_with fail
          refine (alike_any hP _ n n hsr HDL.out).mono ?_
          rintro e w4 ⟨rfl, hB4⟩
          have hP4 := hP.below hB4
          have hB5 := below_trans hB hB4
          clear hP hB4 hB hr hsr hN
          go_wp2_with fail
          refine (words_in hP4).mono ?_
          rw [HCD.out]
          rintro e w5 ⟨v, rfl, hown, hB6⟩
          obtain ⟨A5, c5, rfl, hs5, _, _⟩ := own_sl hown
          clear hown
          have hB7 := below_trans hB5 hB6
          clear hB6 hB5 hP4
          rw [Hl.out]
          go_wp2_with fail
          refine (words_same A5 A W m m _ _ _ hs5 (hA.below hB7) Hl.out Hl.out (by omega)).mono ?_
          rintro e w6 ⟨rfl, m6, rfl⟩
          go_wp2_with fail
          refine (known_any _).mono ?_
          rintro e w7 ⟨rfl, hB8⟩
          go_wp2_with fail
          go_ret
          exact ⟨rfl, below_trans (hB7.trans (below_drewN _ _ _)) hB8⟩
    · have Hz := Lib.hid hz
      clear hz
      go_enter Try.func7, Try.ntmps7
      go_wp2_with (at_builtin; refine app_u64 rfl _ _ rfl w.heap.size _ [] rfl (World.ownsRow_made w #[] 0 (Nat.le_refl _) (by decide) (by simp)) A m c W rfl Hc.out Hl.out (hA.below ((Below.refl _ w).alloc (Nat.le_refl _) _)) (by simp; omega) (by simp) ?_; intro v' w1 hown1 hgrow hnil)
      obtain ⟨g, cap, cur, rfl, hg, hblk, hcap, hcs, htake⟩ := own_blk hown1 (fun e => by have := (hnil.1 e).1; cases this)
      have hB1 : Below w.heap.size w w1 := ((Below.refl _ w).alloc (Nat.le_refl _) _).grown hgrow (by simp) (fun k hk => by have hk' : some w.heap.size = some k := hk; injection hk' with hk'; omega)
      rw [List.nil_append] at hcap hcs htake hown1 ⊢
      rw [Hl.out] at hcap hcs htake hown1 ⊢
      have hs1 := sl_take hblk htake
      have hN1 := NumBlk.of_take hblk htake Hl.out
      have hgl := blk_lt hblk
      clear hown1 hgrow hnil hblk htake hcs
      go_wp2_with fail
      refine (from_bad k n m _ _ W _ hs1 hk1 hk2 (by omega) HM.out Hl.out HO.out Hz.out).mono ?_
      rintro e w2 ⟨rfl, hB2⟩
      have hN2 : NumBlk w2 g m := by
        obtain ⟨cur, hb, hc⟩ := hN1
        exact ⟨cur, (hB2.block g (by omega)).trans hb, hc⟩
      have hB12 := below_trans hB1 hB2
      go_wp2_with fail
      refine (refFrom_any k n m A c W _ (hA.below hB12) hk1 hk2 (by omega) HM.out Hl.out HO.out).mono ?_
      rintro e w3 (⟨hno, _⟩ | ⟨_, rfl, hB23⟩)
      · exact absurd hno Hz.out
      have hN3 : NumBlk w3 g m := by
        obtain ⟨cur, hb, hc⟩ := hN2
        exact ⟨cur, (hB23.block g (by have := hB2.size; omega)).trans hb, hc⟩
      have hB3 := below_trans hB12 hB23
      clear hB1 hB2 hB12 hB23 hN1 hN2 hs1 hgl
      go_wp2_with fail
      go_loopw [12] (fun i wr => ∃ z : Nat, z ≤ m ∧ i = .int .i64 (z : Int) ∧ NumBlk wr g m ∧ Below w.heap.size w wr) (fun i _ => m - (intOf i).toNat)
      case atStart => exact ⟨0, Nat.zero_le _, rfl, hN3, hB3⟩
      case round =>
        clear hN3 hB3
        obtain ⟨z, hz, rfl, hN, hB⟩ := hrel
        by_cases hlz : z < m
        · obtain ⟨y, hy, hfr⟩ := hN.cell hlz
          go_wp2_with fail
          go_roundw
          case rel => exact ⟨z + 1, by omega, by go_num, hN.set z _, hB.setCell hg _⟩
          case measure => simp [intOf]; omega
        · go_wp2_with fail
          refine (known_any _).mono ?_
          rintro e w4 ⟨rfl, hB4⟩
          go_wp2_with fail
          go_ret
          exact ⟨rfl, below_trans hB hB4⟩
  · have Hm := Lib.hid hm
    clear hm
    go_enter Try.func7, Try.ntmps7
    go_wp2_with (at_builtin; refine app_u64 rfl _ _ rfl w.heap.size _ [] rfl (World.ownsRow_made w #[] 0 (Nat.le_refl _) (by decide) (by simp)) A m c W rfl Hc.out Hl.out (hA.below ((Below.refl _ w).alloc (Nat.le_refl _) _)) (by simp; omega) (by simp) ?_; intro v' w1 hown1 hgrow hnil)
    obtain ⟨g, cap, cur, rfl, hg, hblk, hcap, hcs, htake⟩ := own_blk hown1 (fun e => by have := (hnil.1 e).1; cases this)
    have hB1 : Below w.heap.size w w1 := ((Below.refl _ w).alloc (Nat.le_refl _) _).grown hgrow (by simp) (fun k hk => by have hk' : some w.heap.size = some k := hk; injection hk' with hk'; omega)
    rw [List.nil_append] at hcap hcs htake hown1 ⊢
    rw [Hl.out] at hcap hcs htake hown1 ⊢
    have hs1 := sl_take hblk htake
    have hN1 := NumBlk.of_take hblk htake Hl.out
    have hgl := blk_lt hblk
    clear hown1 hgrow hnil hblk htake hcs
    go_wp2_with fail
    refine (from_len k n (k * n) M _ m _ _ hk1 hk2 (by omega) rfl HM.out Hm.out (by omega)).mono ?_
    rintro e w2 ⟨rfl, hB2⟩
    have hN2 : NumBlk w2 g m := by
      obtain ⟨cur, hb, hc⟩ := hN1
      exact ⟨cur, (hB2.block g (by omega)).trans hb, hc⟩
    have hB12 := below_trans hB1 hB2
    go_wp2_with fail
    refine (refFrom_len k n (k * n) M _ m _ _ hk1 hk2 (by omega) rfl HM.out Hm.out (by omega)).mono ?_
    rintro e w3 ⟨rfl, hB23⟩
    have hN3 : NumBlk w3 g m := by
      obtain ⟨cur, hb, hc⟩ := hN2
      exact ⟨cur, (hB23.block g (by have := hB2.size; omega)).trans hb, hc⟩
    have hB3 := below_trans hB12 hB23
    clear hB1 hB2 hB12 hB23 hN1 hN2 hs1 hgl
    go_wp2_with fail
    go_loopw [12] (fun i wr => ∃ z : Nat, z ≤ m ∧ i = .int .i64 (z : Int) ∧ NumBlk wr g m ∧ Below w.heap.size w wr) (fun i _ => m - (intOf i).toNat)
    case atStart => exact ⟨0, Nat.zero_le _, rfl, hN3, hB3⟩
    case round =>
      clear hN3 hB3
      obtain ⟨z, hz, rfl, hN, hB⟩ := hrel
      by_cases hlz : z < m
      · obtain ⟨y, hy, hfr⟩ := hN.cell hlz
        go_wp2_with fail
        go_roundw
        case rel => exact ⟨z + 1, by omega, by go_num, hN.set z _, hB.setCell hg _⟩
        case measure => simp [intOf]; omega
      · go_wp2_with fail
        refine (known_any _).mono ?_
        rintro e w4 ⟨rfl, hB4⟩
        go_wp2_with fail
        go_ret
        exact ⟨rfl, below_trans hB hB4⟩

end Go.Proofs.Ytbpnidmhbflgfaa
