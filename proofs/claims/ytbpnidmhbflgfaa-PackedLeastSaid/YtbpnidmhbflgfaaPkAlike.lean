/- haystacklaw3: alike, known. -/
import Derived.Test.YtbpnidmhbflgfaaPkPack
namespace Go.Proofs.Ytbpnidmhbflgfaa
set_option linter.unusedVariables false
set_option linter.unusedSimpArgs false
open Go.RowKit PkMath

theorem PArr.below {w w' : World} {b g k : Nat} {l : List Nat} (h : PArr w b g k l) (hw : Below w.heap.size w w') : PArr w' b g k l :=
  h.kept (hw.block b (blk_lt h.hd)) (hw.block g (blk_lt h.ws))
theorem PArr.drewN {w : World} {b g k : Nat} {l : List Nat} (h : PArr w b g k l) (n : Nat) : PArr (w.drewN n) b g k l := h.kept rfl rfl
theorem below_trans {a b c : World} (h : Below a.heap.size a b) (k : Below b.heap.size b c) : Below a.heap.size a c := h.trans (k.mono h.size)

def TrueBelow (w : World) (e : Ending) (w' : World) : Prop := e = .returned (.bool true) ∧ Below w.heap.size w w'

theorem alike_any {w : World} {b g k : Nat} {l : List Nat} (hP : PArr w b g k l) (A : Option Addr) (n c : Nat) (hA : Sl w A (V l)) (hl : l.length = n) :
    Calls Try.prog 11 #[.pointer (some ⟨b, 0, none⟩), .int .i64 (k : Int), .slice A n c] w (TrueBelow w) := by
  have Hl := Lib.hid hl
  have hn : n ≤ 1048576 := by rw [← hl]; exact hP.len
  have hk1 := hP.k1
  have hk2 := hP.k64
  have hlc : (l.length : Int) = (n : Int) := by rw [hl]
  have h64 : ∀ x ∈ l, x < 2 ^ 64 := fun x hx => Nat.lt_of_lt_of_le (hP.lt x hx) (Nat.pow_le_pow_right (by decide) hk2)
  have H64 := Lib.hid h64
  clear hl h64
  have hc1 := hP.c1
  rw [hlc] at hc1
  clear hlc
  go_enter Try.func11, Try.ntmps11
  go_wp2_with fail
  refine (len_cell b n _ hc1).mono ?_
  rintro e w' ⟨rfl, rfl⟩
  go_wp2_with fail
  refine (width_cell b k _ hP.c0).mono ?_
  rintro e w' ⟨rfl, rfl⟩
  go_wp2_with fail
  refine (words_in hP).mono ?_
  rintro e w1 ⟨v, rfl, hown, hB1⟩
  obtain ⟨A1, c1, rfl, hs1, _, _⟩ := own_sl hown
  clear hown
  go_wp2_with fail
  refine (refWords_any k A l n c w1 hk1 hk2 (hA.below hB1) Hl.out hn H64.out).mono ?_
  rintro e w2 ⟨g2, _, rfl, hblk2, hB2⟩
  have hs2 : Sl w2 (some ⟨g2, 0, none⟩) (V (canon k l)) := sl_blk hblk2
  clear hblk2
  go_wp2_with fail
  refine (words_same A1 _ (canon k l) _ _ _ _ w2 (hs1.below hB2) hs2 rfl rfl (by
    have hkl : k * l.length ≤ 64 * 1048576 := Nat.mul_le_mul hk2 hP.len
    rw [canon_length]; omega)).mono ?_
  rintro e w3 ⟨rfl, m3, rfl⟩
  have hB3 : Below w.heap.size w (w2.drewN m3) := (below_trans hB1 hB2).trans (below_drewN _ _ _)
  have hP3 : PArr (w2.drewN m3) b g k l := hP.below hB3
  have hA3 : Sl (w2.drewN m3) A (V l) := hA.below hB3
  clear hB1 hB2 hs1 hs2
  generalize w2.drewN m3 = w4 at *
  have hc1' : w4.cell? ⟨b, 1, none⟩ = some (.int .i64 (n : Int)) := by rw [hP3.c1, Hl.out]
  clear hc1
  go_wp2_with fail
  refine (get_out b n (-1) w4 hc1' (by omega)).mono ?_
  rintro e w5 ⟨rfl, m5, rfl⟩
  go_wp2_with fail
  refine (get_out b n n (w4.drewN m5) hc1' (by omega)).mono ?_
  rintro e w6 ⟨rfl, m6, rfl⟩
  have hB6 : Below w.heap.size w ((w4.drewN m5).drewN m6) := (hB3.trans (below_drewN _ _ _)).trans (below_drewN _ _ _)
  have hP6 : PArr ((w4.drewN m5).drewN m6) b g k l := (hP3.drewN _).drewN _
  have hA6 : Sl ((w4.drewN m5).drewN m6) A (V l) := (hA3.drewN _).drewN _
  clear hB3 hP3 hA3 hc1'
  generalize (w4.drewN m5).drewN m6 = w7 at *
  go_wp2_with fail
  go_loopw [7] (fun i wr => ∃ j m : Nat, j ≤ n ∧ i = .int .i64 (j : Int) ∧ wr = w7.drewN m) (fun i _ => n - (intOf i).toNat)
  case atStart => exact ⟨0, 0, Nat.zero_le _, rfl, rfl⟩
  case round =>
    obtain ⟨j, m, hj, rfl, rfl⟩ := hrel
    have hP7 := hP6.drewN m
    have hA7 := hA6.drewN m
    have hB7 : Below w.heap.size w (w7.drewN m) := hB6.trans (below_drewN _ _ _)
    obtain ⟨w8, hw8⟩ : ∃ w8, w7.drewN m = w8 := ⟨_, rfl⟩
    have HW8 := Lib.hid hw8
    rw [hw8] at hP7 hA7 hB7 ⊢
    clear hw8
    by_cases hlt : j < n
    · obtain ⟨a, rfl, hca⟩ := hA7.some (j := j) (by rw [V_length, Hl.out]; exact hlt)
      rw [V_get _ _ (by rw [Hl.out]; exact hlt)] at hca
      go_wp2_with fail
      go_quiet ((go_at_call 20; exact Calls.quiet_of (get_in (hP7.drewN _) j (by rw [Hl.out]; exact hlt))))
      go_wp2_with fail
      go_roundw
      case rel => exact ⟨j + 1, m + nq, by omega, by go_num, by rw [← HW8.out]; simp⟩
      case measure => simp [intOf]; omega
    · go_wp2_with fail
      go_ret
      exact ⟨rfl, hB7⟩

theorem wid_known : wid [5, 1, 7] = 3 := by decide +kernel
theorem canon_known : canon 3 [5, 1, 7] = [461] := by decide +kernel

theorem known_any (w : World) : Calls Try.prog 12 #[] w (TrueBelow w) := by
  go_enter Try.func12, Try.ntmps12
  go_wp2_with fail
  refine (pack_any (some ⟨w.heap.size, 0, none⟩) [5, 1, 7] 3 3 _ (sl_blk (heap_alloc_new w _)) rfl (by decide) (by decide) (by decide)).mono ?_
  rintro e w1 ⟨b, g, rfl, hP, hb, hg, hB⟩
  rw [wid_known] at hP
  have hB1 : Below w.heap.size w w1 := ((Below.refl _ w).alloc (Nat.le_refl _) _).trans (hB.mono (by simp))
  clear hB hb hg
  go_wp2_with fail
  refine (width_cell b 3 _ hP.c0).mono ?_
  rintro e w' ⟨rfl, rfl⟩
  go_wp2_with fail
  refine (words_in hP).mono ?_
  rintro e w2 ⟨v, rfl, hown, hB2⟩
  rw [canon_known] at hown
  obtain ⟨A1, c1, rfl, hs1, _, _⟩ := own_sl hown
  clear hown
  have hB3 := below_trans hB1 hB2
  have hP2 := hP.below hB2
  clear hB1 hB2 hP
  go_wp2_with fail
  have hnew : (w2.alloc (.cells (V [461]).toArray 25)).heap[w2.heap.size]? = some (.cells (V [461]).toArray 25 (0, 0)) := heap_alloc_new w2 _
  have hBa : Below w.heap.size w (w2.alloc (.cells (V [461]).toArray 25)) := hB3.alloc hB3.size _
  have hBb : Below w2.heap.size w2 (w2.alloc (.cells (V [461]).toArray 25)) := (Below.refl _ _).alloc (Nat.le_refl _) _
  refine (words_same A1 (some ⟨w2.heap.size, 0, none⟩) [461] _ _ _ _ _ (hs1.below hBb) (sl_blk hnew) rfl rfl (by decide)).mono ?_
  rintro e w3 ⟨rfl, m3, rfl⟩
  have hP3 := (hP2.below hBb).drewN m3
  go_wp2_with fail
  refine (get_in hP3 2 (by decide)).mono ?_
  rintro e w4 ⟨rfl, m4, rfl⟩
  go_wp2_with fail
  go_ret
  exact ⟨rfl, hBa.trans (below_drewN _ _ _)⟩

end Go.Proofs.Ytbpnidmhbflgfaa
