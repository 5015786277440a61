/- The laws' helpers: hits, same, known. -/
import Derived.Test.YtfjhcgmaignaoaaGreatFmRes
import Derived.Lib.SlBytesConst
namespace Go.Proofs.YtfjhcgmaignaoaaGreat
set_option linter.unusedVariables false
set_option linter.unusedSimpArgs false
set_option maxRecDepth 100000
open Go.RowKit Fm Rank

set_option maxHeartbeats 2000000 in
theorem hits_true (w : World) (A B : Option Addr) (n c1 c2 : Nat) (l : List (Int × Int)) (hA : Sl w A (VH l)) (hB : Sl w B (VH l)) (hl : l.length = n) (hn : n ≤ 1099511627776) :
    Calls Tryz.prog 22 #[.slice A n c1, .slice B n c2] w fun e w' => e = .returned (.bool true) ∧ ∃ q, w' = w.drewN q := by
  have HA := Lib.hid hA
  have HB := Lib.hid hB
  have Hl := Lib.hid hl
  clear hA hB hl
  have hd : (n == n) = true := by simp
  go_enter Tryz.func22, Tryz.ntmps22
  go_wp2_with fail
  go_loopw [5] (fun i wr => ∃ j q : Nat, j ≤ n ∧ i = .int .i64 (j : Int) ∧ wr = w.drewN q) (fun i _ => n - (intOf i).toNat)
  case atStart => exact ⟨0, 0, Nat.zero_le _, rfl, rfl⟩
  case round =>
    obtain ⟨j, q, hj, rfl, rfl⟩ := hrel
    by_cases hlt : j < n
    · obtain ⟨ba, oa, rfl, hca⟩ := HA.out.lit (j := j * 2) (by rw [VH_length, Hl.out]; omega)
      obtain ⟨bb, ob, rfl, hcb⟩ := HB.out.lit (j := j * 2) (by rw [VH_length, Hl.out]; omega)
      have hca1 := HA.out.cell _ rfl (j * 2 + 1) _ (VH_get1 l j (by rw [Hl.out]; exact hlt))
      have hcb1 := HB.out.cell _ rfl (j * 2 + 1) _ (VH_get1 l j (by rw [Hl.out]; exact hlt))
      rw [VH_get0 l j (by rw [Hl.out]; exact hlt)] at hca hcb
      rw [show (⟨ba, oa, none⟩ : Addr).add (j * 2 + 1) = ⟨ba, oa + j * 2 + 1, none⟩ by unfold Addr.add; split <;> simp_all; omega] at hca1
      rw [show (⟨bb, ob, none⟩ : Addr).add (j * 2 + 1) = ⟨bb, ob + j * 2 + 1, none⟩ by unfold Addr.add; split <;> simp_all; omega] at hcb1
      generalize l.getD j (0, 0) = h at *
      go_wp2_with fail
      go_quiet (fail)
      go_wp2_with fail
      go_roundw
      case rel => exact ⟨j + 1, q + nq, by omega, by go_num, by simp⟩
      case measure => simp [intOf]; omega
    · obtain rfl : j = n := by omega
      go_wp2_with fail
      go_ret
      exact ⟨rfl, q, rfl⟩
set_option maxHeartbeats 2000000 in
theorem same_true (w : World) (A B : Option Addr) (n c1 c2 : Nat) (l : List Nat) (hA : Sl w A (VY l)) (hB : Sl w B (VY l)) (hl : l.length = n) (hn : n ≤ 1099511627776) :
    Calls Tryz.prog 8 #[.slice A n c1, .slice B n c2] w fun e w' => e = .returned (.bool true) ∧ ∃ q, w' = w.drewN q := by
  have HA := Lib.hid hA
  have HB := Lib.hid hB
  have Hl := Lib.hid hl
  clear hA hB hl
  go_enter Tryz.func8, Tryz.ntmps8
  go_wp2_with fail
  go_loopw [5] (fun i wr => ∃ j q : Nat, j ≤ n ∧ i = .int .i64 (j : Int) ∧ wr = w.drewN q) (fun i _ => n - (intOf i).toNat)
  case atStart => exact ⟨0, 0, Nat.zero_le _, rfl, rfl⟩
  case round =>
    obtain ⟨j, q, hj, rfl, rfl⟩ := hrel
    by_cases hlt : j < n
    · obtain ⟨a, rfl, hca⟩ := HA.out.some (j := j) (by rw [VY_length, Hl.out]; omega)
      obtain ⟨b, rfl, hcb⟩ := HB.out.some (j := j) (by rw [VY_length, Hl.out]; omega)
      rw [VY_get l j (by rw [Hl.out]; exact hlt)] at hca hcb
      generalize l.getD j 0 = h at *
      go_wp2_with fail
      go_quiet (fail)
      go_wp2_with fail
      go_roundw
      case rel => exact ⟨j + 1, q + nq, by omega, by go_num, by simp⟩
      case measure => simp [intOf]; omega
    · obtain rfl : j = n := by omega
      go_wp2_with fail
      go_ret
      exact ⟨rfl, q, rfl⟩
theorem conv_bytes (W : World) (C : Array Value) (b n c : Nat) (hb : W.heap.size = b) :
    (convert 25 25 (.slice (some ⟨b, 0, none⟩) n c)).run Tryz.prog (W.alloc (.cells C 5)) = .ok (.slice (some ⟨b, 0, none⟩) n c) (W.alloc (.cells C 5 (C.size, C.size + 1))) := by
  subst hb
  exact Lib.run_convert_bytes_const W 25 5 C n c Tryz.underlying25 Tryz.underlying5
theorem getD_in2 {α : Type} {l : List (List α)} {i : Nat} (h : i < l.length) : l.getD i [] = l[i] := by simp [List.getD, List.getElem?_eq_getElem h]
theorem build_ok (w : World) (A : Option Addr) (n c : Nat) (ts : List (List Nat)) (hA : RArg w A n c ts) (hn : n ≤ 1099511627776) (hm : (rowT ts).length ≤ 65536) :
    Calls Tryz.prog 7 #[.slice A n c] w (BuiltX w ts) := by
  have hle : ∀ t ∈ ts, t.length ≤ 1099511627776 := by
    intro t ht
    obtain ⟨i, hi, rfl⟩ := List.getElem_of_mem ht
    have h1 := body_take_succ ts i hi
    have h2 := body_take_le ts (i + 1)
    rw [h1, List.length_append, txt_length, getD_in2 hi] at h2
    rw [rowT_length] at hm
    omega
  refine (build_fm w A n c ts hA hn hle).mono ?_
  rintro e w' (⟨_, h⟩ | ⟨h, _⟩)
  · exact h
  · omega
/-- the two texts that each law knows -/
def twoT : List (List Nat) := [[98, 97, 110, 97, 110, 97], [97, 110]]
theorem sl_blkf {w : World} {b : Nat} {xs : List Value} {cs : Array Value} {t : TypeId} {fr : Nat × Nat} (h : w.heap[b]? = some (.cells cs t fr)) (e : cs = xs.toArray) : Sl w (some ⟨b, 0, none⟩) xs := by
  subst e
  exact sl_blk h
set_option maxHeartbeats 4000000 in
theorem known_any (w : World) : Calls Tryz.prog 11 #[] w (TrueBelow w) := by
  have kc := conv_bytes
  go_enter Tryz.func11, Tryz.ntmps11
  go_wp2_with fail
  obtain ⟨w3, hw3⟩ : ∃ w3, ((w.alloc (.cells #[.int .u8 98, .int .u8 97, .int .u8 110, .int .u8 97, .int .u8 110, .int .u8 97] 5 (6, 7))).alloc (.cells #[.int .u8 97, .int .u8 110] 5 (2, 3))).alloc (.cells #[.slice (some ⟨w.heap.size, 0, none⟩) 6 6, .slice (some ⟨w.heap.size + 1, 0, none⟩) 2 2] 25) = w3 := ⟨_, rfl⟩
  have hB3 : Below w.heap.size w w3 := by rw [← hw3]; exact ((((Below.refl _ w).alloc (Nat.le_refl _) _).alloc (by simp) _).alloc (by simp; omega) _)
  have h0 : w3.heap[w.heap.size]? = some (.cells #[.int .u8 98, .int .u8 97, .int .u8 110, .int .u8 97, .int .u8 110, .int .u8 97] 5 (6, 7)) := by
    rw [← hw3]; exact blk_alloc (blk_alloc (World.alloc_heap_new w _) _) _
  have h1 : w3.heap[w.heap.size + 1]? = some (.cells #[.int .u8 97, .int .u8 110] 5 (2, 3)) := by
    rw [← hw3]
    have := World.alloc_heap_new (w.alloc (.cells #[.int .u8 98, .int .u8 97, .int .u8 110, .int .u8 97, .int .u8 110, .int .u8 97] 5 (6, 7))) (.cells #[.int .u8 97, .int .u8 110] 5 (2, 3))
    rw [World.size_alloc] at this
    exact blk_alloc this _
  have h2 : w3.heap[w.heap.size + 1 + 1]? = some (.cells #[.slice (some ⟨w.heap.size, 0, none⟩) 6 6, .slice (some ⟨w.heap.size + 1, 0, none⟩) 2 2] 25 (0, 0)) := by
    rw [← hw3]
    have := World.alloc_heap_new ((w.alloc (.cells #[.int .u8 98, .int .u8 97, .int .u8 110, .int .u8 97, .int .u8 110, .int .u8 97] 5 (6, 7))).alloc (.cells #[.int .u8 97, .int .u8 110] 5 (2, 3))) (.cells #[.slice (some ⟨w.heap.size, 0, none⟩) 6 6, .slice (some ⟨w.heap.size + 1, 0, none⟩) 2 2] 25)
    rw [World.size_alloc, World.size_alloc] at this
    exact this
  have hR : RArg w3 (some ⟨w.heap.size + 1 + 1, 0, none⟩) 2 2 twoT := by
    refine ⟨rfl, by decide, by decide, by decide, fun d hd => ?_⟩
    have hd2 : d = 0 ∨ d = 1 := by omega
    rcases hd2 with rfl | rfl
    · exact ⟨_, some ⟨w.heap.size, 0, none⟩, 6, 6, rfl, (cell_blk h2 0).trans rfl, rfl, by omega, (fun h => (by cases h)), sl_blkf h0 rfl⟩
    · exact ⟨_, some ⟨w.heap.size + 1, 0, none⟩, 2, 2, rfl, (cell_blk h2 1).trans rfl, rfl, by omega, (fun h => (by cases h)), sl_blkf h1 rfl⟩
  have HBd := Lib.hid (build_ok w3 _ 2 2 twoT hR (by omega) (by decide))
  have HB3 := Lib.hid hB3
  rw [hw3]
  clear hw3 h0 h1 h2 hR hB3
  refine HBd.out.mono ?_
  rintro e w4 ⟨x, sa, rfl, hI, hB4⟩
  have HI := Lib.hid hI
  have HB4 := Lib.hid (below_step HB3.out hB4)
  clear hI hB4 HBd
  go_wp2_with fail
  have hI5 := HI.out.below ((Below.refl _ w4).alloc (Nat.le_refl _) (.cells #[.int .u8 97, .int .u8 110] 5 (2, 3)))
  have HLo := Lib.hid (locateT hI5 (some ⟨w4.heap.size, 0, none⟩) 2 2 [97, 110] (sl_blkf (World.alloc_heap_new w4 _) rfl) rfl (by omega) (by decide))
  have hfo : IH (found twoT [97, 110]) = [(0, 1), (0, 3), (1, 0)] := by decide
  rw [hfo] at HLo
  have HI5 := Lib.hid hI5
  have HB5 := Lib.hid (HB4.out.alloc HB4.out.size (.cells #[.int .u8 97, .int .u8 110] 5 (2, 3)))
  clear hI5 hfo
  refine HLo.out.mono ?_
  rintro e w6 ⟨A6, c6, rfl, hS6, hB6⟩
  have HS6 := Lib.hid hS6
  have HI6 := Lib.hid (HI5.out.below hB6)
  have HB6 := Lib.hid (below_step HB5.out hB6)
  clear hS6 hB6 HLo
  go_wp2_with fail
  have HHt := Lib.hid (hits_true (w6.alloc (.cells #[.int .i64 0, .int .i64 1, .int .i64 0, .int .i64 3, .int .i64 1, .int .i64 0] 54)) A6 (some ⟨w6.heap.size, 0, none⟩) 3 c6 3 [(0, 1), (0, 3), (1, 0)] (HS6.out.below ((Below.refl _ _).alloc (Nat.le_refl _) _)) (sl_blkf (World.alloc_heap_new w6 _) rfl) rfl (by omega))
  refine HHt.out.mono ?_
  rintro e w7 ⟨rfl, q7, rfl⟩
  have HI7 := Lib.hid (HI6.out.below (((Below.refl _ w6).alloc (Nat.le_refl _) (.cells #[.int .i64 0, .int .i64 1, .int .i64 0, .int .i64 3, .int .i64 1, .int .i64 0] 54)).trans (below_drewN _ _ q7)))
  have HB7 := Lib.hid ((HB6.out.alloc HB6.out.size (.cells #[.int .i64 0, .int .i64 1, .int .i64 0, .int .i64 3, .int .i64 1, .int .i64 0] 54)).trans (below_drewN _ _ q7))
  clear HHt
  generalize (w6.alloc (.cells #[.int .i64 0, .int .i64 1, .int .i64 0, .int .i64 3, .int .i64 1, .int .i64 0] 54)).drewN q7 = w8 at *
  go_wp2_with fail
  have hI9 := HI7.out.below ((Below.refl _ w8).alloc (Nat.le_refl _) (.cells #[.int .u8 110, .int .u8 97] 5 (2, 3)))
  have HCo := Lib.hid (countT hI9 (some ⟨w8.heap.size, 0, none⟩) 2 2 [110, 97] (sl_blkf (World.alloc_heap_new w8 _) rfl) rfl (by omega) (by decide))
  have hfo : (found twoT [110, 97]).length = 2 := by decide
  rw [hfo] at HCo
  have HB9 := Lib.hid (HB7.out.alloc HB7.out.size (.cells #[.int .u8 110, .int .u8 97] 5 (2, 3)))
  clear hI9 hfo
  refine HCo.out.mono ?_
  rintro e w10 ⟨rfl, hB10⟩
  have HB10 := Lib.hid (below_step HB9.out hB10)
  clear hB10 HCo
  go_wp2_with fail
  go_ret
  exact ⟨rfl, HB10.out⟩
end Go.Proofs.YtfjhcgmaignaoaaGreat
