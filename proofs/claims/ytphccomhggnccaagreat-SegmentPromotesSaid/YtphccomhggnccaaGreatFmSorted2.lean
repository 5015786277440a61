/- slices.Collect, Sorted, Compact, BinarySearch at ints, as rows of the call's own. -/
import Derived.Test.YtphccomhggnccaaGreatFmSorted
namespace Go.Proofs.YtphccomhggnccaaGreat
set_option linter.unusedVariables false
set_option linter.unusedSimpArgs false
set_option maxRecDepth 100000
open Go.RowKit Go.Shelf Go.Sort Fm

theorem grown_map (w : World) (blk : Nat) (f : Array Value → Array Value) : w.grownBy (mapBlock w blk f) (some blk) :=
  ⟨rfl, rfl, rfl, by simp [mapBlock], fun k _ hne => by
    have h : blk ≠ k := fun e => hne (by rw [e])
    simp [mapBlock, Array.getElem?_modify, h]⟩
theorem grown_grow (w : World) (os : Array Obj) (r : Option Nat) : w.grownBy (grow w os) r :=
  ⟨rfl, rfl, rfl, by simp [grow], fun k hk _ => by simp [grow, Array.getElem?_append, hk]⟩
theorem grown_put (w : World) (q blk off : Nat) (d : Array Int) : w.grownBy (putRow (Value.int .i64) (Sort.ahead w q) blk off d) (some blk) :=
  grown_trans (b := Sort.ahead w q) ⟨rfl, rfl, rfl, Nat.le_refl _, fun _ _ _ => rfl⟩ (grown_map _ _ _)
theorem put_size (w : World) (q blk off : Nat) (d : Array Int) : (putRow (Value.int .i64) (Sort.ahead w q) blk off d).heap.size = w.heap.size := by
  simp [putRow, mapBlock, Sort.ahead]
theorem holds_grow {w : World} {blk off : Nat} {d : Array Int} (h : Holds (Value.int .i64) w blk off d) (os : Array Obj) : Holds (Value.int .i64) (grow w os) blk off d := fun j hj => by
  obtain ⟨h1, h2⟩ := h j hj
  have hlt := World.block_lt_of_cell? w _ h1
  have e : (grow w os).heap[(⟨blk, off + j, none⟩ : Addr).block]? = w.heap[(⟨blk, off + j, none⟩ : Addr).block]? := by
    simp only [grow]
    rw [Array.getElem?_append_left hlt]
  exact ⟨(World.cell?_of_block e).trans h1, (World.frozen?_of_block e).trans h2⟩
theorem holds_below {w W : World} {blk off : Nat} {d : Array Int} (h : Holds (Value.int .i64) w blk off d) (hb : Below w.heap.size w W) : Holds (Value.int .i64) W blk off d := fun j hj => by
  obtain ⟨h1, h2⟩ := h j hj
  have hlt := World.block_lt_of_cell? w _ h1
  exact ⟨(World.cell?_of_block (hb.block _ hlt)).trans h1, (World.frozen?_of_block (hb.block _ hlt)).trans h2⟩
theorem arr_at (t : List Int) (j : Nat) (h : j < t.length) : (t.toArray)[j]! = t.getD j 0 := arr_get t j h

/-- a slice of the call's own that holds t -/
def OwnH (base : Nat) (W : World) (v : Value) (t : List Int) : Prop :=
  (v = .slice none 0 0 ∧ t = []) ∨ ∃ g cap, v = .slice (some ⟨g, 0, none⟩) t.length cap ∧ base ≤ g ∧ g < W.heap.size ∧ t.length ≤ cap ∧ Holds (Value.int .i64) W g 0 t.toArray
theorem OwnH.below {base : Nat} {w W : World} {v : Value} {t : List Int} (h : OwnH base w v t) (hb : Below w.heap.size w W) : OwnH base W v t := by
  rcases h with h | ⟨g, cap, h1, h2, h3, h4, h5⟩
  · exact .inl h
  · exact .inr ⟨g, cap, h1, h2, Nat.lt_of_lt_of_le h3 hb.size, h4, holds_below h5 hb⟩
theorem own_h {base : Nat} {W : World} {v : Value} {t : List Int} (h : W.ownsRow base 3 1 v t.length (t.map (Value.int .i64))) : OwnH base W v t := by
  rcases h.2 with ⟨rfl, h0⟩ | ⟨g, cap, cur, rfl, hg, hb, hn, hm, hs, ht⟩
  · exact .inl ⟨rfl, List.eq_nil_of_length_eq_zero h0⟩
  · refine .inr ⟨g, cap, rfl, hg, blk_lt hb, hn, fun j hj => ?_⟩
    have hj' : j < t.length := by simpa using hj
    rw [Nat.zero_add, cell_blk hb, frozen_blk hb, arr_at t j hj']
    refine ⟨?_, rfl⟩
    have h1 : (t.map (Value.int .i64))[j]? = some (.int .i64 (t.getD j 0)) := by simp [List.getElem?_eq_getElem hj']
    rw [← ht, List.getElem?_take, if_pos (by omega)] at h1
    simpa using h1

/-- slices.Collect(slices.Values(s)) -/
theorem collect_any (Bv n₀ : Nat) (sv : Value) (xs : List Int) (hlen : xs.length ≤ 1099511627776) (w : World) (hBv : Bv < w.heap.size) (hn0 : n₀ ≤ w.heap.size) (hcv : w.cell? ⟨Bv, 0, none⟩ = some sv) (hL : Ints n₀ w sv xs) :
    Calls Tryz.prog 212 #[.func (.func 214) #[] #[.pointer (some ⟨Bv, 0, none⟩)]] w (Gathers w xs) := by
  have hA := callsIn_wide.1 (appendSeq_any Fence.wide 5 trivial trivial rfl (by omega) Bv n₀ sv xs (by unfold maxLen; omega) (by omega) w hBv hn0 hcv hL)
  have HA := Lib.hid hA
  clear hA hcv hL
  go_enter Tryz.func212, Tryz.ntmps212
  go_wp2_with (go_at_call 224; refine HA.out.mono ?_; rintro e w' ⟨v, rfl, h1, h2, h3⟩)
  go_ret
  exact ⟨v, rfl, h1, h2, h3⟩
/-- a row that a call left, and nothing that lay has turned -/
def Rowed (w : World) (t : List Int) (e : Ending) (W' : World) : Prop := ∃ v, e = .returned v ∧ OwnH w.heap.size W' v t ∧ Below w.heap.size w W'
/-- slices.Sort of a row of the call's own -/
theorem sort_own {base : Nat} {w : World} {v : Value} {t : List Int} (h : OwnH base w v t) (hl : t.length ≤ 1099511627776) (hb : base ≤ w.heap.size) :
    Calls Tryz.prog 213 #[v] w fun e W' => e = .returned (.tuple #[]) ∧ OwnH base W' v (t.mergeSort fun x y => decide (x ≤ y)) ∧ Below base w W' := by
  rcases h with ⟨rfl, rfl⟩ | ⟨g, cap, rfl, hg, hgs, hc, hH⟩
  · refine (Tryz.slices_Sort_int_none none 0 w).mono ?_
    rintro e W' ⟨rfl, rfl⟩
    exact ⟨rfl, .inl ⟨rfl, by simp⟩, Below.refl _ _⟩
  · refine (Tryz.slices_Sort_int g 0 cap t w hH hgs (by omega)).mono ?_
    rintro e W' ⟨rfl, n, os, rfl⟩
    have hms : (t.mergeSort fun x y => decide (x ≤ y)).length = t.length := List.length_mergeSort ..
    have hg1 := grown_trans (grown_put w n g 0 (t.mergeSort fun x y => decide (x ≤ y)).toArray) (grown_grow _ os (some g))
    refine ⟨rfl, .inr ⟨g, cap, by rw [hms], hg, Nat.lt_of_lt_of_le hgs hg1.size, by rw [hms]; exact hc, holds_grow (holds_putRow _ _ _ _ _ _ (holds_ahead _ w n g 0 _ hH) (by simp [hms])) os⟩, grown_below hg1 (fun k hk => by injection hk with hk; omega) hb⟩
/-- slices.Sorted(slices.Values(s)) -/
theorem sorted_any (Bv n₀ : Nat) (sv : Value) (xs : List Int) (hlen : xs.length ≤ 1099511627776) (w : World) (hBv : Bv < w.heap.size) (hn0 : n₀ ≤ w.heap.size) (hcv : w.cell? ⟨Bv, 0, none⟩ = some sv) (hL : Ints n₀ w sv xs) :
    Calls Tryz.prog 187 #[.func (.func 214) #[] #[.pointer (some ⟨Bv, 0, none⟩)]] w (Rowed w (xs.mergeSort fun x y => decide (x ≤ y))) := by
  have HC := Lib.hid (collect_any Bv n₀ sv xs hlen w hBv hn0 hcv hL)
  clear hcv hL
  go_enter Tryz.func187, Tryz.ntmps187
  go_wp2_with fail
  go_at_call 212
  refine HC.out.mono ?_
  rintro e w1 ⟨v, rfl, h1, h2, h3⟩
  have HS := Lib.hid (sort_own (own_h h1) hlen h3.size)
  have H3 := Lib.hid h3
  clear h1 h2 h3 HC
  go_wp2_with fail
  go_at_call 213
  refine HS.out.mono ?_
  rintro e w2 ⟨rfl, h4, h5⟩
  have H4 := Lib.hid h4
  have H5 := Lib.hid (H3.out.trans h5)
  clear h4 h5 HS
  go_wp2_with fail
  go_ret
  exact ⟨v, rfl, H4.out, H5.out⟩
/-- slices.Compact of a row of the call's own -/
theorem compact_own {base : Nat} {w : World} {v : Value} {t : List Int} (h : OwnH base w v t) (hl : t.length ≤ 1099511627776) (hb : base ≤ w.heap.size) :
    Calls Tryz.prog 186 #[v] w fun e W' => ∃ v', e = .returned v' ∧ OwnH base W' v' (Lib.compact t) ∧ Below base w W' := by
  rcases h with ⟨rfl, rfl⟩ | ⟨g, cap, rfl, hg, hgs, hc, hH⟩
  · refine (Tryz.slices_Compact_int_empty none 0 w).mono ?_
    rintro e W' ⟨rfl, rfl⟩
    exact ⟨_, rfl, .inl ⟨rfl, rfl⟩, Below.refl _ _⟩
  · refine (Tryz.slices_Compact_int g 0 cap t w hH (by omega) hc).mono ?_
    rintro e W' ⟨rfl, q, rfl⟩
    have hcl := Fm.compact_len t
    have hg1 := grown_put w q g 0 (Lib.compact t ++ List.replicate (t.length - (Lib.compact t).length) 0).toArray
    have hH2 := holds_putRow (Value.int .i64) _ g 0 _ (Lib.compact t ++ List.replicate (t.length - (Lib.compact t).length) 0).toArray (holds_ahead _ w q g 0 _ hH) (by simp; omega)
    refine ⟨_, rfl, .inr ⟨g, cap, rfl, hg, Nat.lt_of_lt_of_le hgs hg1.size, by omega, fun j hj => ?_⟩, grown_below hg1 (fun k hk => by injection hk with hk; omega) hb⟩
    have hj' : j < (Lib.compact t).length := by simpa using hj
    obtain ⟨a, b⟩ := hH2 j (by simp; omega)
    refine ⟨?_, b⟩
    rw [a, arr_at _ j (by rw [List.length_append]; omega), arr_at _ j hj']
    simp [List.getD, List.getElem?_append_left hj']
/-- slices.BinarySearch in a sorted row of the call's own -/
theorem search_own {base : Nat} {w : World} {v : Value} {t : List Int} (h : OwnH base w v t) (hl : t.length ≤ 1099511627776) (hs : t.Pairwise (· ≤ ·)) (x : Int) :
    Calls Tryz.prog 58 #[v, .int .i64 x] w fun e W' => e = .returned (.tuple #[.int .i64 ((t.countP fun y => decide (y < x) : Nat) : Int), .bool (t.contains x)]) ∧ ∃ q, W' = w.drewN q := by
  rcases h with ⟨rfl, rfl⟩ | ⟨g, cap, rfl, hg, hgs, hc, hH⟩
  · refine (Tryz.slices_BinarySearch_int_empty none 0 x w).mono ?_
    rintro e W' ⟨rfl, rfl⟩
    exact ⟨rfl, 0, rfl⟩
  · have h0 := Tryz.slices_BinarySearch_int g 0 t.length cap t x w (Nat.le_refl _) (by omega) (fun j hj => by
      have := (hH j (by simpa using hj)).1
      rwa [arr_at t j hj] at this) (by rw [List.take_length]; exact hs)
    rw [List.take_length] at h0
    exact h0
end Go.Proofs.YtphccomhggnccaaGreat
