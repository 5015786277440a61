/- fm: find of nothing, Count. -/
import Derived.Test.YtphccomhggnccaaGreatFmFind
import Derived.Test.YtphccomhggnccaaGreatFmB
import Derived.Test.YtphccomhggnccaaGreatShelf
import Derived.Test.YtphccomhggnccaaGreatFmD
import Derived.Test.YtphccomhggnccaaGreatMakeB
import Derived.StillTailTactics
import Derived.Shelf.SlSortCmp.NoneTotal
import Derived.Test.YtphccomhggnccaaGreatFmA
import Derived.Test.YtphccomhggnccaaGreatShelfH
namespace Go.Proofs.YtphccomhggnccaaGreat
set_option maxRecDepth 100000
set_option linter.unusedVariables false
set_option linter.unusedSimpArgs false
set_option maxRecDepth 100000
open Go.RowKit Fm Rank
def occP (s p : List Nat) : List Nat := if p = [] then [] else occ s (p.map (· + 2))
def FindAll (w : World) (s p : List Nat) (e : Ending) (w' : World) : Prop :=
  ∃ f t : Nat, e = .returned (.tuple #[.int .i64 (f : Int), .int .i64 (t : Int)]) ∧ ((p ≠ [] ∧ f < t ∧ f = cnt s (cut false · (p.map (· + 2))) ∧ t = cnt s (cut true · (p.map (· + 2)))) ∨ (f = 0 ∧ t = 0 ∧ occP s p = [])) ∧ Below w.heap.size w w'

def Zero2 (w : World) (e : Ending) (w' : World) : Prop := e = .returned (.tuple #[.int .i64 0, .int .i64 0]) ∧ Below w.heap.size w w'
set_option maxHeartbeats 2000000 in
theorem find_empty (x t cap : Nat) (A : Option Addr) (w : World) (h0 : w.cell? ⟨x, 0, none⟩ = some (.pointer (some ⟨t, 0, none⟩))) : Calls Tryz.prog 56 #[.pointer (some ⟨x, 0, none⟩), .slice A 0 cap] w (Zero2 w) := by
  have H := Lib.hid (fun (W : World) (hB : Below w.heap.size w W) => whole_any x t W ((hB.cell (p := ⟨x, 0, none⟩) (World.block_lt_of_cell? w _ h0)).trans h0))
  go_enter Tryz.func56, Tryz.ntmps56
  go_wp2_with fail
  go_at_call 64
  refine (H.out _ ((((Below.refl _ w).alloc (Nat.le_refl _) _).alloc (by simp) _).alloc (by simp; omega) _)).mono ?_
  rintro e w' ⟨rfl, rfl⟩
  go_wp2_with fail
  refine bodyPost_ret (v := .tuple #[.int .i64 0, .int .i64 0]) ?_ rfl ⟨rfl, (((Below.refl _ w).alloc (Nat.le_refl _) _).alloc (by simp) _).alloc (by simp; omega) _⟩
  simp [results, Tryz.results56, go_sem]
theorem find_all {w : World} {base x : Nat} {s sa : List Nat} (h : IdxM w base x s sa) (A : Option Addr) (n cap : Nat) (p : List Nat) (hA : Sl w A (VY p)) (hl : p.length = n) (hn : n ≤ 1099511627776) (hb : ∀ c ∈ p, c < 256) :
    Calls Tryz.prog 56 #[.pointer (some ⟨x, 0, none⟩), .slice A n cap] w (FindAll w s p) := by
  by_cases hp : p = []
  · subst hp
    obtain rfl : 0 = n := hl
    obtain ⟨h1, h2, h3, h4, h5, tr, g3, y, yc, mb, pb, pg, kk, rb, r, b1, b2, b3, b4, b5, c0, _⟩ := h
    exact (find_empty x tr cap A w ((cell_blk c0 0).trans rfl)).mono fun e w' ⟨he, hB⟩ => ⟨0, 0, he, .inr ⟨rfl, rfl, rfl⟩, hB⟩
  · refine (find_any h A n cap p hA hl hn hp hb).mono ?_
    rintro e w' ⟨f, t, rfl, h1, hB⟩
    refine ⟨f, t, rfl, ?_, hB⟩
    rcases h1 with ⟨h1, h2, h3⟩ | ⟨h1, h2, h3⟩
    · exact .inl ⟨hp, h1, h2, h3⟩
    · exact .inr ⟨h1, h2, by unfold occP; rw [if_neg hp]; exact h3⟩
theorem find_len {s sa p : List Nat} (h : IsSA s sa) {f t : Nat} (hf : (p ≠ [] ∧ f < t ∧ f = cnt s (cut false · (p.map (· + 2))) ∧ t = cnt s (cut true · (p.map (· + 2)))) ∨ (f = 0 ∧ t = 0 ∧ occP s p = [])) : f ≤ t ∧ t ≤ s.length ∧ t - f = (occP s p).length := by
  rcases hf with ⟨hp, h1, rfl, rfl⟩ | ⟨rfl, rfl, h3⟩
  · refine ⟨by omega, cnt_le _ _, ?_⟩
    unfold occP
    rw [if_neg hp, occ_count]
    omega
  · refine ⟨Nat.le_refl _, Nat.zero_le _, ?_⟩
    rw [h3]; rfl
set_option maxHeartbeats 2000000 in
theorem count_any {w : World} {base x : Nat} {s sa : List Nat} (h : IdxM w base x s sa) (A : Option Addr) (n cap : Nat) (p : List Nat) (hA : Sl w A (VY p)) (hl : p.length = n) (hn : n ≤ 1099511627776) (hb : ∀ c ∈ p, c < 256) :
    Calls Tryz.prog 22 #[.pointer (some ⟨x, 0, none⟩), .slice A n cap] w fun e w' => e = .returned (.int .i64 (((occP s p).length : Nat) : Int)) ∧ Below w.heap.size w w' := by
  have H := Lib.hid (find_all h A n cap p hA hl hn hb)
  have HO := Lib.hid h.ord
  have hsl := h.len
  clear h hA hl hb
  go_enter Tryz.func22, Tryz.ntmps22
  go_wp2_with fail
  go_at_call 56
  refine H.out.mono ?_
  rintro e w' ⟨f, t, rfl, hf, hB⟩
  obtain ⟨h1, h2, h3⟩ := find_len HO.out hf
  have HB := Lib.hid hB
  have H3 := Lib.hid h3
  clear hf hB h3
  have e1 : IntKind.i64.wrap ((t : Int) - (f : Int)) = ((t - f : Nat) : Int) := by rw [IntWalk.i64_in _ (by omega)]; omega
  go_wp2_with fail
  go_ret
  exact ⟨ret_int (by have := H3.out; omega), HB.out⟩
end Go.Proofs.YtphccomhggnccaaGreat
namespace Go.Proofs.YtphccomhggnccaaGreat
set_option maxRecDepth 100000
set_option linter.unusedVariables false
set_option linter.unusedSimpArgs false
open Go.RowKit Fm Rank
theorem stp_sorted (s : List Nat) (j : Nat) : (stp s j).Pairwise (· < ·) := by
  unfold stp
  refine List.pairwise_cons.2 ⟨fun x hx => ?_, ?_⟩
  · obtain ⟨i, _, rfl⟩ := List.mem_map.1 hx
    omega
  · rw [List.pairwise_map]
    exact ((List.pairwise_lt_range).filter _).imp fun h => by omega
theorem count_split (st : List Nat) (hs : st.Pairwise (· < ·)) (p : Nat) : st.countP (fun x => decide (x ≤ p)) = st.countP (fun x => decide (x < p)) + if st.contains p then 1 else 0 := by
  induction st with
  | nil => rfl
  | cons a r ih =>
    obtain ⟨h1, h2⟩ := List.pairwise_cons.1 hs
    have ih := ih h2
    rw [List.countP_cons, List.countP_cons, ih, List.contains_cons]
    by_cases e : p = a
    · subst e
      have hr : r.contains p = false := by
        rw [Bool.eq_false_iff]
        intro h
        have := h1 p (by simpa using h)
        omega
      rw [hr]
      simp
    · have e1 : (p == a) = false := by rw [beq_eq_false_iff_ne]; exact e
      rw [e1, Bool.false_or]
      have e2 : decide (a ≤ p) = decide (a < p) := by rw [decide_eq_decide]; omega
      rw [e2]
      omega
theorem doc_search (s : List Nat) (j p : Nat) : docOf (stp s j) p = (stp s j).countP (fun x => decide (x < p)) - (if (stp s j).contains p then 0 else 1) ∧
    ((stp s j).contains p = false → 1 ≤ (stp s j).countP (fun x => decide (x < p))) ∧ docOf (stp s j) p < (stp s j).length ∧ (stp s j).countP (fun x => decide (x < p)) ≤ (stp s j).length := by
  have h := count_split (stp s j) (stp_sorted s j) p
  have hle := List.countP_le_length (p := fun x => decide (x ≤ p)) (l := stp s j)
  have hle2 := List.countP_le_length (p := fun x => decide (x < p)) (l := stp s j)
  have hpos : 0 < (stp s j).length := by simp [stp]
  have hge : 1 ≤ (stp s j).countP (fun x => decide (x ≤ p)) := by
    unfold stp
    rw [List.countP_cons_of_pos (by simp)]
    omega
  refine ⟨?_, fun e => ?_, ?_, hle2⟩
  · unfold docOf
    rw [h]
    cases (stp s j).contains p <;> simp
  · rw [e] at h
    simp at h
    omega
  · unfold docOf
    omega
theorem doc_le (st : List Nat) (hs : st.Pairwise (· < ·)) (p : Nat) (h : 1 ≤ st.countP fun x => decide (x ≤ p)) : st.getD (docOf st p) 0 ≤ p := by
  have gen : ∀ (st : List Nat), st.Pairwise (· < ·) → ∀ k, k < st.countP (fun x => decide (x ≤ p)) → st.getD k 0 ≤ p := by
    intro st
    induction st with
    | nil => intro _ k hk; cases hk
    | cons a r ih =>
      intro hs k hk
      obtain ⟨h1, h2⟩ := List.pairwise_cons.1 hs
      by_cases ha : a ≤ p
      · rw [List.countP_cons_of_pos (by simpa using ha)] at hk
        cases k with
        | zero => exact ha
        | succ k => exact ih h2 k (by omega)
      · have h0 : r.countP (fun x => decide (x ≤ p)) = 0 := by
          rw [List.countP_eq_zero]
          intro x hx
          have := h1 x hx
          simp; omega
        rw [List.countP_cons_of_neg (by simpa using ha), h0] at hk
        cases hk
  exact gen st hs _ (by unfold docOf; omega)
theorem NI_countP (l : List Nat) (p : Nat) : (NI l).countP (fun y => decide (y < (p : Int))) = l.countP fun x => decide (x < p) := by
  unfold NI
  rw [List.countP_map]
  refine List.countP_congr fun x _ => ?_
  simp
theorem NI_contains (l : List Nat) (p : Nat) : (NI l).contains (p : Int) = l.contains p := by
  induction l with
  | nil => rfl
  | cons a r ih =>
    have : NI (a :: r) = (a : Int) :: NI r := rfl
    rw [this, List.contains_cons, List.contains_cons, ih]
    congr 1
    rw [Bool.eq_iff_iff, beq_iff_eq, beq_iff_eq]
    omega
theorem NI_sorted (l : List Nat) (h : l.Pairwise (· < ·)) : (NI l).Pairwise (· ≤ ·) := by
  unfold NI
  rw [List.pairwise_map]
  exact h.imp fun h => by omega
end Go.Proofs.YtphccomhggnccaaGreat
namespace Go.Proofs.YtphccomhggnccaaGreat
set_option maxRecDepth 100000
set_option linter.unusedVariables false
set_option linter.unusedSimpArgs false
set_option maxRecDepth 100000
open Go.RowKit Fm Go.Shelf
def orI (x y : Int) : Int := if x = 0 then y else x
theorem or_any (b : Nat) (x y : Int) (w : World) (h0 : w.cell? ⟨b, 0, none⟩ = some (.int .i64 x)) (h1 : w.cell? ⟨b, 1, none⟩ = some (.int .i64 y)) :
    Calls Tryz.prog 61 #[.slice (some ⟨b, 0, none⟩) 2 2] w fun e w' => e = .returned (.int .i64 (orI x y)) ∧ w = w' := by
  by_cases hx : x = 0
  · subst hx
    by_cases hy : y = 0
    · subst hy
      go_enter Tryz.func61, Tryz.ntmps61
      go_wp2
      go_loop [8] (fun i => ∃ j : Nat, j ≤ 2 ∧ i = .int .i64 (j : Int)) (fun i => 2 - (intOf i).toNat)
      case atStart => exact ⟨0, by omega, rfl⟩
      case round =>
        obtain ⟨j, hj, rfl⟩ := hrel
        have hj3 : j = 0 ∨ j = 1 ∨ j = 2 := by omega
        rcases hj3 with rfl | rfl | rfl
        · go_wp2
          go_round
          case rel => exact ⟨1, by omega, by go_num⟩
          case measure => simp [intOf]
        · go_wp2
          go_round
          case rel => exact ⟨2, by omega, by go_num⟩
          case measure => simp [intOf]
        · go_wp2
          go_ret
          exact ⟨ret_int (by simp [orI, *]), rfl⟩
    · go_enter Tryz.func61, Tryz.ntmps61
      go_wp2
      go_loop [8] (fun i => ∃ j : Nat, j ≤ 1 ∧ i = .int .i64 (j : Int)) (fun i => 2 - (intOf i).toNat)
      case atStart => exact ⟨0, by omega, rfl⟩
      case round =>
        obtain ⟨j, hj, rfl⟩ := hrel
        have hj3 : j = 0 ∨ j = 1 := by omega
        rcases hj3 with rfl | rfl
        · go_wp2
          go_round
          case rel => exact ⟨1, by omega, by go_num⟩
          case measure => simp [intOf]
        · go_wp2
          go_ret
          exact ⟨ret_int (by simp [orI, *]), rfl⟩
  · go_enter Tryz.func61, Tryz.ntmps61
    go_wp2
    go_loop [8] (fun i => i = .int .i64 0) (fun i => 2 - (intOf i).toNat)
    case atStart => rfl
    case round =>
      obtain rfl := hrel
      go_wp2
      go_ret
      exact ⟨ret_int (by simp [orI, *]), rfl⟩
theorem alloc_grow (w : World) (o : Obj) : w.alloc o = Sort.grow w #[o] := by
  unfold World.alloc Sort.grow
  rw [Array.push_eq_append]
theorem drew_grow (w : World) (os : Array Obj) : (Sort.grow w os).drew = Sort.grow w.drew os := rfl
def cmpHit (a b : Int × Int) : Int := orI (Lib.compareInt a.1 b.1) (Lib.compareInt a.2 b.2)
def encHit (h : Int × Int) : List Value := [.int .i64 h.1, .int .i64 h.2]
set_option maxHeartbeats 2000000 in
theorem less_any (x y : Int × Int) (w : World) :
    Calls Tryz.prog 60 #[.agg (encHit x).toArray, .agg (encHit y).toArray] w fun e w' => e = .returned (.int .i64 (cmpHit x y)) ∧ ∃ q os', w' = Sort.grow (w.drewN q) os' := by
  obtain ⟨x1, x2⟩ := x
  obtain ⟨y1, y2⟩ := y
  unfold encHit
  go_enter Tryz.func60, Tryz.ntmps60
  go_wp2_with fail
  refine wp_region_still_tail 10 (by kernel_rfl) (by kernel_rfl) ?_
  simp only [List.take_succ_cons, List.take_zero, List.drop_succ_cons, List.drop_zero]
  change wpStill _ _ (World.drew _) (fun a' => wpList _ _ _ _ a' (World.drew _)) _ _
  repeat (first | still_step | still_call (Tryz.cmp_Compare_int _ _ _))
  refine wpStill_nil ?_
  obtain ⟨W0, hW0⟩ : ∃ W0, ((w.alloc (.cells #[.int .i64 x1, .int .i64 x2] 55)).alloc (.cells #[.int .i64 y1, .int .i64 y2] 55)).drew = W0 := ⟨_, rfl⟩
  rw [hW0]
  have HW0 := Lib.hid hW0
  clear hW0
  obtain ⟨c1, hc1⟩ : ∃ c, Lib.compareInt x1 y1 = c := ⟨_, rfl⟩
  obtain ⟨c2, hc2⟩ : ∃ c, Lib.compareInt x2 y2 = c := ⟨_, rfl⟩
  have HC : Hid (cmpHit (x1, x2) (y1, y2) = orI c1 c2) := by rw [← hc1, ← hc2]; rfl
  rw [hc1, hc2]
  clear hc1 hc2
  have h0 := (cell_blk (heap_alloc_new W0 (.cells #[.int .i64 c1, .int .i64 c2] 3)) 0).trans rfl
  have h1 := (cell_blk (heap_alloc_new W0 (.cells #[.int .i64 c1, .int .i64 c2] 3)) 1).trans rfl
  have HO := Lib.hid (or_any W0.heap.size c1 c2 _ h0 h1)
  clear h0 h1
  go_wp2_with fail
  go_at_call 61
  refine HO.out.mono ?_
  rintro e w' ⟨rfl, rfl⟩
  go_wp2_with fail
  go_ret
  refine ⟨ret_int HC.out.symm, 1, #[.cells #[.int .i64 x1, .int .i64 x2] 55, .cells #[.int .i64 y1, .int .i64 y2] 55, .cells #[.int .i64 c1, .int .i64 c2] 3], ?_⟩
  rw [← HW0.out, alloc_grow, alloc_grow, alloc_grow, Sort.grow_grow, drew_grow, Sort.grow_grow]
  rfl
end Go.Proofs.YtphccomhggnccaaGreat
namespace Go.Proofs.YtphccomhggnccaaGreat
set_option maxRecDepth 100000
set_option linter.unusedVariables false
set_option linter.unusedSimpArgs false
set_option maxRecDepth 100000
open Go.RowKit Fm Go.Shelf Go.Sort
def VH (l : List (Int × Int)) : List Value := l.flatMap encHit
theorem VH_cons (a : Int × Int) (r : List (Int × Int)) : VH (a :: r) = .int .i64 a.1 :: .int .i64 a.2 :: VH r := rfl
theorem VH_length (l : List (Int × Int)) : (VH l).length = l.length * 2 := by
  induction l with
  | nil => rfl
  | cons a r ih => rw [VH_cons, List.length_cons, List.length_cons, ih, List.length_cons]; omega
theorem VH_append (l m : List (Int × Int)) : VH (l ++ m) = VH l ++ VH m := by simp [VH]
theorem VH_one (l : List (Int × Int)) : ∀ u ∈ VH l, u.oneCell' = true := by
  intro u hu
  obtain ⟨h, _, hh⟩ := List.mem_flatMap.1 hu
  unfold encHit at hh
  simp at hh
  rcases hh with rfl | rfl <;> rfl
theorem VH_get0 (l : List (Int × Int)) (i : Nat) (h : i < l.length) : (VH l)[i * 2]? = some (.int .i64 (l.getD i (0, 0)).1) := by
  induction l generalizing i with
  | nil => cases h
  | cons a r ih =>
    rw [VH_cons]
    cases i with
    | zero => rfl
    | succ i => rw [show (i + 1) * 2 = i * 2 + 1 + 1 by omega]; exact ih i (by simpa using h)
theorem VH_get1 (l : List (Int × Int)) (i : Nat) (h : i < l.length) : (VH l)[i * 2 + 1]? = some (.int .i64 (l.getD i (0, 0)).2) := by
  induction l generalizing i with
  | nil => cases h
  | cons a r ih =>
    rw [VH_cons]
    cases i with
    | zero => rfl
    | succ i => rw [show (i + 1) * 2 + 1 = i * 2 + 1 + 1 + 1 by omega]; exact ih i (by simpa using h)
theorem VH_flat (l : List (Int × Int)) (t : Nat) (h : t < l.length * 2) : (VH l)[t]? = some ((flatK encHit 2 l.toArray)[t]!) := by
  rw [get_flatK _ _ _ _ (by simpa using h)]
  have hi : t / 2 < l.length := by omega
  have e : l.toArray[t / 2]! = l.getD (t / 2) (0, 0) := by
    simp [List.getD, getElem!_def, List.getElem?_eq_getElem hi]
  rw [e]
  rcases Nat.mod_two_eq_zero_or_one t with hm | hm
  · rw [hm]
    have := VH_get0 l (t / 2) hi
    rw [show t / 2 * 2 = t by omega] at this
    exact this
  · rw [hm]
    have := VH_get1 l (t / 2) hi
    rw [show t / 2 * 2 + 1 = t by omega] at this
    exact this
theorem holds_hits {w : World} {base g n cap : Nat} {e : TypeId} {l : List (Int × Int)} (h : w.ownsRow base e 2 (.slice (some ⟨g, 0, none⟩) n cap) l.length (VH l)) : HoldsK encHit 2 w g 0 l.toArray := by
  intro j hj
  have hj' : j < l.length * 2 := by simpa using hj
  have hf := VH_flat l j hj'
  rcases h.2 with ⟨h0, _⟩ | ⟨g', cap', cur, h0, hg, hb, hn, hm, hs, ht⟩
  · cases h0
  · injection h0 with h1 h2 h3
    injection h1 with h1
    injection h1 with h1
    subst h1
    rw [Nat.zero_add, cell_blk hb, frozen_blk hb]
    refine ⟨?_, rfl⟩
    rw [← ht, List.getElem?_take, if_pos hj'] at hf
    simpa using hf
theorem sl_hits {w : World} {g : Nat} {l : List (Int × Int)} (h : HoldsK encHit 2 w g 0 l.toArray) : Sl w (some ⟨g, 0, none⟩) (VH l) :=
  ⟨fun e => (by cases e), fun a ha j u hu => by
    cases ha
    have hj : j < l.length * 2 := by
      rcases Nat.lt_or_ge j (l.length * 2) with h1 | h1
      · exact h1
      · rw [List.getElem?_eq_none (by rw [VH_length]; exact h1)] at hu; cases hu
    have h1 := (h j (by simpa using hj)).1
    rw [Nat.zero_add] at h1
    rw [show (⟨g, 0, none⟩ : Addr).add j = ⟨g, j, none⟩ by unfold Addr.add; split <;> simp_all, h1, ← hu, VH_flat l j hj]
    rfl⟩
theorem grown_putK (w : World) (q blk off : Nat) (d : Array (Int × Int)) : w.grownBy (putRowK encHit 2 (Sort.ahead w q) blk off d) (some blk) :=
  grown_trans (b := Sort.ahead w q) ⟨rfl, rfl, rfl, Nat.le_refl _, fun _ _ _ => rfl⟩ (grown_map _ _ _)
def leHit (a b : Int × Int) : Bool := !(ltOf cmpHit) b a
theorem ltHit (a b : Int × Int) : ltOf cmpHit a b = true ↔ a.1 < b.1 ∨ (a.1 = b.1 ∧ a.2 < b.2) := by
  have hc : ∀ x y : Int, (x < y ∧ Lib.compareInt x y = -1) ∨ (x = y ∧ Lib.compareInt x y = 0) ∨ (y < x ∧ Lib.compareInt x y = 1) := by
    intro x y
    unfold Lib.compareInt
    by_cases h1 : x < y
    · exact .inl ⟨h1, by rw [if_pos h1]⟩
    · by_cases h2 : x > y
      · exact .inr (.inr ⟨h2, by rw [if_neg h1, if_pos h2]⟩)
      · exact .inr (.inl ⟨by omega, by rw [if_neg h1, if_neg h2]⟩)
  unfold ltOf cmpHit orI
  rw [decide_eq_true_iff]
  rcases hc a.1 b.1 with ⟨h1, h2⟩ | ⟨h1, h2⟩ | ⟨h1, h2⟩ <;> rcases hc a.2 b.2 with ⟨h3, h4⟩ | ⟨h3, h4⟩ | ⟨h3, h4⟩ <;> rw [h2, h4] <;> simp <;> omega
theorem swoHit : SWO (ltOf cmpHit) := by
  have hf : ∀ a b, ltOf cmpHit a b = false ↔ ¬ (a.1 < b.1 ∨ (a.1 = b.1 ∧ a.2 < b.2)) := fun a b => by rw [← ltHit, Bool.not_eq_true]
  refine ⟨fun x => ?_, fun x y z => ?_, fun x y z => ?_⟩
  · rw [hf]; omega
  · rw [ltHit, ltHit, ltHit]; omega
  · rw [hf, hf, hf]; omega
set_option maxHeartbeats 1000000 in
theorem sortHit_any {base : Nat} {w : World} {v : Value} {l : List (Int × Int)} (h : w.ownsRow base 55 2 v l.length (VH l)) (hl : l.length ≤ 1099511627776) (hb : base ≤ w.heap.size) :
    Calls Tryz.prog 59 #[v, .func (.func 60) #[] #[]] w fun e w' => e = .returned (.tuple #[]) ∧ (∃ A c, v = .slice A l.length c ∧ Sl w' A (VH (l.mergeSort leHit))) ∧ Below base w w' := by
  rcases h.2 with ⟨rfl, h0⟩ | ⟨g, cap, cur, rfl, hg, hbk, hn, hm, hs, ht⟩
  · obtain rfl := List.eq_nil_of_length_eq_zero h0
    refine (AnyF.slices_SortFunc_none Tryz.sortHit none 0 _ w).mono ?_
    rintro e w' ⟨rfl, hw⟩
    subst hw
    exact ⟨rfl, ⟨none, 0, rfl, by simpa [VH] using sl_nil _⟩, Below.refl _ _⟩
  · have hH := holds_hits h
    have hgs := blk_lt hbk
    have := (AnyQ.slices_SortFunc_total Tryz.sortHit 2 (fun _ => by kernel_rfl) (fun _ => by kernel_rfl) encHit (fun _ => rfl) (fun x v hv => by unfold encHit at hv; simp at hv; rcases hv with rfl | rfl <;> rfl) cmpHit swoHit 60 #[] g 0 cap l.toArray w (fun _ _ => rfl)
      (fun m os dk hd x y => less_any x y _) hH hgs (by simp; omega)
      (fun x y h1 h2 => by
        have h3 : ¬ _ := fun h => by rw [(ltHit x y).2 h] at h1; cases h1
        have h4 : ¬ _ := fun h => by rw [(ltHit y x).2 h] at h2; cases h2
        apply Prod.ext <;> omega)).mono (R' := fun e w' => e = .returned (.tuple #[]) ∧ (∃ A c, Value.slice (some ⟨g, 0, none⟩) l.length cap = .slice A l.length c ∧ Sl w' A (VH (l.mergeSort leHit))) ∧ Below base w w') ?_
    · rw [List.size_toArray] at this
      exact this
    · rintro e w' ⟨rfl, n, os, rfl⟩
      have hms : (l.mergeSort leHit).length = l.length := List.length_mergeSort ..
      have e1 : (l.toArray.toList.mergeSort fun x y => !(ltOf cmpHit) y x).toArray = (l.mergeSort leHit).toArray := by
        simp only []
        rfl
      rw [e1]
      refine ⟨rfl, ⟨_, _, rfl, sl_hits (holdsK_sortWorldK_c encHit 2 w g 0 l.toArray (l.mergeSort leHit).toArray n os hH hgs (by simp [hms]))⟩, ?_⟩
      exact grown_below (grown_trans (grown_putK w n g 0 _) (grown_grow _ os (some g))) (fun k hk => by injection hk with hk; omega) hb
end Go.Proofs.YtphccomhggnccaaGreat
namespace Go.Proofs.YtphccomhggnccaaGreat
set_option maxRecDepth 100000
set_option linter.unusedVariables false
set_option linter.unusedSimpArgs false
set_option maxRecDepth 100000
open Go.RowKit Fm Rank
theorem info_hit : (Tryz.prog.info? 55).map (fun i => (i.zero, i.size, i.bytes)) = some (some (.agg #[.int .i64 0, .int .i64 0]), 2, 16) := by kernel_rfl
theorem app_hit {w : World} {ops : Array Oper} {rest : List Oper} {o : Oper} {a : Act} {Q : Exit → Act → World → Prop} (hgd : o.guard = none) (s x : Operand)
    (ho : o.op = .call { callee := .builtin .append, args := #[s, x], argTypes := #[49, 49] })
    (base : Nat) (v : Value) (xs : List (Int × Int)) (hs : a.eval s = v) (hown : w.ownsRow base 55 2 v xs.length (VH xs))
    (ad : Addr) (m c : Nat) (news : List (Int × Int)) (hx : a.eval x = .slice (some ad) m c) (hl : news.length = m) (hnews : Sl w (some ad) (VH news))
    (h63 : xs.length + m ≤ 1099511627776) (hbase : base ≤ w.heap.size)
    (h : ∀ v' w', w'.ownsRow base 55 2 v' (xs ++ news).length (VH (xs ++ news)) → w.grownBy w' v.ownBlock → wpList Tryz.prog ops Q rest (a.put o.dst v') w') : wpList Tryz.prog ops Q (o :: rest) a w := by
  obtain ⟨i0, hi, hz0, hz1, hz2⟩ := info_parts info_hit
  refine wpList_append_own w hgd s x 49 ho base 55 i0 (.agg #[.int .i64 0, .int .i64 0]) 2 16 Tryz.underlying49 hi hz0 hz1 hz2 rfl (by decide) v xs.length (VH xs) hs hown ad m c (VH news) hx (by rw [VH_length]; omega) (hnews.cell ad rfl) (VH_one _) (by unfold maxLen; omega) (by omega) hbase ?_
  intro v' w' h1 h2 h3
  refine h v' w' ?_ h2
  rw [List.length_append, hl, VH_append]
  exact h1
theorem own_form2 {w : World} {base : Nat} {e : TypeId} {v : Value} {n : Nat} {xs : List Value} (h : w.ownsRow base e 2 v n xs) : ∃ A c, v = .slice A n c := by
  rcases h.2 with ⟨rfl, rfl⟩ | ⟨g, cap, cur, rfl, _⟩
  · exact ⟨none, 0, rfl⟩
  · exact ⟨_, _, rfl⟩
def hitS (s : List Nat) (p : Nat) : Int × Int := (((docOf (stp s s.length) p : Nat) : Int), ((p - (stp s s.length).getD (docOf (stp s s.length) p) 0 : Nat) : Int))
def fnd (s sa : List Nat) (f j : Nat) : List (Int × Int) := (List.range j).map fun i => hitS s (sa.getD (f + i) 0)
theorem fnd_succ (s sa : List Nat) (f j : Nat) : fnd s sa f (j + 1) = fnd s sa f j ++ [hitS s (sa.getD (f + j) 0)] := by simp [fnd, List.range_succ]
theorem fnd_length (s sa : List Nat) (f j : Nat) : (fnd s sa f j).length = j := by simp [fnd]
def Hits (w : World) (l : List (Int × Int)) (e : Ending) (w' : World) : Prop := ∃ A c, e = .returned (.slice A l.length c) ∧ Sl w' A (VH l) ∧ Below w.heap.size w w'
set_option maxHeartbeats 4000000 in
theorem locate_any {w : World} {base x : Nat} {s sa : List Nat} (h : IdxM w base x s sa) (A : Option Addr) (n cap : Nat) (p : List Nat) (hA : Sl w A (VY p)) (hl : p.length = n) (hn : n ≤ 1099511627776) (hb : ∀ c ∈ p, c < 256) :
    Calls Tryz.prog 20 #[.pointer (some ⟨x, 0, none⟩), .slice A n cap] w fun e w' => ∃ f t : Nat, ((p ≠ [] ∧ f < t ∧ f = cnt s (cut false · (p.map (· + 2))) ∧ t = cnt s (cut true · (p.map (· + 2)))) ∨ (f = 0 ∧ t = 0 ∧ occP s p = [])) ∧ Hits w ((fnd s sa f (t - f)).mergeSort leHit) e w' := by
  have HF := Lib.hid (find_all h A n cap p hA hl hn hb)
  have HI := Lib.hid h
  have HO := Lib.hid h.ord
  have hsl := h.len
  clear hA hl hb h
  go_enter Tryz.func20, Tryz.ntmps20
  go_wp2_with fail
  go_at_call 56
  refine HF.out.mono ?_
  rintro e w1 ⟨f, t, rfl, hf, hB1⟩
  obtain ⟨h1, h2, h3⟩ := find_len HO.out hf
  have Hf := Lib.hid hf
  have HB1 := Lib.hid hB1
  clear hf h3 HF
  have hb1 := hB1.size
  clear hB1
  go_wp2_with fail
  go_loopw [5, 8, 9, 10, 11, 19] (fun l q s9 s10 s11 q2 wr => ∃ j : Nat, f + j ≤ t ∧ q = .int .i64 ((f + j : Nat) : Int) ∧ wr.ownsRow w1.heap.size 55 2 l j (VH (fnd s sa f j)) ∧ Below w1.heap.size w1 wr) (fun _ q _ _ _ _ _ => t - (intOf q).toNat)
  case atStart => exact ⟨0, by omega, rfl, World.ownsRow_nil _ _ _ _, Below.refl _ _⟩
  case round =>
    obtain ⟨j, hj, rfl, hown, hB⟩ := hrel
    obtain ⟨i, hi⟩ : ∃ i, f + j = i := ⟨_, rfl⟩
    by_cases hlt : i < t
    · have hIw := (HI.out.below (below_step HB1.out hB))
      have HP := Lib.hid (place_any hIw i (by omega))
      have hpl : sa.getD i 0 < s.length := HO.out.lt (by rw [getD_at (by rw [HO.out.length]; omega)]; exact List.getElem_mem _)
      obtain ⟨g1, g2, g3, g4, g5, tr, gg, y, yc, mb, pb, pg, kk, rb, r, b1, b2, b3, b4, b5, c0, c1, c2, ⟨cur, c3, c3t⟩, c4, c5, c6, c7, c8⟩ := hIw
      have HX := Lib.hid c0
      have HY := Lib.hid c3
      have Hyt := Lib.hid c3t
      obtain ⟨hd1, hd2, hd3, hd4⟩ := doc_search s s.length (sa.getD i 0)
      have hle9 := doc_le (stp s s.length) (stp_sorted s s.length) (sa.getD i 0) (by
        have := count_split (stp s s.length) (stp_sorted s s.length) (sa.getD i 0)
        cases hcn : (stp s s.length).contains (sa.getD i 0) with
        | true => rw [hcn, if_pos rfl] at this; omega
        | false => have := hd2 hcn; rename_i h9; omega)
      have hsle := stp_le s s.length
      have hyl : (stp s s.length).length ≤ yc := c4
      have hstI : (NI (stp s s.length)).Pairwise (· ≤ ·) := NI_sorted _ (stp_sorted s s.length)
      have HstI := Lib.hid hstI
      have hh : hitS s (sa.getD i 0) = (((docOf (stp s s.length) (sa.getD i 0) : Nat) : Int), ((sa.getD i 0 - (stp s s.length).getD (docOf (stp s s.length) (sa.getD i 0)) 0 : Nat) : Int)) := rfl
      have Hsu := Lib.hid (fnd_succ s sa f j)
      rw [hi, hh] at Hsu
      have HSt := Lib.hid (sl_take c3 c3t)
      have hcd := sl_cell HSt.out (VI_get (NI (stp s s.length)) (docOf (stp s s.length) (sa.getD i 0)) (by rw [NI_length]; exact hd3))
      rw [NI_getD _ _ hd3] at hcd
      have Hcn := Lib.hid (NI_countP (stp s s.length) (sa.getD i 0))
      have Hct := Lib.hid (NI_contains (stp s s.length) (sa.getD i 0))
      have HOw : Hid (∀ W', Below wr.heap.size wr W' → OwnH 0 W' (.slice (some ⟨y, 0, none⟩) (stp s s.length).length yc) (NI (stp s s.length))) := fun W' hb => by
        have hb' := (hb.block y (blk_lt c3)).trans c3
        refine .inr ⟨y, yc, by rw [NI_length], Nat.zero_le _, blk_lt hb', by rw [NI_length]; exact hyl, fun k hk => ?_⟩
        have hk' : k < (NI (stp s s.length)).length := by simpa using hk
        rw [Nat.zero_add, cell_blk hb', frozen_blk hb', arr_at _ _ hk']
        refine ⟨?_, rfl⟩
        have h1 := VI_get (NI (stp s s.length)) k hk'
        rw [← c3t, List.getElem?_take, if_pos (by rw [NI_length] at hk'; exact hk')] at h1
        simpa using h1
      clear c1 c2 c3 c3t c4 c5 c6 c7 c8 g1 g2 g3 g4 g5 b1 b2 b3 b4 b5 c0 hh hstI
      generalize sa.getD i 0 = pp at *
      generalize docOf (stp s s.length) pp = d at *
      generalize (stp s s.length).getD d 0 = sv at *
      generalize (stp s s.length).countP (fun x => decide (x < pp)) = q at *
      rw [hi]
      have HB := Lib.hid hB
      obtain ⟨A5, c5, hv5⟩ := own_form2 hown
      subst hv5
      have Hown := Lib.hid hown
      clear hown hB
      by_cases hcn : (stp s s.length).contains pp = true
      · rw [hcn] at Hct hd1
        go_wp2_with fail
        go_at_call 57
        refine HP.out.mono ?_
        rintro e w2 ⟨rfl, hB2⟩
        have hc2 := (cell_blk ((hB2.block x (blk_lt HX.out)).trans HX.out) 2).trans rfl
        have HB2 := Lib.hid hB2
        have hcd2 := (hB2.cell (p := ⟨y, d, none⟩) (World.block_lt_of_cell? _ _ hcd)).trans hcd
        have HSr := Lib.hid (search_own (HOw.out w2 hB2) (by rw [NI_length]; omega) HstI.out (pp : Int))
        rw [Hcn.out, Hct.out] at HSr
        clear hB2 hcd
        go_wp2_with fail
        go_at_call 58
        refine HSr.out.mono ?_
        rintro e w3 ⟨rfl, nn, rfl⟩
        obtain rfl : d = q := by simpa using hd1
        have e1 : (0 : Int) ≤ (d : Int) := by omega
        have e2 : (d : Int) < ((stp s s.length).length : Int) := by omega
        have e3 : IntKind.i64.wrap ((pp : Int) - (sv : Int)) = ((pp - sv : Nat) : Int) := by rw [IntWalk.i64_in _ (by omega)]; omega
        clear HSr hd1
        have hB3 := HB2.out.trans (below_drewN wr.heap.size w2 nn)
        have hs3 := hB3.size
        have hown3 : (w2.drewN nn).ownsRow w1.heap.size 55 2 (.slice A5 j c5) (fnd s sa f j).length (VH (fnd s sa f j)) := by rw [fnd_length]; exact own_below Hown.out hB3
        have HB3 := Lib.hid hB3
        have hlw := World.ownsRow.lt Hown.out
        have Hlw := Lib.hid hlw
        have hszB := HB.out.size
        clear hB3 hlw
        go_wp2_with (at_builtin; refine app_hit rfl _ _ rfl w1.heap.size _ (fnd s sa f j) rfl (World.ownsRow.alloc hown3 _) ⟨(w2.drewN nn).heap.size, 0, none⟩ 1 1 [((d : Int), ((pp - sv : Nat) : Int))] rfl rfl (sl_blk (heap_alloc_new (w2.drewN nn) _)) (by rw [fnd_length]; omega) (by simp at hs3 ⊢; omega) ?_; intro v6 w6 hown6 hg6)
        have Hown6 := Lib.hid hown6
        have Hg6 := Lib.hid hg6
        clear hown6 hg6 hown3
        go_roundw
        case rel =>
          have h9 := Hown6.out
          rw [← Hsu.out, fnd_length] at h9
          refine ⟨j + 1, by omega, congrArg (Value.int .i64) (by omega), h9, ?_⟩
          exact ((HB.out.trans (HB3.out.mono hszB)).alloc (by simp at hs3 ⊢; omega) _).grown Hg6.out (by simp at hs3 ⊢; omega) (fun k hk => (Hlw.out k hk).1)
        case measure =>
          show t - ((i : Int) + 1).toNat < t - ((i : Int)).toNat
          omega
      · have hcf : (stp s s.length).contains pp = false := by simpa using hcn
        have hq1 := hd2 hcf
        rw [hcf] at Hct hd1
        go_wp2_with fail
        go_at_call 57
        refine HP.out.mono ?_
        rintro e w2 ⟨rfl, hB2⟩
        have hc2 := (cell_blk ((hB2.block x (blk_lt HX.out)).trans HX.out) 2).trans rfl
        have HB2 := Lib.hid hB2
        have hcd2 := (hB2.cell (p := ⟨y, d, none⟩) (World.block_lt_of_cell? _ _ hcd)).trans hcd
        have HSr := Lib.hid (search_own (HOw.out w2 hB2) (by rw [NI_length]; omega) HstI.out (pp : Int))
        rw [Hcn.out, Hct.out] at HSr
        clear hB2 hcd
        go_wp2_with fail
        go_at_call 58
        refine HSr.out.mono ?_
        rintro e w3 ⟨rfl, nn, rfl⟩
        obtain rfl : q = d + 1 := by
          simp at hd1
          omega
        have e1 : (0 : Int) ≤ (d : Int) := by omega
        have e2 : (d : Int) < ((stp s s.length).length : Int) := by omega
        have e3 : IntKind.i64.wrap ((pp : Int) - (sv : Int)) = ((pp - sv : Nat) : Int) := by rw [IntWalk.i64_in _ (by omega)]; omega
        clear HSr hd1
        have hB3 := HB2.out.trans (below_drewN wr.heap.size w2 nn)
        have hs3 := hB3.size
        have hown3 : (w2.drewN nn).ownsRow w1.heap.size 55 2 (.slice A5 j c5) (fnd s sa f j).length (VH (fnd s sa f j)) := by rw [fnd_length]; exact own_below Hown.out hB3
        have HB3 := Lib.hid hB3
        have hlw := World.ownsRow.lt Hown.out
        have Hlw := Lib.hid hlw
        have hszB := HB.out.size
        clear hB3 hlw
        go_wp2_with (at_builtin; refine app_hit rfl _ _ rfl w1.heap.size _ (fnd s sa f j) rfl (World.ownsRow.alloc hown3 _) ⟨(w2.drewN nn).heap.size, 0, none⟩ 1 1 [((d : Int), ((pp - sv : Nat) : Int))] rfl rfl (sl_blk (heap_alloc_new (w2.drewN nn) _)) (by rw [fnd_length]; omega) (by simp at hs3 ⊢; omega) ?_; intro v6 w6 hown6 hg6)
        have Hown6 := Lib.hid hown6
        have Hg6 := Lib.hid hg6
        clear hown6 hg6 hown3
        go_roundw
        case rel =>
          have h9 := Hown6.out
          rw [← Hsu.out, fnd_length] at h9
          refine ⟨j + 1, by omega, congrArg (Value.int .i64) (by omega), h9, ?_⟩
          exact ((HB.out.trans (HB3.out.mono hszB)).alloc (by simp at hs3 ⊢; omega) _).grown Hg6.out (by simp at hs3 ⊢; omega) (fun k hk => (Hlw.out k hk).1)
        case measure =>
          show t - ((i : Int) + 1).toNat < t - ((i : Int)).toNat
          omega
    · rw [hi]
      obtain rfl : t = i := by omega
      obtain ⟨w5, rfl⟩ : ∃ w5 : World, w5 = wr := ⟨_, rfl⟩
      obtain ⟨A5, c5, hv5⟩ := own_form2 hown
      subst hv5
      have hj9 : j = t - f := by omega
      have HS := Lib.hid (sortHit_any (v := .slice A5 j c5) (l := fnd s sa f j) (by rw [fnd_length]; exact hown) (by rw [fnd_length]; omega) hB.size)
      have HB := Lib.hid hB
      have Hj := Lib.hid hj9
      have Hi := Lib.hid hi
      clear hown hB hj9 hi
      go_wp2_with fail
      go_at_call 59
      refine HS.out.mono ?_
      rintro e w6 ⟨rfl, ⟨A9, c9, hv9, hS9⟩, hB9⟩
      have HS9 := Lib.hid hS9
      have HB9 := Lib.hid hB9
      have Hv9 := Lib.hid hv9
      clear hS9 hB9 hv9 HS
      go_wp2_with fail
      go_ret
      have hms : ((fnd s sa f (t - f)).mergeSort leHit).length = t - f := by rw [List.length_mergeSort, fnd_length]
      have hjj := Hj.out
      subst hjj
      have h9 := Hv9.out
      rw [fnd_length] at h9
      refine ⟨f, t, Hf.out, A9, c9, ?_, HS9.out, ?_⟩
      · rw [hms]; exact ret_val h9
      · exact below_step HB1.out (HB.out.trans HB9.out)
end Go.Proofs.YtphccomhggnccaaGreat
namespace Go.Proofs.YtphccomhggnccaaGreat
set_option maxRecDepth 100000
set_option linter.unusedVariables false
set_option linter.unusedSimpArgs false
set_option maxRecDepth 100000
open Go.RowKit Fm Rank
theorem IdxM.mono {w : World} {base base' x : Nat} {s sa : List Nat} (h : IdxM w base x s sa) (hb : base' ≤ base) : IdxM w base' x s sa := by
  obtain ⟨h1, h2, h3, h4, h5, tr, g3, y, yc, mb, pb, pg, k, rb, r, b1, b2, b3, b4, b5, c0, c1, c2, c3, c4, c5, c6, c7, c8⟩ := h
  exact ⟨by omega, h2, h3, h4, h5, tr, g3, y, yc, mb, pb, pg, k, rb, r, by omega, by omega, by omega, by omega, by omega, c0, c1.mono hb, c2, c3, c4, c5.mono hb, c6, c7, c8⟩
structure RArg (w : World) (A : Option Addr) (n c : Nat) (ts : List (List Nat)) : Prop where
  len : ts.length = n
  nm : n ≤ 9223372036854775807
  lm : ∀ t ∈ ts, t.length ≤ 9223372036854775807
  lt : ∀ t ∈ ts, ∀ b ∈ t, b < 256
  row : ∀ d, d < n → ∃ a Ad L C, A = some a ∧ w.cell? (a.add d) = some (.slice Ad L C) ∧ (ts.getD d []).length = L ∧ L ≤ C ∧ (Ad = none → C = 0) ∧ Sl w Ad (VY (ts.getD d []))
theorem RArg.below {w w' : World} {A : Option Addr} {n c : Nat} {ts : List (List Nat)} (h : RArg w A n c ts) (hb : Below w.heap.size w w') : RArg w' A n c ts :=
  ⟨h.len, h.nm, h.lm, h.lt, fun d hd => by
    obtain ⟨a, Ad, L, C, h1, h2, h3, h4, h5, h6⟩ := h.row d hd
    exact ⟨a, Ad, L, C, h1, (World.cell?_of_block (hb.block _ (World.block_lt_of_cell? w _ h2))).trans h2, h3, h4, h5, h6.below hb⟩⟩
theorem body_take_succ (ts : List (List Nat)) (d : Nat) (h : d < ts.length) : body (ts.take (d + 1)) = body (ts.take d) ++ txt (ts.getD d []) := by
  rw [List.take_succ_eq_append_getElem h, body_append]
  congr 1
  simp [body, List.getD, List.getElem?_eq_getElem h]
theorem body_take_le (ts : List (List Nat)) (d : Nat) : (body (ts.take d)).length ≤ (body ts).length := by
  conv => rhs; rw [← List.take_append_drop d ts, body_append, List.length_append]
  omega
theorem rowT_lt (ts : List (List Nat)) (h : ∀ t ∈ ts, ∀ b ∈ t, b < 256) : ∀ x ∈ rowT ts, x < 512 := by
  intro x hx
  unfold rowT body at hx
  rcases List.mem_append.1 hx with hx | hx
  · obtain ⟨t, ht, hx⟩ := List.mem_flatMap.1 hx
    unfold txt at hx
    rcases List.mem_append.1 hx with hx | hx
    · obtain ⟨b, hb, rfl⟩ := List.mem_map.1 hx
      have := h t ht b hb
      omega
    · have : x = 1 := by simpa using hx
      omega
  · have : x = 0 := by simpa using hx
    omega
theorem len_le_body (ts : List (List Nat)) : ts.length ≤ (body ts).length := by
  induction ts with
  | nil => exact Nat.zero_le _
  | cons t r ih => rw [body_cons, List.length_append, txt_length, List.length_cons]; omega
def BuiltX (w : World) (ts : List (List Nat)) (e : Ending) (w' : World) : Prop :=
  ∃ (x : Nat) (sa : List Nat), e = .returned (.tuple #[.pointer (some ⟨x, 0, none⟩), .int .i64 0]) ∧ IdxM w' w.heap.size x (rowT ts) sa ∧ Below w.heap.size w w'
def TooLong (w : World) (e : Ending) (w' : World) : Prop := e = .returned (.tuple #[.pointer none, .int .i64 5]) ∧ Below w.heap.size w w'

set_option maxHeartbeats 4000000 in
theorem build_fm (w : World) (A : Option Addr) (n c : Nat) (ts : List (List Nat)) (hA : RArg w A n c ts) (hn : n ≤ 1099511627776) (hm : ∀ t ∈ ts, t.length ≤ 1099511627776) :
    Calls Tryz.prog 53 #[.slice A n c] w fun e w' => ((rowT ts).length ≤ 65536 ∧ BuiltX w ts e w') ∨ (65536 < (rowT ts).length ∧ TooLong w e w') := by
  have HA := Lib.hid hA
  have Hl := Lib.hid hA.len
  have Hlt := Lib.hid hA.lt
  have Hm := Lib.hid hm
  clear hA hm
  have hnl : n = ts.length := Hl.out.symm
  have hrl := rowT_length ts
  have Hrl := Lib.hid hrl
  have Hnl := Lib.hid hnl
  clear hrl hnl
  go_enter Tryz.func53, Tryz.ntmps53
  go_wp2_with fail
  go_loopw [4, 6, 8, 11] (fun v s6 s8 q wr => ∃ d : Nat, d ≤ n ∧ q = .int .i64 (d : Int) ∧ wr.ownsRow w.heap.size 3 1 v (body (ts.take d)).length (VI (NI (body (ts.take d)))) ∧ (body (ts.take d)).length + 1 ≤ 65536 ∧ Below w.heap.size w wr) (fun _ _ _ q _ => n - (intOf q).toNat)
  case atStart => exact ⟨0, Nat.zero_le _, rfl, World.ownsRow_nil _ _ _ _, by simp [body], Below.refl _ _⟩
  case round =>
    obtain ⟨d, hd, rfl, hown, hbl, hB⟩ := hrel
    obtain ⟨wo, rfl⟩ : ∃ wo : World, wo = wr := ⟨_, rfl⟩
    obtain ⟨A4, c4, hv4, _, _, _⟩ := own_sl hown
    subst hv4
    by_cases hdn : d < n
    · obtain ⟨a, Ad, L, C, rfl, hcell0, hL, hLC, hnil, hS⟩ := HA.out.row d hdn
      have hcell := (World.cell?_of_block (hB.block _ (World.block_lt_of_cell? w _ hcell0))).trans hcell0
      clear hcell0
      have hLm : L ≤ 1099511627776 := by
        rw [← hL]
        refine Hm.out _ ?_
        have hdl : d < ts.length := by rw [Hl.out]; exact hdn
        simp only [List.getD, List.getElem?_eq_getElem hdl, Option.getD_some]
        exact List.getElem_mem hdl
      have hsu := body_take_succ ts d (by rw [Hl.out]; exact hdn)
      have hsul := congrArg List.length hsu
      rw [List.length_append, txt_length, hL] at hsul
      have hbt := body_take_le ts (d + 1)
      have Hsu := Lib.hid hsu
      have Hsul := Lib.hid hsul
      have HS := Lib.hid hS
      have HL := Lib.hid hL
      have Hown := Lib.hid hown
      have HB := Lib.hid hB
      clear hsu hS hL hown hB hnil
      generalize hbb : body (ts.take d) = bb at *
      clear hbb
      by_cases hlong : 65536 < bb.length + L + 2
      · have e1 : (65536 : Int) < (bb.length : Int) + (L : Int) + 2 := by omega
        clear hsul
        go_wp2_with fail
        go_ret2
        exact .inr ⟨by have := Hrl.out; have := Hsul.out; omega, rfl, HB.out⟩
      · have e1 : ¬ (65536 : Int) < (bb.length : Int) + (L : Int) + 2 := by omega
        have hbs := HB.out.size
        clear hsul hbt
        go_wp2_with fail
        go_loopw [4, 8, 24] (fun v s8 q wr => ∃ k : Nat, k ≤ L ∧ q = .int .i64 (k : Int) ∧ wr.ownsRow w.heap.size 3 1 v (bb.length + k) (VI (NI (bb ++ ((ts.getD d []).take k).map (· + 2)))) ∧ Below w.heap.size w wr) (fun _ _ q _ => L - (intOf q).toNat)
        case atStart => exact ⟨0, Nat.zero_le _, rfl, by simpa using Hown.out, HB.out⟩
        case round =>
          obtain ⟨k, hk, rfl, hown, hB2⟩ := hrel
          obtain ⟨A5, c5, hv5, _, _, _⟩ := own_sl hown
          subst hv5
          have hL' := HL.out
          by_cases hkL : k < L
          · obtain ⟨ad, rfl, hcb⟩ := (HS.out.below hB2).some (j := k) (by rw [VY_length, hL']; exact hkL)
            rw [VY_get _ _ (by rw [hL']; exact hkL)] at hcb
            have hb256 : (ts.getD d []).getD k 0 < 256 := by
              have hdl : d < ts.length := by rw [Hl.out]; exact hdn
              refine Hlt.out (ts.getD d []) ?_ _ ?_
              · simp only [List.getD, List.getElem?_eq_getElem hdl, Option.getD_some]; exact List.getElem_mem hdl
              · rw [getD_at (by rw [hL']; exact hkL)]; exact List.getElem_mem _
            have Htk := Lib.hid (show bb ++ ((ts.getD d []).take (k + 1)).map (· + 2) = (bb ++ ((ts.getD d []).take k).map (· + 2)) ++ [(ts.getD d []).getD k 0 + 2] by
              rw [List.take_succ_eq_append_getElem (by rw [hL']; exact hkL), List.map_append, ← List.append_assoc, getD_at (by rw [hL']; exact hkL)]
              rfl)
            have hlen5 : (bb ++ ((ts.getD d []).take k).map (· + 2)).length = bb.length + k := by
              rw [List.length_append, List.length_map, List.length_take, hL', Nat.min_eq_left hk]
            have Hown2 := Lib.hid hown
            have HB2 := Lib.hid hB2
            have Hlen5 := Lib.hid hlen5
            have hbl2 := hB2.size
            clear hown hB2 hL' hlen5
            generalize (ts.getD d []).getD k 0 = ch at *
            have hown5 : wr.ownsRow w.heap.size 3 1 (.slice A5 (bb.length + k) c5) (NI (bb ++ ((ts.getD d []).take k).map (· + 2))).length (VI (NI (bb ++ ((ts.getD d []).take k).map (· + 2)))) := by rw [NI_length, Hlen5.out]; exact Hown2.out
            go_wp2_with (at_builtin; refine app_int_mv rfl _ _ rfl w.heap.size _ (NI (bb ++ ((ts.getD d []).take k).map (· + 2))) rfl (World.ownsRow.alloc hown5 _) ⟨wr.heap.size, 0, none⟩ 1 1 [((ch : Int) + 2)] rfl rfl (sl_blk (heap_alloc_new wr _)) (by rw [NI_length, Hlen5.out]; omega) (by simp; omega) ?_; intro v7 w7 hown7 hg7 _)
            have Hown7 := Lib.hid hown7
            have Hg7 := Lib.hid hg7
            have Hlw := Lib.hid (World.ownsRow.lt Hown2.out)
            clear hown7 hg7 hown5
            go_roundw
            case rel =>
              have h9 := Hown7.out
              have e9 : NI (bb ++ ((ts.getD d []).take k).map (· + 2)) ++ [((ch : Int) + 2)] = NI (bb ++ ((ts.getD d []).take (k + 1)).map (· + 2)) := by
                rw [Htk.out]; simp [NI]
              have e8 : (NI (bb ++ ((ts.getD d []).take (k + 1)).map (· + 2))).length = bb.length + (k + 1) := by
                rw [← e9, List.length_append, NI_length, Hlen5.out]; rfl
              rw [e9, e8] at h9
              refine ⟨k + 1, by omega, congrArg (Value.int .i64) (by omega), h9, ?_⟩
              exact below_app HB2.out Hg7.out (Nat.le_refl _) (fun q hq => (Hlw.out q hq).1)
            case measure =>
              show L - ((k : Int) + 1).toNat < L - ((k : Int)).toNat
              omega
          · obtain rfl : L = k := by omega
            have hlen5 : (bb ++ ((ts.getD d []).take L).map (· + 2)).length = bb.length + L := by
              rw [List.length_append, List.length_map, List.length_take, hL', Nat.min_self]
            have Hown2 := Lib.hid hown
            have HB2 := Lib.hid hB2
            have Hlen5 := Lib.hid hlen5
            have hbl2 := hB2.size
            have e9 : bb ++ ((ts.getD d []).take L).map (· + 2) ++ [1] = body (ts.take (d + 1)) := by
              rw [Hsu.out, ← hL', List.take_length, List.append_assoc]; rfl
            have E9 := Lib.hid e9
            clear hown hB2 hL' hlen5 e9
            have hown5 : wr.ownsRow w.heap.size 3 1 (.slice A5 (bb.length + L) c5) (NI (bb ++ ((ts.getD d []).take L).map (· + 2))).length (VI (NI (bb ++ ((ts.getD d []).take L).map (· + 2)))) := by rw [NI_length, Hlen5.out]; exact Hown2.out
            go_wp2_with (at_builtin; refine app_int_mv rfl _ _ rfl w.heap.size _ (NI (bb ++ ((ts.getD d []).take L).map (· + 2))) rfl (World.ownsRow.alloc hown5 _) ⟨wr.heap.size, 0, none⟩ 1 1 [1] rfl rfl (sl_blk (heap_alloc_new wr _)) (by rw [NI_length, Hlen5.out]; omega) (by simp; omega) ?_; intro v7 w7 hown7 hg7 _)
            have Hown7 := Lib.hid hown7
            have Hg7 := Lib.hid hg7
            have Hlw := Lib.hid (World.ownsRow.lt Hown2.out)
            clear hown7 hg7 hown5
            go_roundw
            case rel =>
              have h9 := Hown7.out
              have e8 : NI (bb ++ ((ts.getD d []).take L).map (· + 2)) ++ [1] = NI (body (ts.take (d + 1))) := by
                rw [← E9.out]; simp [NI]
              rw [e8, NI_length] at h9
              refine ⟨d + 1, by omega, congrArg (Value.int .i64) (by omega), h9, by have := Hsul.out; omega, ?_⟩
              exact below_app HB2.out Hg7.out (Nat.le_refl _) (fun q hq => (Hlw.out q hq).1)
            case measure =>
              show n - ((d : Int) + 1).toNat < n - ((d : Int)).toNat
              omega
    · obtain rfl : n = d := by omega
      have htk : ts.take n = ts := by rw [← Hl.out]; exact List.take_length
      rw [htk] at hown hbl ⊢
      have Hown := Lib.hid hown
      have HB := Lib.hid hB
      have hbs := hB.size
      have hown5 : wo.ownsRow w.heap.size 3 1 (.slice A4 (body ts).length c4) (NI (body ts)).length (VI (NI (body ts))) := by rw [NI_length]; exact hown
      clear hown hB htk
      go_wp2_with (at_builtin; refine app_int_mv rfl _ _ rfl w.heap.size _ (NI (body ts)) rfl (World.ownsRow.alloc hown5 _) ⟨wo.heap.size, 0, none⟩ 1 1 [0] rfl rfl (sl_blk (heap_alloc_new wo _)) (by rw [NI_length]; omega) (by simp; omega) ?_; intro v7 w7 hown7 hg7 _)
      have hB7 := below_app HB.out hg7 (Nat.le_refl _) (fun q hq => (World.ownsRow.lt Hown.out q hq).1)
      have e8 : NI (body ts) ++ [0] = NI (rowT ts) := by simp [NI, rowT]
      rw [e8, NI_length] at hown7
      obtain ⟨g, cap, cur, hv7, hg, hblk, hcap, hcs, htake⟩ := own_blk hown7 (fun e => by
        rw [e] at hown7
        rcases hown7.2 with ⟨_, h0⟩ | ⟨g9, cap9, cur9, h, _⟩
        · rw [rowT_length] at h0; omega
        · cases h)
      subst hv7
      have HM := Lib.hid (made_fm w7 g 0 (rowT ts).length cap (rowT ts) rfl (rowT_closed ts) (by rw [rowT_length]; omega) (sl_take hblk htake) (blk_lt hblk) (rowT_lt ts Hlt.out))
      have HB7 := Lib.hid hB7
      clear hown7 hg7 hown5 hB7 hblk htake e8 hcs hcap
      have Hbl := Lib.hid hbl
      clear hbl
      go_wp2_with fail
      go_at_call 102
      refine HM.out.mono ?_
      rintro e w8 ⟨x, sa, rfl, hI, hB8⟩
      have HI := Lib.hid hI
      have HB8 := Lib.hid hB8
      clear hI hB8 HM
      go_wp2_with fail
      go_ret2
      exact .inl ⟨by rw [rowT_length]; exact Hbl.out, x, sa, rfl, HI.out.mono HB7.out.size, below_step HB7.out HB8.out⟩
end Go.Proofs.YtphccomhggnccaaGreat
namespace Go.Proofs.YtphccomhggnccaaGreat
set_option maxRecDepth 100000
set_option linter.unusedVariables false
set_option linter.unusedSimpArgs false
set_option maxRecDepth 100000
open Go.RowKit Fm Rank
def found (ts : List (List Nat)) (p : List Nat) : List (Nat × Nat) := if p = [] then [] else locF 0 p ts
def IH (l : List (Nat × Nat)) : List (Int × Int) := l.map fun h => ((h.1 : Int), (h.2 : Int))
theorem IH_length (l : List (Nat × Nat)) : (IH l).length = l.length := by simp [IH]
theorem hitS_rowT (ts : List (List Nat)) (p : Nat) : hitS (rowT ts) p = (((hit ts p).1 : Int), ((hit ts p).2 : Int)) := by
  unfold hitS hit
  rw [stp_rowT]
theorem run_eq (sa : List Nat) (f t : Nat) (h : t ≤ sa.length) : run sa f t = (List.range (t - f)).map fun i => sa.getD (f + i) 0 := by
  apply List.ext_getElem
  · rw [run_length sa f t h]; simp
  · intro i h1 h2
    rw [run_length sa f t h] at h1
    have := run_getD sa f t i h h1
    rw [getD_at (by rw [run_length sa f t h]; exact h1)] at this
    rw [this]
    simp
theorem leHit_iff (a b : Int × Int) : leHit a b = true ↔ a.1 < b.1 ∨ (a.1 = b.1 ∧ a.2 ≤ b.2) := by
  unfold leHit
  rw [Bool.not_eq_true', ← Bool.not_eq_true, ltHit]
  omega
theorem sorted_found {ts : List (List Nat)} {sa : List Nat} (h : IsSA (rowT ts) sa) {p : List Nat} {f t : Nat} (hf : (p ≠ [] ∧ f < t ∧ f = cnt (rowT ts) (cut false · (p.map (· + 2))) ∧ t = cnt (rowT ts) (cut true · (p.map (· + 2)))) ∨ (f = 0 ∧ t = 0 ∧ occP (rowT ts) p = [])) :
    (fnd (rowT ts) sa f (t - f)).mergeSort leHit = IH (found ts p) := by
  rcases hf with ⟨hp, h1, rfl, rfl⟩ | ⟨rfl, rfl, h3⟩
  · have hle := cnt_le (rowT ts) (cut true · (p.map (· + 2)))
    have hperm := run_occ h (p.map (· + 2))
    rw [run_eq _ _ _ (by rw [h.length]; exact hle)] at hperm
    have hfn : (fnd (rowT ts) sa (cnt (rowT ts) (cut false · (p.map (· + 2)))) (cnt (rowT ts) (cut true · (p.map (· + 2))) - cnt (rowT ts) (cut false · (p.map (· + 2))))).Perm (IH (found ts p)) := by
      have h2 := hperm.map (hitS (rowT ts))
      rw [List.map_map] at h2
      have e : (occ (rowT ts) (p.map (· + 2))).map (hitS (rowT ts)) = IH (found ts p) := by
        unfold found IH
        rw [if_neg hp, ← occ_hits ts p hp, List.map_map]
        exact List.map_congr_left fun q _ => hitS_rowT ts q
      rw [e] at h2
      exact h2
    refine List.Perm.eq_of_pairwise (le := fun a b => leHit a b = true) ?_ (List.pairwise_mergeSort ?_ ?_ _) ?_ ((List.mergeSort_perm _ _).trans hfn)
    · intro a b _ _ q1 q2
      rw [leHit_iff] at q1 q2
      apply Prod.ext <;> omega
    · intro a b c q1 q2
      rw [leHit_iff] at q1 q2 ⊢
      omega
    · intro a b
      rw [Bool.or_eq_true, leHit_iff, leHit_iff]
      omega
    · unfold found IH
      rw [if_neg hp, List.pairwise_map]
      refine (locF_sorted p ts 0).imp ?_
      intro a b q
      rw [leHit_iff]
      omega
  · have : found ts p = [] := by
      unfold occP at h3
      unfold found
      by_cases hp : p = []
      · rw [if_pos hp]
      · rw [if_neg hp] at h3 ⊢
        rw [← occ_hits ts p hp, h3]; rfl
    rw [this]
    simp [fnd, IH]
theorem occP_found (ts : List (List Nat)) (p : List Nat) : (occP (rowT ts) p).length = (found ts p).length := by
  unfold occP found
  by_cases hp : p = []
  · rw [if_pos hp, if_pos hp]; rfl
  · rw [if_neg hp, if_neg hp, ← occ_hits ts p hp, List.length_map]
theorem many_rowT (ts : List (List Nat)) : many (rowT ts) = ts.length := by
  unfold many
  rw [stp_rowT, stf_length]
  omega
theorem locateT {w : World} {base x : Nat} {ts : List (List Nat)} {sa : List Nat} (h : IdxM w base x (rowT ts) sa) (A : Option Addr) (n cap : Nat) (p : List Nat) (hA : Sl w A (VY p)) (hl : p.length = n) (hn : n ≤ 1099511627776) (hb : ∀ c ∈ p, c < 256) :
    Calls Tryz.prog 20 #[.pointer (some ⟨x, 0, none⟩), .slice A n cap] w (Hits w (IH (found ts p))) := by
  refine (locate_any h A n cap p hA hl hn hb).mono ?_
  rintro e w' ⟨f, t, hf, hH⟩
  rw [sorted_found h.ord hf] at hH
  exact hH
theorem countT {w : World} {base x : Nat} {ts : List (List Nat)} {sa : List Nat} (h : IdxM w base x (rowT ts) sa) (A : Option Addr) (n cap : Nat) (p : List Nat) (hA : Sl w A (VY p)) (hl : p.length = n) (hn : n ≤ 1099511627776) (hb : ∀ c ∈ p, c < 256) :
    Calls Tryz.prog 22 #[.pointer (some ⟨x, 0, none⟩), .slice A n cap] w fun e w' => e = .returned (.int .i64 (((found ts p).length : Nat) : Int)) ∧ Below w.heap.size w w' := by
  rw [← occP_found]
  exact count_any h A n cap p hA hl hn hb
theorem docsT {w : World} {base x : Nat} {ts : List (List Nat)} {sa : List Nat} (h : IdxM w base x (rowT ts) sa) :
    Calls Tryz.prog 23 #[.pointer (some ⟨x, 0, none⟩)] w fun e w' => e = .returned (.int .i64 ((ts.length : Nat) : Int)) ∧ w = w' := by
  have := docs_any h
  rwa [many_rowT] at this
theorem stf_le (ts : List (List Nat)) (d : Nat) (h : d ≤ ts.length) : (stf 0 ts).getD d 0 ≤ (body ts).length := by
  have h1 := stf_last 0 ts
  have hs := stf_sorted 0 ts
  have hl := stf_length 0 ts
  rcases Nat.lt_or_ge d ts.length with h2 | h2
  · have := List.pairwise_iff_getElem.1 hs d ts.length (by omega) (by omega) h2
    rw [getD_at (by omega)] at h1 ⊢
    omega
  · obtain rfl : d = ts.length := by omega
    omega
theorem lenT {w : World} {base x : Nat} {ts : List (List Nat)} {sa : List Nat} (h : IdxM w base x (rowT ts) sa) (d : Nat) (hd : d < ts.length) :
    Calls Tryz.prog 65 #[.pointer (some ⟨x, 0, none⟩), .int .i64 (d : Int)] w fun e w' => e = .returned (.int .i64 (((ts.getD d []).length : Nat) : Int)) ∧ ∃ n, w' = w.drewN n := by
  have hlen := h.len
  rw [rowT_length] at hlen
  refine len_in h d _ (by rw [many_rowT]; exact hd) ?_ ?_
  · rw [stp_rowT]; exact stf_next 0 ts d hd
  · rw [stp_rowT]
    have := stf_le ts (d + 1) (by omega)
    omega
end Go.Proofs.YtphccomhggnccaaGreat
