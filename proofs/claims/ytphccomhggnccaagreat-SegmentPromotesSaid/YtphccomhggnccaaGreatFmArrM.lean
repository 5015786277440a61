/- suffix: what Array's doubling holds in memory, and how its writes turn it. -/
import Derived.Test.YtphccomhggnccaaGreatFmArr
namespace Go.Proofs.YtphccomhggnccaaGreat
set_option linter.unusedVariables false
set_option linter.unusedSimpArgs false
set_option maxRecDepth 100000
open Go.RowKit Fm

/-- what the doubling holds in memory -/
structure Ar (w wr : World) (rb K0 n a1 a2 a3 a4 kb k : Nat) (sa rank : List Nat) (tl xl : List Int) : Prop where
  b1 : IB wr a1 (NI sa)
  b2 : IB wr a2 tl
  b3 : IB wr a3 xl
  b4 : IB wr a4 (NI rank)
  nbx : wr.heap[w.heap.size]? = some (.cells #[.int .i64 (n : Int)] 3 (0, 0))
  rbx : wr.heap[rb]? = some (.cells #[.slice (some ⟨a4, 0, none⟩) n n] 26 (0, 0))
  kbx : wr.heap[kb]? = some (.cells #[.int .i64 (k : Int)] 3 (0, 0))
  l0 : sa.length = n
  l1 : tl.length = n
  l2 : xl.length = n
  l3 : rank.length = n
  n12 : a1 ≠ a2
  n13 : a1 ≠ a3
  n14 : a1 ≠ a4
  n23 : a2 ≠ a3
  n24 : a2 ≠ a4
  n34 : a3 ≠ a4
  lo : w.heap.size < a1 ∧ w.heap.size < a2 ∧ w.heap.size < a3 ∧ w.heap.size < a4
  hi : a1 < K0 ∧ a2 < K0 ∧ a3 < K0 ∧ a4 < K0
  kb0 : K0 ≤ kb
  rb0 : w.heap.size < rb ∧ rb < K0
  bel : Below w.heap.size w wr
theorem ib_ne {w : World} {g rb : Nat} {l : List Int} {cs : Array Value} (h : IB w g l) (hr : w.heap[rb]? = some (.cells cs 26 (0, 0))) : rb ≠ g := by
  intro e
  rw [e, h] at hr
  injection hr with hr
  injection hr with _ h2 _
  exact absurd h2 (by decide)
section
variable {w wr : World} {rb K0 n a1 a2 a3 a4 kb k : Nat} {sa rank : List Nat} {tl xl : List Int}
theorem Ar.set2 (h : Ar w wr rb K0 n a1 a2 a3 a4 kb k sa rank tl xl) (i : Nat) (v : Int) : Ar w (wr.setCell ⟨a2, i, none⟩ (.int .i64 v)) rb K0 n a1 a2 a3 a4 kb k sa rank (tl.set i v) xl := by
  have lo := h.lo; have hi := h.hi; have kb0 := h.kb0
  exact ⟨h.b1.other h.n12 _ _, h.b2.set i v, h.b3.other h.n23.symm _ _, h.b4.other h.n24.symm _ _, blk_other h.nbx (by omega) _ _, blk_other h.rbx (ib_ne h.b2 h.rbx) _ _, blk_other h.kbx (by omega) _ _,
    h.l0, by rw [List.length_set]; exact h.l1, h.l2, h.l3, h.n12, h.n13, h.n14, h.n23, h.n24, h.n34, h.lo, h.hi, h.kb0, h.rb0, below_cell h.bel (by omega) _ _ rfl⟩
theorem Ar.set3 (h : Ar w wr rb K0 n a1 a2 a3 a4 kb k sa rank tl xl) (i : Nat) (v : Int) : Ar w (wr.setCell ⟨a3, i, none⟩ (.int .i64 v)) rb K0 n a1 a2 a3 a4 kb k sa rank tl (xl.set i v) := by
  have lo := h.lo; have hi := h.hi; have kb0 := h.kb0
  exact ⟨h.b1.other h.n13 _ _, h.b2.other h.n23 _ _, h.b3.set i v, h.b4.other h.n34.symm _ _, blk_other h.nbx (by omega) _ _, blk_other h.rbx (ib_ne h.b3 h.rbx) _ _, blk_other h.kbx (by omega) _ _,
    h.l0, h.l1, by rw [List.length_set]; exact h.l2, h.l3, h.n12, h.n13, h.n14, h.n23, h.n24, h.n34, h.lo, h.hi, h.kb0, h.rb0, below_cell h.bel (by omega) _ _ rfl⟩
theorem Ar.drew (h : Ar w wr rb K0 n a1 a2 a3 a4 kb k sa rank tl xl) : Ar w wr.drew rb K0 n a1 a2 a3 a4 kb k sa rank tl xl :=
  ⟨h.b1, h.b2, h.b3, h.b4, h.nbx, h.rbx, h.kbx, h.l0, h.l1, h.l2, h.l3, h.n12, h.n13, h.n14, h.n23, h.n24, h.n34, h.lo, h.hi, h.kb0, h.rb0, h.bel.drew⟩
theorem Ar.drewN (h : Ar w wr rb K0 n a1 a2 a3 a4 kb k sa rank tl xl) (q : Nat) : Ar w (wr.drewN q) rb K0 n a1 a2 a3 a4 kb k sa rank tl xl :=
  ⟨h.b1, h.b2, h.b3, h.b4, h.nbx, h.rbx, h.kbx, h.l0, h.l1, h.l2, h.l3, h.n12, h.n13, h.n14, h.n23, h.n24, h.n34, h.lo, h.hi, h.kb0, h.rb0, h.bel.trans (belowD _ wr q)⟩
/-- the row of places is sorted anew -/
theorem Ar.sorted (h : Ar w wr rb K0 n a1 a2 a3 a4 kb k sa rank tl xl) {wy : World} {sb : List Nat} (hb : IB wy a1 (NI sb)) (hl : sb.length = n) (hg : wr.grownBy wy (some a1)) : Ar w wy rb K0 n a1 a2 a3 a4 kb k sb rank tl xl := by
  have lo := h.lo; have hi := h.hi; have kb0 := h.kb0
  exact ⟨hb, h.b2.grown hg (fun e => h.n12 (by injection e with e; exact e.symm)), h.b3.grown hg (fun e => h.n13 (by injection e with e; exact e.symm)), h.b4.grown hg (fun e => h.n14 (by injection e with e; exact e.symm)),
    grown_blk hg h.nbx (fun e => by injection e with e; omega), grown_blk hg h.rbx (fun e => ib_ne h.b1 h.rbx (by injection e)), grown_blk hg h.kbx (fun e => by injection e with e; omega),
    hl, h.l1, h.l2, h.l3, h.n12, h.n13, h.n14, h.n23, h.n24, h.n34, h.lo, h.hi, h.kb0, h.rb0, h.bel.grown hg h.bel.size (fun q hq => by injection hq with hq; omega)⟩
/-- the two rows of ranks are changed over -/
theorem Ar.swap (h : Ar w wr rb K0 n a1 a2 a3 a4 kb k sa rank tl xl) {rank' : List Nat} (hr : xl = NI rank') :
    Ar w (wr.setCell ⟨rb, 0, none⟩ (.slice (some ⟨a3, 0, none⟩) n n)) rb K0 n a1 a2 a4 a3 kb k sa rank' tl (NI rank) := by
  have lo := h.lo; have hi := h.hi; have kb0 := h.kb0; have rb0 := h.rb0
  have ne : ∀ {g : Nat} {l : List Int}, IB wr g l → g ≠ rb := fun hg => (ib_ne hg h.rbx).symm
  have hl2 := h.l2
  rw [hr] at hl2
  exact ⟨h.b1.other (ne h.b1) _ _, h.b2.other (ne h.b2) _ _, h.b4.other (ne h.b4) _ _, by rw [← hr]; exact h.b3.other (ne h.b3) _ _, blk_other h.nbx (by omega) _ _,
    blk_set h.rbx 0 _, blk_other h.kbx (by omega) _ _, h.l0, h.l1, by rw [NI_length]; exact h.l3, by rw [NI_length] at hl2; exact hl2, h.n12, h.n14, h.n13, h.n24, h.n23, h.n34.symm,
    ⟨lo.1, lo.2.1, lo.2.2.2, lo.2.2.1⟩, ⟨hi.1, hi.2.1, hi.2.2.2, hi.2.2.1⟩, h.kb0, h.rb0, below_cell h.bel (by omega) _ _ rfl⟩
/-- a new box of k -/
theorem Ar.newk (h : Ar w wr rb K0 n a1 a2 a3 a4 kb k sa rank tl xl) (k' : Nat) :
    Ar w (wr.alloc (.cells #[.int .i64 (k' : Int)] 3)) rb K0 n a1 a2 a3 a4 wr.heap.size k' sa rank tl xl := by
  have lo := h.lo; have hi := h.hi; have kb0 := h.kb0; have rb0 := h.rb0
  have hk := blk_lt h.kbx
  exact ⟨blk_alloc h.b1 _, blk_alloc h.b2 _, blk_alloc h.b3 _, blk_alloc h.b4 _, blk_alloc h.nbx _, blk_alloc h.rbx _, heap_alloc_new wr _, h.l0, h.l1, h.l2, h.l3, h.n12, h.n13, h.n14, h.n23, h.n24, h.n34, h.lo, h.hi, by omega, h.rb0, h.bel.alloc h.bel.size _⟩
theorem Ar.setk (h : Ar w wr rb K0 n a1 a2 a3 a4 kb k sa rank tl xl) (k' : Nat) :
    Ar w (wr.setCell ⟨kb, 0, none⟩ (.int .i64 (k' : Int))) rb K0 n a1 a2 a3 a4 kb k' sa rank tl xl := by
  have lo := h.lo; have hi := h.hi; have kb0 := h.kb0; have rb0 := h.rb0
  exact ⟨h.b1.other (by omega) _ _, h.b2.other (by omega) _ _, h.b3.other (by omega) _ _, h.b4.other (by omega) _ _, blk_other h.nbx (by omega) _ _, blk_other h.rbx (by omega) _ _, blk_set h.kbx 0 _, h.l0, h.l1, h.l2, h.l3, h.n12, h.n13, h.n14, h.n23, h.n24, h.n34, h.lo, h.hi, h.kb0, h.rb0, below_cell h.bel (by omega) _ _ rfl⟩
end
/-- the first of what is laid by what stands behind -/
theorem tmp_first (n k : Nat) (sa : List Nat) (i : Nat) (h : i < k) : (tmpL n k sa).getD i 0 = n - k + i := by
  unfold tmpL
  rw [List.getD_eq_getElem?_getD, List.getElem?_append_left (by simpa using h)]
  simp [h]
theorem tmp_next (n k : Nat) (sa : List Nat) (t : Nat) (ht : t < sa.length) (hk : k ≤ sa.getD t 0) :
    (tmpL n k sa).getD (k + ((sa.take t).filter fun p => decide (k ≤ p)).length) 0 = sa.getD t 0 - k ∧ ((sa.take t).filter fun p => decide (k ≤ p)).length < (sa.filter fun p => decide (k ≤ p)).length := by
  have hs : sa.filter (fun p => decide (k ≤ p)) = (sa.take t).filter (fun p => decide (k ≤ p)) ++ (sa.getD t 0 :: (sa.drop (t + 1)).filter fun p => decide (k ≤ p)) := by
    have h1 : sa = sa.take t ++ (sa.getD t 0 :: sa.drop (t + 1)) := by
      rw [getD_at ht, ← List.drop_eq_getElem_cons ht, List.take_append_drop]
    conv => lhs; rw [h1]
    rw [List.filter_append, List.filter_cons, if_pos (by simpa using hk)]
  have hlen := congrArg List.length hs
  rw [List.length_append, List.length_cons] at hlen
  refine ⟨?_, by omega⟩
  unfold tmpL
  rw [List.getD_eq_getElem?_getD, List.getElem?_append_right (by simp), hs]
  simp
theorem tmp_length (n k : Nat) (sa : List Nat) : (tmpL n k sa).length = k + (sa.filter fun p => decide (k ≤ p)).length := by simp [tmpL]
theorem filt_take_succ (k : Nat) (sa : List Nat) (t : Nat) (ht : t < sa.length) : ((sa.take (t + 1)).filter fun p => decide (k ≤ p)).length = ((sa.take t).filter fun p => decide (k ≤ p)).length + if k ≤ sa.getD t 0 then 1 else 0 := by
  rw [List.take_succ_eq_append_getElem ht, List.filter_append, List.length_append, getD_at ht, List.filter_cons, List.filter_nil]
  by_cases h : k ≤ sa[t]
  · rw [if_pos (by simpa using h), if_pos h]; rfl
  · rw [if_neg (by simpa using h), if_neg h]; rfl
theorem ni_ext {l : List Int} {m : List Nat} (hl : l.length = m.length) (h : ∀ i, i < m.length → l.getD i 0 = ((m.getD i 0 : Nat) : Int)) : l = NI m := by
  apply List.ext_getElem
  · rw [NI_length]; exact hl
  · intro i a b
    rw [NI_length] at b
    have := h i b
    rw [List.getD_eq_getElem?_getD, List.getElem?_eq_getElem a, getD_at b] at this
    simp only [NI, List.getElem_map]
    exact this
theorem pair_ne (x u y v : Nat) : ((x, u) != (y, v)) = !(decide (x = y) && decide (u = v)) := by
  by_cases e : x = y <;> by_cases e2 : u = v <;> simp [e, e2]
theorem ni_toNat (l : List Int) (h : ∀ j, j < l.length → 0 ≤ l.getD j 0) : l = NI (l.map Int.toNat) := by
  refine ni_ext (by simp) fun i hi => ?_
  have hi' : i < l.length := by simpa using hi
  have := h i hi'
  rw [getD_at hi] 
  rw [List.getD_eq_getElem?_getD, List.getElem?_eq_getElem hi'] at this ⊢
  simp only [List.getElem_map, Option.getD_some] at *
  omega
theorem boxed_of {w : World} {a : Addr} {z : Nat} (h : w.cell? a = some (.int .i64 (z : Int))) : boxed (.pointer (some a)) w = z := by
  unfold boxed; simp only [h]; exact Int.toNat_natCast z
theorem set_getD (l : List Int) (i j : Nat) (v : Int) (h : i < l.length) : (l.set i v).getD j 0 = if j = i then v else l.getD j 0 := by
  rw [List.getD_eq_getElem?_getD, List.getElem?_set]
  by_cases e : i = j
  · subst e; simp [h]
  · rw [if_neg e, if_neg (fun e2 => e e2.symm), List.getD_eq_getElem?_getD]
end Go.Proofs.YtphccomhggnccaaGreat
