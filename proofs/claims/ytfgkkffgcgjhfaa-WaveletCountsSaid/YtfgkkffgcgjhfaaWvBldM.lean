/- wavelet: Build, plain lists and what its inner loop holds. -/
import Derived.Test.YtfgkkffgcgjhfaaWvBld
namespace Go.Proofs.Ytfgkkffgcgjhfaa
set_option linter.unusedVariables false
set_option linter.unusedSimpArgs false
open Go.RowKit PkMath Pop Rank BtMath Wv

/-- of the first j, those of one digit -/
def flt (d : Nat) (row : List Nat) (b : Bool) (j : Nat) : List Nat := (row.take j).filter (fun x => x.testBit d == b)
theorem flt_zero (d : Nat) (row : List Nat) (b : Bool) : flt d row b 0 = [] := by simp [flt]
theorem flt_succ (d : Nat) (row : List Nat) (b : Bool) (j : Nat) (hj : j < row.length) : flt d row b (j + 1) = flt d row b j ++ if (row.getD j 0).testBit d == b then [row.getD j 0] else [] := by
  unfold flt
  rw [List.take_succ_eq_append_getElem hj, List.filter_append]
  congr 1
  have : row.getD j 0 = row[j] := by simp [List.getD, List.getElem?_eq_getElem hj]
  rw [this, List.filter_cons, List.filter_nil]
theorem flt_same (d : Nat) (row : List Nat) (b : Bool) (j : Nat) (hj : j < row.length) (h : (row.getD j 0).testBit d = b) : flt d row b (j + 1) = flt d row b j ++ [row.getD j 0] := by
  rw [flt_succ _ _ _ _ hj, if_pos (by rw [h]; simp)]
theorem flt_other (d : Nat) (row : List Nat) (b : Bool) (j : Nat) (hj : j < row.length) (h : (row.getD j 0).testBit d ≠ b) : flt d row b (j + 1) = flt d row b j := by
  rw [flt_succ _ _ _ _ hj, if_neg (by simpa using h), List.append_nil]
theorem flt_le (d : Nat) (row : List Nat) (b : Bool) (j : Nat) : (flt d row b j).length ≤ j := by
  unfold flt
  exact Nat.le_trans (List.length_filter_le _ _) (List.length_take_le _ _)
theorem flt_all (d : Nat) (row : List Nat) (b : Bool) (n : Nat) (h : row.length = n) : flt d row b n = row.filter (fun x => x.testBit d == b) := by
  unfold flt; rw [List.take_of_length_le (by omega)]
theorem bits_succ (d : Nat) (row : List Nat) (j : Nat) (hj : j < row.length) : bitsOf d (row.take (j + 1)) = bitsOf d (row.take j) ++ [(row.getD j 0).testBit d] := by
  unfold bitsOf
  rw [List.take_succ_eq_append_getElem hj, List.map_append]
  simp [List.getD, List.getElem?_eq_getElem hj]
theorem IL_append (a b : List Nat) : IL (a ++ b) = IL a ++ IL b := by simp [IL]
theorem VB_append (a b : List Bool) : VB (a ++ b) = VB a ++ VB b := by simp [VB]
theorem VB_one (l : List Bool) : ∀ u ∈ VB l, u.oneCell' = true := by
  intro u hu
  obtain ⟨x, _, rfl⟩ := List.mem_map.1 hu
  rfl

/-- what the inner loop has laid of the first j symbols -/
def Inner (w0 : World) (pb : Nat) (row : List Nat) (d j : Nat) (l : Value) (wi : World) : Prop :=
  ∃ p0 p1, wi.heap[pb]? = some (.cells #[p0, p1] 72 (0, 0)) ∧
    wi.ownsRow w0.heap.size 4 1 l (bitsOf d (row.take j)).length (VB (bitsOf d (row.take j))) ∧
    wi.ownsRow w0.heap.size 3 1 p0 (IL (flt d row false j)).length (VI (IL (flt d row false j))) ∧
    wi.ownsRow w0.heap.size 3 1 p1 (IL (flt d row true j)).length (VI (IL (flt d row true j))) ∧
    (∀ g, p0.ownBlock = some g → p1.ownBlock ≠ some g) ∧ Below w0.heap.size w0 wi

/-- append of one int, and where it lies -/
theorem app_int_at {w : World} {ops : Array Oper} {rest : List Oper} {o : Oper} {a : Act} {Q : Exit → Act → World → Prop} (hgd : o.guard = none) (s x : Operand)
    (ho : o.op = .call { callee := .builtin .append, args := #[s, x], argTypes := #[23, 23] })
    (base : Nat) (v : Value) (xs : List Int) (hs : a.eval s = v) (hown : w.ownsRow base 3 1 v xs.length (VI xs))
    (ad : Addr) (c : Nat) (y : Int) (hx : a.eval x = .slice (some ad) 1 c) (hnews : Sl w (some ad) (VI [y]))
    (h63 : xs.length + 1 ≤ 1099511627776) (hbase : base ≤ w.heap.size)
    (h : ∀ v' w', w'.ownsRow base 3 1 v' (xs ++ [y]).length (VI (xs ++ [y])) → w.grownBy w' v.ownBlock → (v'.ownBlock = v.ownBlock ∨ v'.ownBlock = some w.heap.size) → wpList Try.prog ops Q rest (a.put o.dst v') w') : wpList Try.prog ops Q (o :: rest) a w := by
  obtain ⟨i0, hi, hz0, hz1, hz2⟩ := info_parts info_int
  refine wpList_append_own_at w hgd s x 23 ho base 3 i0 (.int .i64 0) 1 8 Try.underlying23 hi hz0 hz1 hz2 rfl (by decide) v xs.length (VI xs) hs hown ad 1 c (VI [y]) hx rfl (hnews.cell ad rfl) (VI_one _) (by unfold maxLen; omega) (by omega) hbase ?_
  intro v' w' h1 h2 h3 h4
  refine h v' w' ?_ h2 h4
  rw [List.length_append, VI_append]
  exact h1
theorem app_bool_at {w : World} {ops : Array Oper} {rest : List Oper} {o : Oper} {a : Act} {Q : Exit → Act → World → Prop} (hgd : o.guard = none) (s x : Operand)
    (ho : o.op = .call { callee := .builtin .append, args := #[s, x], argTypes := #[30, 30] })
    (base : Nat) (v : Value) (xs : List Bool) (hs : a.eval s = v) (hown : w.ownsRow base 4 1 v xs.length (VB xs))
    (ad : Addr) (c : Nat) (y : Bool) (hx : a.eval x = .slice (some ad) 1 c) (hnews : Sl w (some ad) (VB [y]))
    (h63 : xs.length + 1 ≤ 1099511627776) (hbase : base ≤ w.heap.size)
    (h : ∀ v' w', w'.ownsRow base 4 1 v' (xs ++ [y]).length (VB (xs ++ [y])) → w.grownBy w' v.ownBlock → (v'.ownBlock = v.ownBlock ∨ v'.ownBlock = some w.heap.size) → wpList Try.prog ops Q rest (a.put o.dst v') w') : wpList Try.prog ops Q (o :: rest) a w := by
  obtain ⟨i0, hi, hz0, hz1, hz2⟩ := info_parts info_bool
  refine wpList_append_own_at w hgd s x 30 ho base 4 i0 (.bool false) 1 1 Try.underlying30 hi hz0 hz1 hz2 rfl (by decide) v xs.length (VB xs) hs hown ad 1 c (VB [y]) hx rfl (hnews.cell ad rfl) (VB_one _) (by unfold maxLen; omega) (by omega) hbase ?_
  intro v' w' h1 h2 h3 h4
  refine h v' w' ?_ h2 h4
  rw [List.length_append, VB_append]
  exact h1
/-- the bit is appended -/
theorem inner_bit {w0 wi w2 : World} {pb : Nat} {row : List Nat} {d j : Nat} {l l' : Value} {o : Obj} (h : Inner w0 pb row d j l wi) (hpb : w0.heap.size ≤ pb)
    (ho : w2.ownsRow w0.heap.size 4 1 l' (bitsOf d (row.take j) ++ [(row.getD j 0).testBit d]).length (VB (bitsOf d (row.take j) ++ [(row.getD j 0).testBit d])))
    (hg : (wi.alloc o).grownBy w2 l.ownBlock) (hj : j < row.length) :
    ∃ p0 p1, w2.heap[pb]? = some (.cells #[p0, p1] 72 (0, 0)) ∧
    w2.ownsRow w0.heap.size 4 1 l' (bitsOf d (row.take (j + 1))).length (VB (bitsOf d (row.take (j + 1)))) ∧
    w2.ownsRow w0.heap.size 3 1 p0 (IL (flt d row false j)).length (VI (IL (flt d row false j))) ∧
    w2.ownsRow w0.heap.size 3 1 p1 (IL (flt d row true j)).length (VI (IL (flt d row true j))) ∧
    (∀ g, p0.ownBlock = some g → p1.ownBlock ≠ some g) ∧ Below w0.heap.size w0 w2 ∧ pb < w2.heap.size := by
  obtain ⟨p0, p1, h1, h2, h3, h4, h5, h6⟩ := h
  have hne := own_ne h2 h1 (by decide)
  have hx : ∀ {p : Value} {n : Nat} {xs : List Value}, wi.ownsRow w0.heap.size 3 1 p n xs → w2.ownsRow w0.heap.size 3 1 p n xs := by
    intro p n xs hp
    refine World.ownsRow.kept (World.ownsRow.alloc hp o) hg ?_
    rcases hp.2 with ⟨rfl, _⟩ | ⟨g, cap, cur, rfl, _, hgb, _⟩
    · exact .inl rfl
    · exact .inr (own_ne h2 hgb (by decide))
  rw [← bits_succ d row j hj] at ho
  have hb2 := grown_blk hg (blk_alloc h1 o) hne
  exact ⟨p0, p1, hb2, ho, hx h3, hx h4, h5, (h6.alloc h6.size o).grown hg (by have := h6.size; simp; omega) (fun k hk => (World.ownsRow.lt h2 k hk).1), blk_lt hb2⟩
/-- a symbol is appended to the first part, or to the second -/
theorem inner_push0 {w0 w2 w3 : World} {pb : Nat} {row : List Nat} {d j : Nat} {l' p0 p1 v3 : Value} {o : Obj} (hpb : w0.heap.size ≤ pb) (hj : j < row.length) (hb : (row.getD j 0).testBit d = false)
    (h1 : w2.heap[pb]? = some (.cells #[p0, p1] 72 (0, 0))) (h2 : w2.ownsRow w0.heap.size 4 1 l' (bitsOf d (row.take (j + 1))).length (VB (bitsOf d (row.take (j + 1)))))
    (h3 : w2.ownsRow w0.heap.size 3 1 p0 (IL (flt d row false j)).length (VI (IL (flt d row false j)))) (h4 : w2.ownsRow w0.heap.size 3 1 p1 (IL (flt d row true j)).length (VI (IL (flt d row true j))))
    (h5 : ∀ g, p0.ownBlock = some g → p1.ownBlock ≠ some g) (h6 : Below w0.heap.size w0 w2)
    (ho : w3.ownsRow w0.heap.size 3 1 v3 (IL (flt d row false j) ++ [((row.getD j 0 : Nat) : Int)]).length (VI (IL (flt d row false j) ++ [((row.getD j 0 : Nat) : Int)])))
    (hg : (w2.alloc o).grownBy w3 p0.ownBlock) (hat : v3.ownBlock = p0.ownBlock ∨ v3.ownBlock = some (w2.alloc o).heap.size) :
    Inner w0 pb row d (j + 1) l' (w3.setCell ⟨pb, 0, none⟩ v3) ∧ w3.cell? ⟨pb, 0, none⟩ = some p0 ∧ w3.frozen? ⟨pb, 0, none⟩ = false := by
  have hne := own_ne h3 h1 (by decide)
  have hb3 := grown_blk hg (blk_alloc h1 o) hne
  have hl3 : w3.ownsRow w0.heap.size 4 1 l' (bitsOf d (row.take (j + 1))).length (VB (bitsOf d (row.take (j + 1)))) := by
    refine World.ownsRow.kept (World.ownsRow.alloc h2 o) hg ?_
    rcases h2.2 with ⟨rfl, _⟩ | ⟨g, cap, cur, rfl, _, hgb, _⟩
    · exact .inl rfl
    · exact .inr (own_ne h3 hgb (by decide))
  have hp3 : w3.ownsRow w0.heap.size 3 1 p1 (IL (flt d row true j)).length (VI (IL (flt d row true j))) := by
    refine World.ownsRow.kept (World.ownsRow.alloc h4 o) hg ?_
    rcases h4.2 with ⟨rfl, _⟩ | ⟨g, cap, cur, rfl, _, hgb, _⟩
    · exact .inl rfl
    · exact .inr (fun e => h5 g e.symm rfl)
  have hset : ∀ {t : TypeId} {p : Value} {n : Nat} {xs : List Value} (ht : 72 ≠ t), w3.ownsRow w0.heap.size t 1 p n xs → (w3.setCell ⟨pb, 0, none⟩ v3).ownsRow w0.heap.size t 1 p n xs :=
    fun ht hp => World.ownsRow.kept hp (grown_set w3 pb 0 v3) (.inr (fun e => own_ne hp hb3 ht e.symm))
  have hs6 := h6.size
  have hB3 : Below w0.heap.size w0 w3 := (h6.alloc h6.size o).grown hg (by simp; omega) (fun k hk => (World.ownsRow.lt h3 k hk).1)
  refine ⟨⟨v3, p1, ?_, hset (by decide) hl3, ?_, ?_, ?_, below_cell hB3 hpb 0 v3 rfl⟩, (cell_blk hb3 0).trans rfl, frozen_blk hb3 0⟩
  · exact blk_set hb3 0 v3
  · rw [flt_same d row false j hj hb, IL_append]; exact hset (by decide) ho
  · rw [flt_other d row true j hj (by rw [hb]; decide)]; exact hset (by decide) hp3
  · intro g hgg hg1
    rcases hat with e | e
    · exact h5 g (e.symm.trans hgg) hg1
    · rw [e] at hgg
      injection hgg with hgg
      have := (World.ownsRow.lt h4 g hg1).2
      simp at hgg
      omega
theorem inner_push1 {w0 w2 w3 : World} {pb : Nat} {row : List Nat} {d j : Nat} {l' p0 p1 v3 : Value} {o : Obj} (hpb : w0.heap.size ≤ pb) (hj : j < row.length) (hb : (row.getD j 0).testBit d = true)
    (h1 : w2.heap[pb]? = some (.cells #[p0, p1] 72 (0, 0))) (h2 : w2.ownsRow w0.heap.size 4 1 l' (bitsOf d (row.take (j + 1))).length (VB (bitsOf d (row.take (j + 1)))))
    (h3 : w2.ownsRow w0.heap.size 3 1 p0 (IL (flt d row false j)).length (VI (IL (flt d row false j)))) (h4 : w2.ownsRow w0.heap.size 3 1 p1 (IL (flt d row true j)).length (VI (IL (flt d row true j))))
    (h5 : ∀ g, p0.ownBlock = some g → p1.ownBlock ≠ some g) (h6 : Below w0.heap.size w0 w2)
    (ho : w3.ownsRow w0.heap.size 3 1 v3 (IL (flt d row true j) ++ [((row.getD j 0 : Nat) : Int)]).length (VI (IL (flt d row true j) ++ [((row.getD j 0 : Nat) : Int)])))
    (hg : (w2.alloc o).grownBy w3 p1.ownBlock) (hat : v3.ownBlock = p1.ownBlock ∨ v3.ownBlock = some (w2.alloc o).heap.size) :
    Inner w0 pb row d (j + 1) l' (w3.setCell ⟨pb, 1, none⟩ v3) ∧ w3.cell? ⟨pb, 1, none⟩ = some p1 ∧ w3.frozen? ⟨pb, 1, none⟩ = false := by
  have hne := own_ne h4 h1 (by decide)
  have hb3 := grown_blk hg (blk_alloc h1 o) hne
  have hl3 : w3.ownsRow w0.heap.size 4 1 l' (bitsOf d (row.take (j + 1))).length (VB (bitsOf d (row.take (j + 1)))) := by
    refine World.ownsRow.kept (World.ownsRow.alloc h2 o) hg ?_
    rcases h2.2 with ⟨rfl, _⟩ | ⟨g, cap, cur, rfl, _, hgb, _⟩
    · exact .inl rfl
    · exact .inr (own_ne h4 hgb (by decide))
  have hp3 : w3.ownsRow w0.heap.size 3 1 p0 (IL (flt d row false j)).length (VI (IL (flt d row false j))) := by
    refine World.ownsRow.kept (World.ownsRow.alloc h3 o) hg ?_
    rcases h3.2 with ⟨rfl, _⟩ | ⟨g, cap, cur, rfl, _, hgb, _⟩
    · exact .inl rfl
    · exact .inr (fun e => h5 g rfl e.symm)
  have hset : ∀ {t : TypeId} {p : Value} {n : Nat} {xs : List Value} (ht : 72 ≠ t), w3.ownsRow w0.heap.size t 1 p n xs → (w3.setCell ⟨pb, 1, none⟩ v3).ownsRow w0.heap.size t 1 p n xs :=
    fun ht hp => World.ownsRow.kept hp (grown_set w3 pb 1 v3) (.inr (fun e => own_ne hp hb3 ht e.symm))
  have hs6 := h6.size
  have hB3 : Below w0.heap.size w0 w3 := (h6.alloc h6.size o).grown hg (by simp; omega) (fun k hk => (World.ownsRow.lt h4 k hk).1)
  refine ⟨⟨p0, v3, ?_, hset (by decide) hl3, ?_, ?_, ?_, below_cell hB3 hpb 1 v3 rfl⟩, (cell_blk hb3 1).trans rfl, frozen_blk hb3 1⟩
  · exact blk_set hb3 1 v3
  · rw [flt_other d row false j hj (by rw [hb]; decide)]; exact hset (by decide) hp3
  · rw [flt_same d row true j hj hb, IL_append]; exact hset (by decide) ho
  · intro g hgg hg1
    rcases hat with e | e
    · exact h5 g hgg (e.symm.trans hg1)
    · rw [e] at hg1
      injection hg1 with hg1
      have := (World.ownsRow.lt h3 g hgg).2
      simp at hg1
      omega

/-- the cells of the first k levels -/
def lvc (vb : Nat → Nat) (W : Nat) (l : List Nat) : Nat → List Value
  | 0 => []
  | k + 1 => lvc vb W l k ++ [.pointer (some ⟨vb k, 0, none⟩), .int .i64 ((zeros (W - 1 - k) (lvl W l k) : Nat) : Int)]
theorem lvc_length (vb : Nat → Nat) (W : Nat) (l : List Nat) (k : Nat) : (lvc vb W l k).length = 2 * k := by
  induction k with
  | zero => rfl
  | succ k ih => rw [lvc, List.length_append, ih]; simp; omega
theorem lvc_get (vb : Nat → Nat) (W : Nat) (l : List Nat) (k j : Nat) (hj : j < k) :
    (lvc vb W l k)[2 * j]? = some (.pointer (some ⟨vb j, 0, none⟩)) ∧ (lvc vb W l k)[2 * j + 1]? = some (.int .i64 ((zeros (W - 1 - j) (lvl W l j) : Nat) : Int)) := by
  induction k with
  | zero => omega
  | succ k ih =>
    rw [lvc]
    by_cases h : j < k
    · obtain ⟨a, b⟩ := ih h
      rw [List.getElem?_append_left (by rw [lvc_length]; omega), List.getElem?_append_left (by rw [lvc_length]; omega)]
      exact ⟨a, b⟩
    · obtain rfl : j = k := by omega
      rw [List.getElem?_append_right (by rw [lvc_length]; omega), List.getElem?_append_right (by rw [lvc_length]; omega), lvc_length]
      simp
theorem lvc_same (vb vb' : Nat → Nat) (W : Nat) (l : List Nat) (k : Nat) (h : ∀ j, j < k → vb j = vb' j) : lvc vb W l k = lvc vb' W l k := by
  induction k with
  | zero => rfl
  | succ k ih => rw [lvc, lvc, ih (fun j hj => h j (by omega)), h k (by omega)]
/-- what the outer loop has laid ahead of level k -/
def Outer (w : World) (tb W : Nat) (l : List Nat) (k : Nat) (rv : Value) (wr : World) : Prop :=
  wr.ownsRow w.heap.size 3 1 rv (IL (lvl W l k)).length (VI (IL (lvl W l k))) ∧
  (∃ lv vb, wr.heap[tb]? = some (.cells #[.int .i64 (l.length : Int), lv] 71 (0, 0)) ∧ wr.ownsRow w.heap.size 74 2 lv k (lvc vb W l k) ∧
    ∀ j, j < k → BVec wr w.heap.size (vb j) (bitsOf (W - 1 - j) (lvl W l j))) ∧ Below w.heap.size w wr
theorem outer_tm {w wr : World} {tb W : Nat} {l : List Nat} {rv : Value} (h : Outer w tb W l W rv wr) (h1 : 1 ≤ W) (h2 : W ≤ 16) (hl : l.length ≤ 131072) (hlt : ∀ x ∈ l, x < 2 ^ W) (hb : w.heap.size ≤ tb) : TM wr w.heap.size tb W l := by
  obtain ⟨_, ⟨lv, vb, hblk, hown, hV⟩, _⟩ := h
  rcases hown.2 with ⟨_, h0⟩ | ⟨g, cap, cur, rfl, hg, hgb, hn, hm, hsz, ht⟩
  · omega
  · refine ⟨h1, h2, hl, hlt, hb, g, cap, cur, vb, hg, hblk, hgb, fun k hk => ?_⟩
    obtain ⟨a, b⟩ := lvc_get vb W l W k hk
    rw [← ht, List.getElem?_take, if_pos (by omega)] at a b
    exact ⟨by simpa using a, by simpa using b, hV k hk⟩
end Go.Proofs.Ytfgkkffgcgjhfaa
