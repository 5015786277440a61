/- fm: the starts of texts, the marks, as lists; an Index in memory. -/
import Derived.Test.YtphccomhggnccaaGreatFmIdxM
import Derived.Test.YtphccomhggnccaaGreatPk
namespace Go.Proofs.YtphccomhggnccaaGreat
set_option linter.unusedVariables false
set_option linter.unusedSimpArgs false
set_option maxRecDepth 100000
open Go.RowKit Fm Rank

theorem txt_getD (t r : List Nat) (i : Nat) (h : i < t.length) : (txt t ++ r).getD i 0 = t.getD i 0 + 2 := by
  unfold txt
  simp [List.getD, List.getElem?_append, h]
theorem txt_getD_end (t r : List Nat) : (txt t ++ r).getD t.length 0 = 1 := by
  unfold txt
  simp [List.getD]
theorem stp_gen (ts : List (List Nat)) (o : Nat) : o :: ((List.range (rowT ts).length).filter fun i => (rowT ts).getD i 0 == 1).map (fun i => o + (i + 1)) = stf o ts := by
  induction ts generalizing o with
  | nil => simp [rowT, body, stf]
  | cons t ts ih =>
    have e1 : (List.range (t.length + 1)).filter (fun i => (txt t ++ rowT ts).getD i 0 == 1) = [t.length] := by
      rw [List.range_succ, List.filter_append]
      have e2 : (List.range t.length).filter (fun i => (txt t ++ rowT ts).getD i 0 == 1) = [] := by
        rw [List.filter_eq_nil_iff]
        intro i hi
        rw [txt_getD t _ i (List.mem_range.1 hi)]
        simp
      rw [e2, List.nil_append, List.filter_cons, if_pos (by rw [txt_getD_end]; rfl)]
      rfl
    have e3 : (List.range (rowT ts).length).filter (fun i => (txt t ++ rowT ts).getD (t.length + 1 + i) 0 == 1) = (List.range (rowT ts).length).filter (fun i => (rowT ts).getD i 0 == 1) := by
      refine filter_same _ _ _ fun i _ => ?_
      simp only [List.getD]
      rw [← txt_length, List.getElem?_append_right (by omega), Nat.add_sub_cancel_left]
    rw [rowT_cons, List.length_append, txt_length, filter_range_add, e1, e3, List.map_append, List.map_map, stf, ← ih (o + t.length + 1)]
    refine congrArg (o :: ·) ?_
    show (o + (t.length + 1)) :: _ = _
    rw [show o + (t.length + 1) = o + t.length + 1 by omega]
    refine congrArg ((o + t.length + 1) :: ·) ?_
    refine List.map_congr_left fun i _ => ?_
    simp only [Function.comp]
    omega
theorem stp_rowT (ts : List (List Nat)) : stp (rowT ts) (rowT ts).length = stf 0 ts := by
  rw [← stp_gen ts 0]
  unfold stp
  simp

/-- which rows of the order are written down -/
def mrk (sa : List Nat) : List Bool := (List.range sa.length).map fun i => sa.getD i 0 % 8 == 0
theorem mrk_length (sa : List Nat) : (mrk sa).length = sa.length := by simp [mrk]
theorem mrk_getD (sa : List Nat) (i : Nat) (h : i < sa.length) : (mrk sa).getD i false = (sa.getD i 0 % 8 == 0) := by
  simp [mrk, List.getD, h]
theorem laid_getD (l : List Bool) (y : Int) (i : Nat) (h : i < l.length) : (laid l y).getD i false = (l.getD i false || (y == (i : Int))) := by
  unfold laid
  by_cases hy : 0 ≤ y ∧ y < (l.length : Int)
  · rw [if_pos hy]
    simp only [List.getD, List.getElem?_set]
    by_cases e : y.toNat = i
    · have e2 : y = (i : Int) := by omega
      rw [if_pos e, if_pos (by omega)]
      simp [e2]
    · have e2 : (y == (i : Int)) = false := by rw [beq_eq_false_iff_ne]; omega
      rw [if_neg e, e2, Bool.or_false]
  · rw [if_neg hy]
    have e2 : (y == (i : Int)) = false := by rw [beq_eq_false_iff_ne]; omega
    rw [e2, Bool.or_false]
theorem fold_getD (ys : List Int) (l : List Bool) (i : Nat) (h : i < l.length) : (ys.foldl laid l).getD i false = (l.getD i false || ys.any fun y => y == (i : Int)) := by
  induction ys generalizing l with
  | nil => simp
  | cons y ys ih =>
    rw [List.foldl_cons, ih _ (by rw [laid_length]; exact h), laid_getD l y i h, List.any_cons, Bool.or_assoc]
theorem laid_ons (sa : List Nat) : laidAll (List.replicate sa.length false) (NI (ons sa sa.length)) (ons sa sa.length).length = mrk sa := by
  refine getD_ext (by rw [laidAll_length, List.length_replicate, mrk_length]) fun i hi => ?_
  rw [laidAll_length, List.length_replicate] at hi
  unfold laidAll
  rw [List.take_of_length_le (by rw [NI_length]; exact Nat.le_refl _), fold_getD _ _ _ (by rw [List.length_replicate]; exact hi), mrk_getD _ _ hi]
  have e1 : (List.replicate sa.length false).getD i false = false := by simp [List.getD, List.getElem?_replicate, hi]
  rw [e1, Bool.false_or, Bool.eq_iff_iff, List.any_eq_true, beq_iff_eq]
  constructor
  · rintro ⟨y, hy, e⟩
    obtain ⟨k, hk, rfl⟩ := List.mem_map.1 hy
    have e2 : k = i := by
      have := beq_iff_eq.1 e
      omega
    subst e2
    exact (ons_mem.1 hk).2
  · intro e
    exact ⟨(i : Int), List.mem_map.2 ⟨i, ons_mem.2 ⟨hi, e⟩, rfl⟩, by simp⟩
/-- of a row that is written down: its number among them, and its place -/
theorem rk_mrk (sa : List Nat) (i : Nat) (h : i ≤ sa.length) : rk (mrk sa) true i = (ons sa i).length := by
  unfold rk mrk ons
  rw [← List.map_take, List.take_range, Nat.min_eq_left h, List.count, List.countP_map, List.countP_eq_length_filter]
  congr 1
  refine filter_same _ _ _ fun k _ => ?_
  simp only [Function.comp]
  cases h : (sa.getD k 0 % 8 == 0) <;> rfl
theorem plc_rk (sa : List Nat) (i : Nat) (h : i < sa.length) (h8 : sa.getD i 0 % 8 = 0) : rk (mrk sa) true i < (plc sa sa.length).length ∧ (plc sa sa.length).getD (rk (mrk sa) true i) 0 = sa.getD i 0 := by
  rw [rk_mrk sa i (by omega)]
  have e : ∃ r, ons sa sa.length = ons sa i ++ i :: r := by
    refine ⟨((List.range (sa.length - (i + 1))).map (fun k => i + 1 + k)).filter fun k => sa.getD k 0 % 8 == 0, ?_⟩
    have e2 : ons sa sa.length = ons sa (i + 1) ++ ((List.range (sa.length - (i + 1))).map (fun k => i + 1 + k)).filter fun k => sa.getD k 0 % 8 == 0 := by
      unfold ons
      rw [← List.filter_append, ← List.range_add, show i + 1 + (sa.length - (i + 1)) = sa.length by omega]
    rw [e2, ons_succ, if_pos h8, List.append_assoc]
    rfl
  obtain ⟨r, e⟩ := e
  have hk : (ons sa i).length < (ons sa sa.length).length := by rw [e]; simp
  refine ⟨by rw [plc_length]; exact hk, ?_⟩
  rw [plc_at _ _ _ hk]
  have : (ons sa sa.length).getD (ons sa i).length 0 = i := by
    rw [e]; simp [List.getD]
  rw [this]

theorem TM.mono {w : World} {base base' b W : Nat} {l : List Nat} (h : TM w base b W l) (hb : base' ≤ base) : TM w base' b W l := by
  obtain ⟨h1, h2, h3, h4, h5, hh, cap, cur, vb, hg, hbk, hc, hl⟩ := h
  exact ⟨h1, h2, h3, h4, by omega, hh, cap, cur, vb, by omega, hbk, hc, fun k hkW => ⟨(hl k hkW).1, (hl k hkW).2.1, (hl k hkW).2.2.mono hb⟩⟩
/-- an Index in memory: block x, all its blocks from base on -/
structure IdxM (w : World) (base x : Nat) (s sa : List Nat) : Prop where
  ge : base ≤ x
  len : s.length ≤ 65536
  lt : ∀ c ∈ s, c < 512
  cl : Closed s
  ord : IsSA s sa
  blk : ∃ (tr g3 y yc mb pb pg k rb : Nat) (r : List Int), base ≤ g3 ∧ base ≤ y ∧ base ≤ pb ∧ base ≤ pg ∧ base ≤ rb ∧
    w.heap[x]? = some (.cells #[.pointer (some ⟨tr, 0, none⟩), .slice (some ⟨g3, 0, none⟩) 513 513, .slice (some ⟨y, 0, none⟩) (stp s s.length).length yc, .pointer (some ⟨mb, 0, none⟩), .pointer (some ⟨pb, 0, none⟩), .slice (some ⟨rb, 0, none⟩) (ons sa s.length).length (ons sa s.length).length] 113 (0, 0)) ∧
    TM w base tr 9 (trn s sa) ∧ IB w g3 (NI ((List.range 513).map (lessN s))) ∧
    (∃ cur, w.heap[y]? = some (.cells cur 3 (0, 0)) ∧ cur.toList.take (stp s s.length).length = VI (NI (stp s s.length))) ∧ (stp s s.length).length ≤ yc ∧
    BVec w base mb (mrk sa) ∧ PArr w pb pg k (plc sa s.length) ∧ IB w rb r ∧ RowsOf sa (ons sa s.length).length (ons sa s.length).length r
theorem IdxM.keep {w w' : World} {base x : Nat} {s sa : List Nat} (h : IdxM w base x s sa) (hk : ∀ k, base ≤ k → k < w.heap.size → w'.heap[k]? = w.heap[k]?) : IdxM w' base x s sa := by
  obtain ⟨h1, h2, h3, h4, h5, tr, g3, y, yc, mb, pb, pg, k, rb, r, b1, b2, b3, b4, b5, c0, c1, c2, ⟨cur, c3, c3t⟩, c4, c5, c6, c7, c8⟩ := h
  exact ⟨h1, h2, h3, h4, h5, tr, g3, y, yc, mb, pb, pg, k, rb, r, b1, b2, b3, b4, b5, (hk _ h1 (blk_lt c0)).trans c0, c1.keep hk, (hk _ b1 (blk_lt c2)).trans c2, ⟨cur, (hk _ b2 (blk_lt c3)).trans c3, c3t⟩, c4,
    c5.keep hk, c6.kept (hk _ b3 (blk_lt c6.hd)) (hk _ b4 (blk_lt c6.ws)), (hk _ b5 (blk_lt c7)).trans c7, c8⟩
theorem IdxM.below {w w' : World} {base x : Nat} {s sa : List Nat} (h : IdxM w base x s sa) (hb : Below w.heap.size w w') : IdxM w' base x s sa :=
  h.keep fun k _ hk => hb.block k hk
end Go.Proofs.YtphccomhggnccaaGreat
