/- The reference's stable sort in plain lists: blocks that are merged, twice as wide each time. -/
import Derived.Test.YtfjhcgmaignaoaaGreatBkX
import Derived.Test.YtfjhcgmaignaoaaGreatRf5B
import Derived.Test.YtfjhcgmaignaoaaGreatRf5C
import Derived.Test.YtfjhcgmaignaoaaGreatBkZ
import Derived.Test.YtfjhcgmaignaoaaGreatRf6
import Derived.Test.YtfjhcgmaignaoaaGreatFmAlike
import Derived.Test.YtfjhcgmaignaoaaGreatFmLawC
namespace Go.Proofs.YtfjhcgmaignaoaaGreat
set_option maxRecDepth 100000
set_option linter.unusedVariables false
set_option linter.unusedSimpArgs false
set_option maxRecDepth 100000
open Go.RowKit Fm Rank
/-- the b-th block of a row -/
def blk (p : List Nat) (wd b : Nat) : List Nat := (p.drop (b * wd)).take wd
/-- a row's blocks are the numbers' own, each in order -/
structure Blks (l : List Int) (n wd : Nat) (p : List Nat) : Prop where
  len : p.length = n
  perm : ∀ b, (blk p wd b).Perm (blk (List.range n) wd b)
  srt : ∀ b, (blk p wd b).Pairwise (slt l)
/-- the first j blocks of twice the width -/
structure Blk2 (l : List Int) (n wd j : Nat) (acc : List Nat) : Prop where
  len : acc.length = min (j * (2 * wd)) n
  perm : ∀ b, b < j → (blk acc (2 * wd) b).Perm (blk (List.range n) (2 * wd) b)
  srt : ∀ b, b < j → (blk acc (2 * wd) b).Pairwise (slt l)
theorem blk_length (p : List Nat) (wd b : Nat) : (blk p wd b).length = min wd (p.length - b * wd) := by unfold blk; simp
theorem blk_getD (p : List Nat) (wd b i : Nat) (h : i < wd) : (blk p wd b).getD i 0 = p.getD (b * wd + i) 0 := by
  unfold blk
  simp only [List.getD]
  rw [List.getElem?_take, if_pos h, List.getElem?_drop]
theorem blk_one (p : List Nat) (b : Nat) : (blk p 1 b).length ≤ 1 := by rw [blk_length]; omega
theorem blk_two (p : List Nat) (wd j : Nat) : blk p wd (2 * j) ++ blk p wd (2 * j + 1) = blk p (2 * wd) j := by
  unfold blk
  rw [show j * (2 * wd) = 2 * j * wd by rw [Nat.mul_left_comm, Nat.mul_assoc], show (2 * j + 1) * wd = 2 * j * wd + wd by rw [Nat.succ_mul], ← List.drop_drop, show 2 * wd = wd + wd by omega, List.take_add]
theorem mem_blk_range {n wd b x : Nat} (h : x ∈ blk (List.range n) wd b) : b * wd ≤ x ∧ x < b * wd + wd := by
  obtain ⟨i, hi, rfl⟩ := List.getElem_of_mem h
  rw [blk_length] at hi
  have h1 := blk_getD (List.range n) wd b i (by omega)
  rw [getD_at (by rw [blk_length]; exact hi)] at h1
  rw [h1]
  rw [List.length_range] at hi
  rw [getD_at (by rw [List.length_range]; omega)]
  simp
  omega
def leS (l : List Int) (x y : Nat) : Bool := !decide (slt l y x)
theorem leS_iff (l : List Int) (x y : Nat) : leS l x y = true ↔ l.getD x 0 < l.getD y 0 ∨ (l.getD x 0 = l.getD y 0 ∧ x ≤ y) := by
  unfold leS
  rw [Bool.not_eq_true', decide_eq_false_iff_not]
  unfold slt
  omega
theorem leS_lt {l : List Int} {x y : Nat} (h : x < y) : leS l x y = decide (l.getD x 0 ≤ l.getD y 0) := by
  rw [Bool.eq_iff_iff, leS_iff, decide_eq_true_eq]
  omega
theorem mrgS {l : List Int} {x y : List Nat} (hx : x.Pairwise (slt l)) (hy : y.Pairwise (slt l)) (hd : ∀ a ∈ x, ∀ b ∈ y, a < b) : (List.merge x y (leS l)).Pairwise (slt l) := by
  have h := List.pairwise_merge (le := leS l) (fun a b c h1 h2 => ?_) (fun a b => ?_) x y (hx.imp fun h => (leS_iff ..).2 (by unfold slt at h; omega)) (hy.imp fun h => (leS_iff ..).2 (by unfold slt at h; omega))
  · have hn : (x ++ y).Nodup := by
      rw [List.nodup_append]
      refine ⟨hx.imp fun h e => ?_, hy.imp fun h e => ?_, fun a ha b hb e => ?_⟩
      · subst e; exact slt_irr _ _ h
      · subst e; exact slt_irr _ _ h
      · have := hd a ha b hb; omega
    have hn2 : (List.merge x y (leS l)).Nodup := (List.merge_perm_append (leS l)).nodup_iff.2 hn
    refine (h.and hn2).imp fun ⟨h1, h2⟩ => ?_
    rw [leS_iff] at h1
    unfold slt
    omega
  · rw [leS_iff] at *
    omega
  · rw [Bool.or_eq_true, leS_iff, leS_iff]
    omega
theorem Blks.start (l : List Int) (n : Nat) : Blks l n 1 (List.range n) := ⟨List.length_range, fun b => List.Perm.refl _, fun b => by
  have := blk_one (List.range n) b
  match h : blk (List.range n) 1 b with
  | [] => exact List.Pairwise.nil
  | [a] => exact List.pairwise_singleton _ _
  | _ :: _ :: _ => rw [h] at this; simp at this⟩
theorem Blk2.start (l : List Int) (n wd : Nat) : Blk2 l n wd 0 [] := ⟨by simp, fun b hb => absurd hb (Nat.not_lt_zero _), fun b hb => absurd hb (Nat.not_lt_zero _)⟩
theorem Blks.cross {l : List Int} {n wd : Nat} {p : List Nat} (h : Blks l n wd p) (j : Nat) : ∀ a ∈ blk p wd (2 * j), ∀ b ∈ blk p wd (2 * j + 1), a < b := fun a ha b hb => by
  have h1 := mem_blk_range ((h.perm _).mem_iff.1 ha)
  have h2 := mem_blk_range ((h.perm _).mem_iff.1 hb)
  rw [Nat.succ_mul] at h2
  omega
theorem Blk2.step {l : List Int} {n wd j : Nat} {p acc : List Nat} (h : Blks l n wd p) (k : Blk2 l n wd j acc) (hj : j * (2 * wd) < n) : Blk2 l n wd (j + 1) (acc ++ List.merge (blk p wd (2 * j)) (blk p wd (2 * j + 1)) (leS l)) := by
  have hpm : (List.merge (blk p wd (2 * j)) (blk p wd (2 * j + 1)) (leS l)).Perm (blk p (2 * wd) j) := by
    have := List.merge_perm_append (xs := blk p wd (2 * j)) (ys := blk p wd (2 * j + 1)) (leS l)
    rwa [blk_two] at this
  have hml := hpm.length_eq
  rw [blk_length, h.len] at hml
  have hal : acc.length = j * (2 * wd) := by rw [k.len]; omega
  have hold : ∀ b, b < j → blk (acc ++ List.merge (blk p wd (2 * j)) (blk p wd (2 * j + 1)) (leS l)) (2 * wd) b = blk acc (2 * wd) b := fun b hb => by
    have h1 : (b + 1) * (2 * wd) ≤ j * (2 * wd) := Nat.mul_le_mul_right _ hb
    have e : (b + 1) * (2 * wd) = b * (2 * wd) + 2 * wd := Nat.succ_mul _ _
    rw [e] at h1
    unfold blk
    rw [List.drop_append_of_le_length (by omega), List.take_append_of_le_length (by rw [List.length_drop]; omega)]
  have hnew : blk (acc ++ List.merge (blk p wd (2 * j)) (blk p wd (2 * j + 1)) (leS l)) (2 * wd) j = List.merge (blk p wd (2 * j)) (blk p wd (2 * j + 1)) (leS l) := by
    rw [blk, ← hal, List.drop_left, List.take_of_length_le (by omega)]
  refine ⟨?_, fun b hb => ?_, fun b hb => ?_⟩
  · have e : (j + 1) * (2 * wd) = j * (2 * wd) + 2 * wd := Nat.succ_mul _ _
    rw [List.length_append, hml, hal]
    omega
  · rcases Nat.lt_succ_iff_lt_or_eq.1 hb with h1 | h1
    · rw [hold b h1]; exact k.perm b h1
    · subst h1
      rw [hnew]
      refine hpm.trans ?_
      rw [← blk_two, ← blk_two]
      exact (h.perm _).append (h.perm _)
  · rcases Nat.lt_succ_iff_lt_or_eq.1 hb with h1 | h1
    · rw [hold b h1]; exact k.srt b h1
    · subst h1
      rw [hnew]
      exact mrgS (h.srt _) (h.srt _) (h.cross _)
theorem Blk2.done {l : List Int} {n wd j : Nat} {acc : List Nat} (k : Blk2 l n wd j acc) (hj : n ≤ j * (2 * wd)) : Blks l n (2 * wd) acc := by
  have hl : acc.length = n := by rw [k.len]; omega
  have hnil : ∀ b, j ≤ b → ∀ q : List Nat, q.length = n → blk q (2 * wd) b = [] := fun b hb q hq => by
    have h1 : j * (2 * wd) ≤ b * (2 * wd) := Nat.mul_le_mul_right _ hb
    unfold blk
    rw [List.drop_eq_nil_of_le (by omega), List.take_nil]
  refine ⟨hl, fun b => ?_, fun b => ?_⟩
  · rcases Nat.lt_or_ge b j with h | h
    · exact k.perm b h
    · rw [hnil b h acc hl, hnil b h (List.range n) List.length_range]
  · rcases Nat.lt_or_ge b j with h | h
    · exact k.srt b h
    · rw [hnil b h acc hl]; exact List.Pairwise.nil
theorem Blks.all {l : List Int} {n wd : Nat} {p : List Nat} (h : Blks l n wd p) (hl : l.length = n) (hw : n ≤ wd) : IsStable l p := by
  have e : ∀ q : List Nat, q.length = n → blk q wd 0 = q := fun q hq => by
    unfold blk
    rw [Nat.zero_mul, List.drop_zero, List.take_of_length_le (by omega)]
  have h1 := h.perm 0
  have h2 := h.srt 0
  rw [e p h.len] at h1 h2
  rw [e (List.range n) List.length_range] at h1
  exact ⟨by rw [hl]; exact h1, h2⟩
theorem Blks.lt {l : List Int} {n wd : Nat} {p : List Nat} (h : Blks l n wd p) (hw : 0 < wd) {i : Nat} (hi : i < n) : p.getD i 0 < n := by
  have e : i / wd * wd + i % wd = i := by rw [Nat.mul_comm]; exact Nat.div_add_mod i wd
  have h1 := blk_getD p wd (i / wd) (i % wd) (Nat.mod_lt _ hw)
  rw [e] at h1
  have hlt : i % wd < (blk p wd (i / wd)).length := by rw [blk_length, h.len]; have := Nat.mod_lt i hw; omega
  have hm : p.getD i 0 ∈ blk p wd (i / wd) := by rw [← h1, getD_at hlt]; exact List.getElem_mem _
  exact List.mem_range.1 (List.mem_of_mem_drop (List.mem_of_mem_take ((h.perm _).mem_iff.1 hm)))
/-- the two blocks that are merged, by places in the whole row -/
structure TwoB (l : List Int) (n wd : Nat) (p : List Nat) (j a m z : Nat) : Prop where
  bl : Blks l n wd p
  ha : j * (2 * wd) = a
  hm : min (a + wd) n = m
  hz : min (a + 2 * wd) n = z
  lt : a < n
theorem TwoB.facts {l : List Int} {n wd : Nat} {p : List Nat} {j a m z : Nat} (h : TwoB l n wd p j a m z) : (blk p wd (2 * j)).length = m - a ∧ (blk p wd (2 * j + 1)).length = z - m ∧ (∀ i, a ≤ i → i < m → (blk p wd (2 * j)).getD (i - a) 0 = p.getD i 0) ∧ (∀ k, m ≤ k → k < z → (blk p wd (2 * j + 1)).getD (k - m) 0 = p.getD k 0) := by
  have e1 : 2 * j * wd = a := by rw [← h.ha, Nat.mul_left_comm, Nat.mul_assoc]
  have e2 : (2 * j + 1) * wd = a + wd := by rw [Nat.succ_mul, e1]
  have hm := h.hm; have hz := h.hz; have hlt := h.lt; have hlen := h.bl.len
  refine ⟨by rw [blk_length, e1, hlen]; omega, by rw [blk_length, e2, hlen]; omega, fun i h1 h2 => ?_, fun k h1 h2 => ?_⟩
  · rw [blk_getD _ _ _ _ (by omega), e1]
    congr 1
    omega
  · rw [blk_getD _ _ _ _ (by omega), e2]
    congr 1
    omega
theorem TwoB.left {l : List Int} {n wd : Nat} {p : List Nat} {j a m z ii kk : Nat} {acc : List Nat} (h : TwoB l n wd p j a m z) (M : Mg (leS l) (blk p wd (2 * j)) (blk p wd (2 * j + 1)) (ii - a) (kk - m) acc) (h1 : a ≤ ii) (h2 : ii < m) (h3 : m ≤ kk)
    (hk : z ≤ kk ∨ (kk < z ∧ l.getD (p.getD ii 0) 0 ≤ l.getD (p.getD kk 0) 0)) : Mg (leS l) (blk p wd (2 * j)) (blk p wd (2 * j + 1)) (ii + 1 - a) (kk - m) (acc ++ [p.getD ii 0]) := by
  obtain ⟨f1, f2, f3, f4⟩ := h.facts
  have hx : ii - a < (blk p wd (2 * j)).length := by rw [f1]; omega
  have := M.left hx (hk.imp (fun h => by rw [f2]; omega) fun ⟨q1, q2⟩ => by
    have hy : kk - m < (blk p wd (2 * j + 1)).length := by rw [f2]; omega
    refine ⟨hy, ?_⟩
    have hlt := h.bl.cross j _ (List.getElem_mem hx) _ (List.getElem_mem hy)
    rw [← getD_at hx, ← getD_at hy] at hlt
    rw [leS_lt hlt, f3 ii h1 h2, f4 kk h3 q1]
    exact decide_eq_true q2)
  rwa [f3 ii h1 h2, show ii - a + 1 = ii + 1 - a by omega] at this
theorem TwoB.right {l : List Int} {n wd : Nat} {p : List Nat} {j a m z ii kk : Nat} {acc : List Nat} (h : TwoB l n wd p j a m z) (M : Mg (leS l) (blk p wd (2 * j)) (blk p wd (2 * j + 1)) (ii - a) (kk - m) acc) (h1 : a ≤ ii) (h2 : m ≤ kk) (h3 : kk < z)
    (hk : m ≤ ii ∨ (ii < m ∧ ¬ l.getD (p.getD ii 0) 0 ≤ l.getD (p.getD kk 0) 0)) : Mg (leS l) (blk p wd (2 * j)) (blk p wd (2 * j + 1)) (ii - a) (kk + 1 - m) (acc ++ [p.getD kk 0]) := by
  obtain ⟨f1, f2, f3, f4⟩ := h.facts
  have hy : kk - m < (blk p wd (2 * j + 1)).length := by rw [f2]; omega
  have := M.right hy (hk.imp (fun h => by rw [f1]; omega) fun ⟨q1, q2⟩ => by
    have hx : ii - a < (blk p wd (2 * j)).length := by rw [f1]; omega
    refine ⟨hx, ?_⟩
    have hlt := h.bl.cross j _ (List.getElem_mem hx) _ (List.getElem_mem hy)
    rw [← getD_at hx, ← getD_at hy] at hlt
    rw [leS_lt hlt, f3 ii h1 q1, f4 kk h2 h3]
    exact decide_eq_false q2)
  rwa [f4 kk h2 h3, show kk - m + 1 = kk + 1 - m by omega] at this
theorem TwoB.done {l : List Int} {n wd : Nat} {p : List Nat} {j a m z ii kk : Nat} {acc o : List Nat} (h : TwoB l n wd p j a m z) (M : Mg (leS l) (blk p wd (2 * j)) (blk p wd (2 * j + 1)) (ii - a) (kk - m) acc) (h1 : m ≤ ii) (h2 : z ≤ kk) (k : Blk2 l n wd j o) : Blk2 l n wd (j + 1) (o ++ acc) := by
  obtain ⟨f1, f2, f3, f4⟩ := h.facts
  rw [M.done (by rw [f1]; omega) (by rw [f2]; omega)]
  exact Blk2.step h.bl k (by rw [h.ha]; exact h.lt)
end Go.Proofs.YtfjhcgmaignaoaaGreat
/- haystackref6.stable, walked. -/
namespace Go.Proofs.YtfjhcgmaignaoaaGreat
set_option maxRecDepth 100000
set_option linter.unusedVariables false
set_option linter.unusedSimpArgs false
set_option maxRecDepth 100000
open Go.RowKit Fm Rank
def StabP (w : World) (n : Nat) (l : List Int) (e : Ending) (w' : World) : Prop :=
  ∃ B c o, e = .returned (.slice B n c) ∧ IsStable l o ∧ Sl w' B (VI (NI o)) ∧ Below w.heap.size w w'
theorem stable_lt2 (l : List Int) (h : l.length < 2) : IsStable l (List.replicate l.length 0) := by
  match l, h with
  | [], _ => exact ⟨List.Perm.refl _, List.Pairwise.nil⟩
  | [a], _ => exact ⟨List.Perm.refl _, List.pairwise_singleton _ _⟩
  | _ :: _ :: _, h => simp at h; omega
theorem NI_zeros (n : Nat) : NI (List.replicate n 0) = List.replicate n 0 := by simp [NI]
set_option maxHeartbeats 8000000 in
theorem stable6_any (w : World) (A : Option Addr) (n c : Nat) (l : List Int) (hl : l.length = n) (hn : n ≤ 65536) (hS : Sl w A (VI l)) :
    Calls Tryz.prog 54 #[.slice A n c] w (StabP w n l) := by
  have HS := Lib.hid hS
  have Hl := Lib.hid hl
  have hmk := make_int n (by omega) w
  clear hS hl
  by_cases h2 : n < 2
  · have h2i : (n : Int) < 2 := by omega
    go_enter Tryz.func54, Tryz.ntmps54
    go_wp2_with fail
    go_ret
    refine ⟨_, _, List.replicate n 0, rfl, ?_, ?_, (Below.refl _ w).alloc (Nat.le_refl _) _⟩
    · have := stable_lt2 l (by rw [Hl.out]; exact h2)
      rwa [Hl.out] at this
    · rw [NI_zeros]; exact sl_IB (heap_alloc_new w _)
  · have h2i : ¬ (n : Int) < 2 := by omega
    obtain ⟨bl, ol, rfl, _⟩ := HS.out.lit (j := 0) (by rw [VI_length, Hl.out]; omega)
    go_enter Tryz.func54, Tryz.ntmps54
    go_wp2_with fail
    clear hmk
    have hN0 : IB (w.alloc (.cells (I (List.replicate n 0)) 3)) w.heap.size (half (NI (List.range n)) 0) := by
      have := heap_alloc_new w (.cells (I (List.replicate n 0)) 3)
      rw [half_zero, NI_length, List.length_range]
      exact this
    go_loopw [4] (fun q wr => ∃ j : Nat, j ≤ n ∧ q = .int .i64 (j : Int) ∧ IB wr w.heap.size (half (NI (List.range n)) j) ∧ Below w.heap.size w wr) (fun q _ => n - (intOf q).toNat)
    case atStart => exact ⟨0, Nat.zero_le _, rfl, hN0, (Below.refl _ w).alloc (Nat.le_refl _) _⟩
    case round =>
      clear hN0
      obtain ⟨j, hj, rfl, hO, hB⟩ := hrel
      by_cases hjn : j < n
      · have hle := half_length (NI (List.range n)) j (by rw [NI_length, List.length_range]; exact hj)
        rw [NI_length, List.length_range] at hle
        have hc := hO.cell (i := j) (by omega)
        have hf := hO.free j
        have hset := half_set (NI (List.range n)) j (by rw [NI_length, List.length_range]; exact hjn)
        rw [show (NI (List.range n)).getD j 0 = (j : Int) by rw [NI_getD _ _ (by simpa using hjn)]; simp [List.getD, hjn]] at hset
        have Hset := Lib.hid hset
        have HO := Lib.hid hO
        have HB := Lib.hid hB
        clear hset hO hB hle
        generalize (half (NI (List.range n)) j).getD j 0 = y at *
        go_wp2_with fail
        refine ⟨⟨j + 1, by omega, by go_num, ?_, below_cell HB.out (Nat.le_refl _) _ _ rfl⟩, by simp [intOf]; omega⟩
        rw [← Hset.out]
        exact HO.out.set _ _
      · obtain rfl : n = j := by omega
        have e1 : half (NI (List.range n)) n = NI (List.range n) := by
          have := half_all (NI (List.range n)); rwa [NI_length, List.length_range] at this
        rw [e1] at hO
        have hP0 : Hid (Blks l n 1 (List.range n)) := Lib.hid (Blks.start l n)
        have hS0 := sl_IB hO
        go_wp2_with fail
        clear e1 hO
        go_loopw [3, 5, 6, 7, 8, 9, 10, 11] (fun s3 s5 s6 s7 s8 s9 s10 s11 wr => ∃ (wd : Nat) (p : List Nat) (P : Option Addr) (cp : Nat), 1 ≤ wd ∧ wd ≤ 131072 ∧ s5 = .int .i64 (wd : Int) ∧ s3 = .slice P n cp ∧ Hid (Blks l n wd p) ∧ Sl wr P (VI (NI p)) ∧ Below w.heap.size w wr) (fun _ s5 _ _ _ _ _ _ _ => n - (intOf s5).toNat)
        case atStart => exact ⟨1, _, _, _, Nat.le_refl _, by omega, rfl, rfl, hP0, hS0, hB⟩
        case round =>
          clear hP0 hS0 hB
          obtain ⟨wd, p, P, cp, hw1, hw2, rfl, rfl, HP, hSp, hB⟩ := hrel
          by_cases hwn : wd < n
          · have hmk := make0_int n (by omega) wr
            obtain ⟨bp, op, rfl, _⟩ := hSp.lit (j := 0) (by rw [VI_length, NI_length, HP.out.len]; omega)
            have HSp := Lib.hid hSp
            have HB := Lib.hid hB
            have hwni : (wd : Int) < (n : Int) := by omega
            obtain ⟨w4, hw4⟩ : ∃ W, W = wr := ⟨_, rfl⟩
            subst hw4
            clear hSp hB
            go_wp2_with fail
            clear hmk
            have hO : (w4.alloc (.cells (I (List.replicate n 0)) 3)).ownsRow w4.heap.size 3 1 (.slice (some ⟨w4.heap.size, 0, none⟩) 0 n) (NI []).length (VI (NI [])) := World.ownsRow_made w4 _ n (Nat.le_refl _) (by unfold maxLen; omega) (by simp [I])
            go_loopw [6, 7, 8, 9, 10, 11] (fun v s7 s8 s9 s10 s11 wq => ∃ (j a : Nat) (acc : List Nat), j * (2 * wd) = a ∧ a ≤ n + 262144 ∧ s7 = .int .i64 (a : Int) ∧ wq.ownsRow w4.heap.size 3 1 v (NI acc).length (VI (NI acc)) ∧ Hid (Blk2 l n wd j acc) ∧ Below w4.heap.size w4 wq) (fun _ s7 _ _ _ _ _ => n - (intOf s7).toNat)
            case atStart => exact ⟨0, 0, [], Nat.zero_mul _, by omega, rfl, hO, Lib.hid (Blk2.start ..), (Below.refl _ _).alloc (Nat.le_refl _) _⟩
            case round =>
              clear hO
              obtain ⟨j, a, acc, hja, ha, rfl, hown, HK, hBq⟩ := hrel
              by_cases han : a < n
              · obtain ⟨m, hm⟩ : ∃ m, min (a + wd) n = m := ⟨_, rfl⟩
                obtain ⟨z, hz⟩ : ∃ z, min (a + 2 * wd) n = z := ⟨_, rfl⟩
                have HT : Hid (TwoB l n wd p j a m z) := Lib.hid ⟨HP.out, hja, hm, hz, han⟩
                have q1 : min ((a : Int) + (wd : Int)) (n : Int) = (m : Int) := by omega
                have q2 : min ((a : Int) + 2 * (wd : Int)) (n : Int) = (z : Int) := by omega
                have hani : (a : Int) < (n : Int) := by omega
                have ham : a ≤ m := by omega
                have hmz : m ≤ z := by omega
                have hzn : z ≤ n := by omega
                have Hja := Lib.hid hja
                have Hown := Lib.hid hown
                have HBq := Lib.hid hBq
                obtain ⟨A9, c9, hv9, _, _, _⟩ := own_sl hown
                subst hv9
                have Hacl := Lib.hid (show acc.length ≤ n by rw [HK.out.len]; exact Nat.min_le_right _ _)
                clear hown hBq hja hm hz
                go_wp2_with fail
                have h0 := Hown.out
                have hM0 : Hid (Mg (leS l) (blk p wd (2 * j)) (blk p wd (2 * j + 1)) (a - a) (m - m) []) := by rw [Nat.sub_self, Nat.sub_self]; exact Lib.hid (Mg.start ..)
                rw [show acc = acc ++ [] by simp] at h0
                go_loopw [6, 10, 11] (fun v s10 s11 wx => ∃ (ii kk : Nat) (ac2 : List Nat), a ≤ ii ∧ ii ≤ m ∧ m ≤ kk ∧ kk ≤ z ∧ s10 = .int .i64 (ii : Int) ∧ s11 = .int .i64 (kk : Int) ∧ wx.ownsRow w4.heap.size 3 1 v (NI (acc ++ ac2)).length (VI (NI (acc ++ ac2))) ∧ Hid (Mg (leS l) (blk p wd (2 * j)) (blk p wd (2 * j + 1)) (ii - a) (kk - m) ac2) ∧ Below w4.heap.size w4 wx) (fun _ s10 s11 _ => 2 * n - (intOf s10).toNat - (intOf s11).toNat)
                case atStart => exact ⟨a, m, [], Nat.le_refl _, ham, Nat.le_refl _, hmz, rfl, rfl, by first | exact h0 | (simpa using h0), hM0, HBq.out⟩
                case round =>
                  clear h0 hM0
                  obtain ⟨ii, kk, ac2, hi1, hi2, hk1, hk2, rfl, rfl, hox, HM, hBx⟩ := hrel
                  obtain ⟨A8, c8, hv8, _, _, _⟩ := own_sl hox
                  subst hv8
                  have Hal := Lib.hid (show (acc ++ ac2).length ≤ 196608 by rw [List.length_append, HM.out.len]; have := Hacl.out; omega)
                  have Hox := Lib.hid hox
                  have HBx := Lib.hid hBx
                  clear hox hBx
                  have HSx := Lib.hid (HS.out.below (below_step HB.out HBx.out))
                  have HPx := Lib.hid (HSp.out.below HBx.out)
                  by_cases him : ii < m
                  · have hii : ii < n := by omega
                    have hpi := HP.out.lt hw1 hii
                    have hci := slNk HPx.out (i := ii) (by rw [HP.out.len]; exact hii)
                    have hli := slIk HSx.out (i := p.getD ii 0) (by rw [Hl.out]; exact hpi)
                    have j1 : decide ((ii : Int) < (m : Int)) = true := decide_eq_true (by omega)
                    have j1n : decide (ii < m) = true := decide_eq_true him
                    have j5 : (0 : Int) ≤ (ii : Int) := by omega
                    have j6 : (ii : Int) < (n : Int) := by omega
                    have j7 : (0 : Int) ≤ ((p.getD ii 0 : Nat) : Int) := by omega
                    have j8 : ((p.getD ii 0 : Nat) : Int) < (n : Int) := by omega
                    by_cases hkz : kk < z
                    · have hkn : kk < n := by omega
                      have hpk := HP.out.lt hw1 hkn
                      have hck := slNk HPx.out (i := kk) (by rw [HP.out.len]; exact hkn)
                      have hlk := slIk HSx.out (i := p.getD kk 0) (by rw [Hl.out]; exact hpk)
                      have j2 : decide ((z : Int) ≤ (kk : Int)) = false := decide_eq_false (by omega)
                      have j2n : decide (z ≤ kk) = false := decide_eq_false (by omega)
                      have j9 : (0 : Int) ≤ (kk : Int) := by omega
                      have j10 : (kk : Int) < (n : Int) := by omega
                      have j11 : (0 : Int) ≤ ((p.getD kk 0 : Nat) : Int) := by omega
                      have j12 : ((p.getD kk 0 : Nat) : Int) < (n : Int) := by omega
                      have jj : (ii : Int) < (m : Int) := by omega
                      by_cases hle : l.getD (p.getD ii 0) 0 ≤ l.getD (p.getD kk 0) 0
                      · have HM7 := Lib.hid (HT.out.left HM.out hi1 him hk1 (.inr ⟨hkz, hle⟩))
                        obtain ⟨u, hu⟩ : ∃ u, l.getD (p.getD ii 0) 0 = u := ⟨_, rfl⟩
                        obtain ⟨v, hv⟩ : ∃ v, l.getD (p.getD kk 0) 0 = v := ⟨_, rfl⟩
                        obtain ⟨pi, hpi'⟩ : ∃ u, p.getD ii 0 = u := ⟨_, rfl⟩
                        obtain ⟨pk, hpk'⟩ : ∃ u, p.getD kk 0 = u := ⟨_, rfl⟩
                        rw [hu] at hli hle
                        rw [hv] at hlk hle
                        rw [hpi'] at hci hli j7 j8 hpi
                        rw [hpk'] at hck hlk j11 j12 hpk
                        have jl : decide (u ≤ v) = true := decide_eq_true hle
                        clear hu hv hpi' hpk' hpi hpk hii hkn hle
                        go_wp2_with fail
                        go_quiet (fail)
                        obtain ⟨w9, hw9⟩ : ∃ w9, wr.drewN nq = w9 := ⟨_, rfl⟩
                        have hB9 : Below w4.heap.size w4 w9 := by rw [← hw9]; exact HBx.out.trans (below_drewN _ _ _)
                        have hown9 := own_below Hox.out (below_drewN wr.heap.size wr nq)
                        rw [hw9] at hown9 ⊢
                        clear hw9
                        have hcx := slNk (HSp.out.below hB9) (i := ii) (by rw [HT.out.bl.len]; omega)
                        clear hci hck hli hlk
                        generalize p.getD ii 0 = xv at *
                        have hs9 := hB9.size
                        have hal := Hal.out
                        go_wp2_with (at_builtin; refine app_int rfl _ _ rfl w4.heap.size _ (NI (acc ++ ac2)) rfl (World.ownsRow.alloc hown9 _) (some ⟨w9.heap.size, 0, none⟩) 1 1 [(xv : Int)] rfl (fun h => by cases h) rfl (sl_blk (heap_alloc_new w9 _)) (by rw [NI_length]; omega) (by simp; omega) ?_; intro v7 w7 hown7 hg7 _)
                        have hB7 : Below w4.heap.size w4 w7 := (hB9.alloc hB9.size _).grown hg7 (by simp; omega) (fun k hk => (World.ownsRow.lt hown9 k hk).1)
                        have e7 : NI (acc ++ ac2) ++ [(xv : Int)] = NI (acc ++ (ac2 ++ [xv])) := by simp [NI]
                        rw [e7] at hown7
                        go_roundw
                        case rel => exact ⟨ii + 1, kk, ac2 ++ [xv], by omega, by omega, hk1, hk2, congrArg (Value.int .i64) (by omega), rfl, hown7, HM7, hB7⟩
                        case measure => simp [intOf]; omega
                      · have HM7 := Lib.hid (HT.out.right HM.out hi1 hk1 hkz (.inr ⟨him, hle⟩))
                        obtain ⟨u, hu⟩ : ∃ u, l.getD (p.getD ii 0) 0 = u := ⟨_, rfl⟩
                        obtain ⟨v, hv⟩ : ∃ v, l.getD (p.getD kk 0) 0 = v := ⟨_, rfl⟩
                        obtain ⟨pi, hpi'⟩ : ∃ u, p.getD ii 0 = u := ⟨_, rfl⟩
                        obtain ⟨pk, hpk'⟩ : ∃ u, p.getD kk 0 = u := ⟨_, rfl⟩
                        rw [hu] at hli hle
                        rw [hv] at hlk hle
                        rw [hpi'] at hci hli j7 j8 hpi
                        rw [hpk'] at hck hlk j11 j12 hpk
                        have jl : decide (u ≤ v) = false := decide_eq_false hle
                        clear hu hv hpi' hpk' hpi hpk hii hkn hle
                        go_wp2_with fail
                        go_quiet (fail)
                        obtain ⟨w9, hw9⟩ : ∃ w9, wr.drewN nq = w9 := ⟨_, rfl⟩
                        have hB9 : Below w4.heap.size w4 w9 := by rw [← hw9]; exact HBx.out.trans (below_drewN _ _ _)
                        have hown9 := own_below Hox.out (below_drewN wr.heap.size wr nq)
                        rw [hw9] at hown9 ⊢
                        clear hw9
                        have hcx := slNk (HSp.out.below hB9) (i := kk) (by rw [HT.out.bl.len]; omega)
                        clear hci hck hli hlk
                        generalize p.getD kk 0 = xv at *
                        have hs9 := hB9.size
                        have hal := Hal.out
                        go_wp2_with (at_builtin; refine app_int rfl _ _ rfl w4.heap.size _ (NI (acc ++ ac2)) rfl (World.ownsRow.alloc hown9 _) (some ⟨w9.heap.size, 0, none⟩) 1 1 [(xv : Int)] rfl (fun h => by cases h) rfl (sl_blk (heap_alloc_new w9 _)) (by rw [NI_length]; omega) (by simp; omega) ?_; intro v7 w7 hown7 hg7 _)
                        have hB7 : Below w4.heap.size w4 w7 := (hB9.alloc hB9.size _).grown hg7 (by simp; omega) (fun k hk => (World.ownsRow.lt hown9 k hk).1)
                        have e7 : NI (acc ++ ac2) ++ [(xv : Int)] = NI (acc ++ (ac2 ++ [xv])) := by simp [NI]
                        rw [e7] at hown7
                        go_roundw
                        case rel => exact ⟨ii, kk + 1, ac2 ++ [xv], hi1, hi2, by omega, by omega, rfl, congrArg (Value.int .i64) (by omega), hown7, HM7, hB7⟩
                        case measure => simp [intOf]; omega
                    · have j2 : decide ((z : Int) ≤ (kk : Int)) = true := decide_eq_true (by omega)
                      have j2n : decide (z ≤ kk) = true := decide_eq_true (by omega)
                      have jj : (ii : Int) < (m : Int) := by omega
                      have HM7 := Lib.hid (HT.out.left HM.out hi1 him hk1 (.inl (by omega)))
                      have hck := hci; have hlk := hli
                      go_wp2_with fail
                      go_quiet (fail)
                      obtain ⟨w9, hw9⟩ : ∃ w9, wr.drewN nq = w9 := ⟨_, rfl⟩
                      have hB9 : Below w4.heap.size w4 w9 := by rw [← hw9]; exact HBx.out.trans (below_drewN _ _ _)
                      have hown9 := own_below Hox.out (below_drewN wr.heap.size wr nq)
                      rw [hw9] at hown9 ⊢
                      clear hw9
                      have hcx := slNk (HSp.out.below hB9) (i := ii) (by rw [HT.out.bl.len]; omega)
                      clear hci hck hli hlk
                      generalize p.getD ii 0 = xv at *
                      have hs9 := hB9.size
                      have hal := Hal.out
                      go_wp2_with (at_builtin; refine app_int rfl _ _ rfl w4.heap.size _ (NI (acc ++ ac2)) rfl (World.ownsRow.alloc hown9 _) (some ⟨w9.heap.size, 0, none⟩) 1 1 [(xv : Int)] rfl (fun h => by cases h) rfl (sl_blk (heap_alloc_new w9 _)) (by rw [NI_length]; omega) (by simp; omega) ?_; intro v7 w7 hown7 hg7 _)
                      have hB7 : Below w4.heap.size w4 w7 := (hB9.alloc hB9.size _).grown hg7 (by simp; omega) (fun k hk => (World.ownsRow.lt hown9 k hk).1)
                      have e7 : NI (acc ++ ac2) ++ [(xv : Int)] = NI (acc ++ (ac2 ++ [xv])) := by simp [NI]
                      rw [e7] at hown7
                      go_roundw
                      case rel => exact ⟨ii + 1, kk, ac2 ++ [xv], by omega, by omega, hk1, hk2, congrArg (Value.int .i64) (by omega), rfl, hown7, HM7, hB7⟩
                      case measure => simp [intOf]; omega
                  · by_cases hkz : kk < z
                    · have hkn : kk < n := by omega
                      have hck := slNk HPx.out (i := kk) (by rw [HP.out.len]; exact hkn)
                      have j1 : decide ((ii : Int) < (m : Int)) = false := decide_eq_false (by omega)
                      have j1n : decide (ii < m) = false := decide_eq_false him
                      have j2 : decide ((z : Int) ≤ (kk : Int)) = false := decide_eq_false (by omega)
                      have j2n : decide (z ≤ kk) = false := decide_eq_false (by omega)
                      have j4 : (kk : Int) < (z : Int) := by omega
                      have jm : ¬ (ii : Int) < (m : Int) := by omega
                      have j9 : (0 : Int) ≤ (kk : Int) := by omega
                      have j10 : (kk : Int) < (n : Int) := by omega
                      have HM7 := Lib.hid (HT.out.right HM.out hi1 hk1 hkz (.inl (by omega)))
                      have hci := hck; have hli := hck; have hlk := hck
                      go_wp2_with fail
                      go_quiet (fail)
                      obtain ⟨w9, hw9⟩ : ∃ w9, wr.drewN nq = w9 := ⟨_, rfl⟩
                      have hB9 : Below w4.heap.size w4 w9 := by rw [← hw9]; exact HBx.out.trans (below_drewN _ _ _)
                      have hown9 := own_below Hox.out (below_drewN wr.heap.size wr nq)
                      rw [hw9] at hown9 ⊢
                      clear hw9
                      have hcx := slNk (HSp.out.below hB9) (i := kk) (by rw [HT.out.bl.len]; omega)
                      clear hci hck hli hlk
                      generalize p.getD kk 0 = xv at *
                      have hs9 := hB9.size
                      have hal := Hal.out
                      go_wp2_with (at_builtin; refine app_int rfl _ _ rfl w4.heap.size _ (NI (acc ++ ac2)) rfl (World.ownsRow.alloc hown9 _) (some ⟨w9.heap.size, 0, none⟩) 1 1 [(xv : Int)] rfl (fun h => by cases h) rfl (sl_blk (heap_alloc_new w9 _)) (by rw [NI_length]; omega) (by simp; omega) ?_; intro v7 w7 hown7 hg7 _)
                      have hB7 : Below w4.heap.size w4 w7 := (hB9.alloc hB9.size _).grown hg7 (by simp; omega) (fun k hk => (World.ownsRow.lt hown9 k hk).1)
                      have e7 : NI (acc ++ ac2) ++ [(xv : Int)] = NI (acc ++ (ac2 ++ [xv])) := by simp [NI]
                      rw [e7] at hown7
                      go_roundw
                      case rel => exact ⟨ii, kk + 1, ac2 ++ [xv], hi1, hi2, by omega, by omega, rfl, congrArg (Value.int .i64) (by omega), hown7, HM7, hB7⟩
                      case measure => simp [intOf]; omega
                    · have HK7 := Lib.hid (HT.out.done HM.out (by omega) (by omega) HK.out)
                      have jm : ¬ (ii : Int) < (m : Int) := by omega
                      have jz : ¬ (kk : Int) < (z : Int) := by omega
                      have e9 : (j + 1) * (2 * wd) = a + 2 * wd := by rw [Nat.succ_mul, Hja.out]
                      go_wp2_with fail
                      go_roundw
                      case rel => exact ⟨j + 1, a + 2 * wd, acc ++ ac2, e9, by omega, congrArg (Value.int .i64) (by omega), Hox.out, HK7, HBx.out⟩
                      case measure => simp [intOf]; omega
              · have hani : ¬ (a : Int) < (n : Int) := by omega
                have HP2 := Lib.hid (HK.out.done (by omega))
                obtain ⟨A9, c9, hv9, hS9, _, _⟩ := own_sl hown
                subst hv9
                have hal := HP2.out.len
                rw [NI_length, hal]
                have HB9 := Lib.hid (below_step HB.out hBq)
                have HS9 := Lib.hid hS9
                clear hS9 hown hBq
                go_wp2_with fail
                go_roundw
                case rel => exact ⟨2 * wd, acc, A9, c9, by omega, by omega, congrArg (Value.int .i64) (by omega), rfl, HP2, HS9.out, HB9.out⟩
                case measure => simp [intOf]; omega
          · have hwni : ¬ (wd : Int) < (n : Int) := by omega
            have HSt := Lib.hid (HP.out.all Hl.out (by omega))
            have HSp := Lib.hid hSp
            have HB := Lib.hid hB
            clear hSp hB
            go_wp2_with fail
            go_ret
            exact ⟨_, _, p, rfl, HSt.out, HSp.out, HB.out⟩
end Go.Proofs.YtfjhcgmaignaoaaGreat
/- haystackref6: closed and Turn at any row, Back. -/
namespace Go.Proofs.YtfjhcgmaignaoaaGreat
set_option maxRecDepth 100000
set_option linter.unusedVariables false
set_option linter.unusedSimpArgs false
set_option maxRecDepth 100000
open Go.RowKit Fm Rank
theorem closed6G_any (w : World) (A : Option Addr) (n cap : Nat) (s : List Int) (hl : s.length = n) (hn : n ≤ 65536) (hS : Sl w A (VI s)) :
    Calls Tryz.prog 67 #[.slice A n cap] w (ClosedP w s) := by
  have HS := Lib.hid hS
  have Hl := Lib.hid hl
  clear hS hl
  go_enter Tryz.func67, Tryz.ntmps67
  go_wp2_with fail
  go_loop [3] (fun i => ∃ k : Nat, k ≤ n ∧ i = .int .i64 (k : Int) ∧ Hid (∀ j, j < k → 0 ≤ s.getD j 0 ∧ (s.getD j 0 = 0 ↔ j + 1 = n))) (fun i => n - (intOf i).toNat)
  case atStart => exact ⟨0, Nat.zero_le _, rfl, Lib.hid (fun j hj => absurd hj (Nat.not_lt_zero _))⟩
  case round =>
    obtain ⟨k, hk, rfl, HA⟩ := hrel
    by_cases hkm : k < n
    · obtain ⟨b, off, rfl, _⟩ := HS.out.lit (j := 0) (by rw [VI_length, Hl.out]; omega)
      have hca := slIk HS.out (i := k) (by rw [Hl.out]; exact hkm)
      obtain ⟨x, hx⟩ : ∃ x, s.getD k 0 = x := ⟨_, rfl⟩
      rw [hx] at hca
      have Hx := Lib.hid hx
      clear hx
      have j1 : (k : Int) < (n : Int) := by omega
      by_cases hneg : x < 0
      · have HN := Lib.hid (show ¬ ClosedI s from fun h => by have := (h.1 k (by rw [Hl.out]; exact hkm)).1; rw [Hx.out] at this; omega)
        go_wp2_with fail
        go_ret
        exact ⟨false, rfl, ⟨fun h => (by cases h), fun h => absurd h HN.out⟩, rfl⟩
      · have hneg' : (0 : Int) ≤ x := by omega
        obtain ⟨d, hd⟩ : ∃ d, n = d + 1 := ⟨n - 1, by omega⟩
        have hdn : (n : Int) - 1 = (d : Int) := by omega
        by_cases hx0 : x = 0
        · subst hx0
          by_cases hkd : k = d
          · subst hkd
            have hb : ((k : Int) == (k : Int)) = true := by simp
            go_wp2_with fail
            exact ⟨⟨k + 1, by omega, by go_num, Lib.hid (fun j hj => by
              rcases Nat.lt_succ_iff_lt_or_eq.1 hj with h | h
              · exact HA.out j h
              · subst h; rw [Hx.out]; omega)⟩, by simp [intOf]; omega⟩
          · have y2 : ((k : Int) == (d : Int)) = false := by rw [beq_eq_false_iff_ne]; omega
            have y3 : (k == d) = false := by rw [beq_eq_false_iff_ne]; omega
            have HN := Lib.hid (show ¬ ClosedI s from fun h => by have := (h.1 k (by rw [Hl.out]; exact hkm)).2 Hx.out; rw [Hl.out] at this; omega)
            go_wp2_with fail
            go_ret
            exact ⟨false, rfl, ⟨fun h => (by cases h), fun h => absurd h HN.out⟩, rfl⟩
        · have y1 : (x == 0) = false := by rw [beq_eq_false_iff_ne]; exact hx0
          by_cases hkd : k = d
          · subst hkd
            have hb : ((k : Int) == (k : Int)) = true := by simp
            have HN := Lib.hid (show ¬ ClosedI s from fun h => by have := h.2.2; rw [Hl.out, hd] at this; simp only [Nat.add_sub_cancel] at this; rw [Hx.out] at this; exact hx0 this)
            go_wp2_with fail
            go_ret
            exact ⟨false, rfl, ⟨fun h => (by cases h), fun h => absurd h HN.out⟩, rfl⟩
          · have y2 : ((k : Int) == (d : Int)) = false := by rw [beq_eq_false_iff_ne]; omega
            have y3 : (k == d) = false := by rw [beq_eq_false_iff_ne]; omega
            go_wp2_with fail
            exact ⟨⟨k + 1, by omega, by go_num, Lib.hid (fun j hj => by
              rcases Nat.lt_succ_iff_lt_or_eq.1 hj with h | h
              · exact HA.out j h
              · subst h; rw [Hx.out]; omega)⟩, by simp [intOf]; omega⟩
    · obtain rfl : n = k := by omega
      by_cases h0 : n = 0
      · subst h0
        have HN := Lib.hid (show ¬ ClosedI s from fun h => by have := h.2.1; rw [Hl.out] at this; omega)
        go_wp2_with fail
        go_ret
        exact ⟨false, rfl, ⟨fun h => (by cases h), fun h => absurd h HN.out⟩, rfl⟩
      · have HY := Lib.hid (show ClosedI s from ⟨fun i hi => by rw [Hl.out] at hi ⊢; have := HA.out i hi; exact ⟨this.1, this.2.1⟩, by rw [Hl.out]; omega, (HA.out (s.length - 1) (by rw [Hl.out]; omega)).2.2 (by rw [Hl.out]; omega)⟩)
        have j0 : (0 : Int) < (n : Int) := by omega
        go_wp2_with fail
        go_ret
        refine ⟨_, rfl, ⟨fun _ => HY.out, fun _ => ?_⟩, rfl⟩
        first | rfl | (simp; omega)
theorem turn6G_any (w : World) (A : Option Addr) (n cap : Nat) (s : List Int) (hl : s.length = n) (hn : n ≤ 65536) (hS : Sl w A (VI s)) :
    Calls Tryz.prog 38 #[.slice A n cap] w (TurnP w n s) := by
  by_cases hc : ClosedI s
  · obtain ⟨t, ht, rfl⟩ := closedI_of hc
    have hp := ht.pos
    rw [NI_length] at hl
    obtain ⟨b, off, rfl, _⟩ := hS.lit (j := 0) (by rw [VI_length, NI_length]; exact hp)
    refine (turn6_any w b off n cap t hl ht hn hS).mono ?_
    rintro e w' ⟨A', c', sa, rfl, hsa, hS', hB⟩
    exact .inl ⟨A', c', t, sa, rfl, ht, rfl, hsa, hS', hB⟩
  · have HC := Lib.hid (closed6G_any w A n cap s hl hn hS)
    have Hc := Lib.hid hc
    clear hc hS hl
    go_enter Tryz.func38, Tryz.ntmps38
    go_wp2_with fail
    go_at_call 67
    refine HC.out.mono ?_
    rintro e w' ⟨b, rfl, hb, rfl⟩
    obtain rfl : b = false := by
      cases b with
      | false => rfl
      | true => exact absurd (hb.1 rfl) Hc.out
    go_wp2_with fail
    go_ret2
    exact .inr ⟨Hc.out, rfl, Below.refl _ _⟩
end Go.Proofs.YtfjhcgmaignaoaaGreat
/- haystackref6.Back, walked. -/
namespace Go.Proofs.YtfjhcgmaignaoaaGreat
set_option maxRecDepth 100000
set_option linter.unusedVariables false
set_option linter.unusedSimpArgs false
set_option maxRecDepth 100000
open Go.RowKit Fm Rank
def Back6P (w : World) (n : Nat) (l : List Int) (e : Ending) (w' : World) : Prop :=
  (∃ B c s, e = .returned (.tuple #[.slice B n c, .int .i64 0]) ∧ Turns l s ∧ (∀ s', Turns l s' → s' = s) ∧ Sl w' B (VI (NI s)) ∧ Below w.heap.size w w') ∨
  (e = .returned (.tuple #[.slice none 0 0, .int .i64 3]) ∧ (∀ s, ¬ Turns l s) ∧ Below w.heap.size w w')
/-- what is read on the way, and a 0 at the end -/
def wayR (l : List Int) (t : List Nat) (n k : Nat) : List Int := wayK l t (n - 1) k ++ [0]
theorem wayR_length (l : List Int) (t : List Nat) (n k : Nat) (hn : 0 < n) (h : k ≤ n - 1) : (wayR l t n k).length = n := by
  unfold wayR; rw [List.length_append, wayK_length _ _ _ _ h]; simp; omega
theorem wayR_zero (l : List Int) (t : List Nat) (n : Nat) (hn : 0 < n) : wayR l t n 0 = List.replicate n 0 := by
  unfold wayR
  rw [wayK_zero, ← List.replicate_succ', show n - 1 + 1 = n by omega]
theorem wayR_set (l : List Int) (t : List Nat) (n k : Nat) (h : k < n - 1) : (wayR l t n k).set (n - 2 - k) (l.getD (itr t k) 0) = wayR l t n (k + 1) := by
  unfold wayR
  rw [List.set_append_left _ _ (by rw [wayK_length _ _ _ _ (by omega)]; omega), show n - 2 - k = n - 1 - 1 - k by omega, wayK_set _ _ _ _ h]
theorem wayR_all (l : List Int) (t : List Nat) (n : Nat) (hl : l.length = n) : wayR l t n (n - 1) = wayS l t 0 := by
  unfold wayR wayK wayS
  rw [hl, Nat.sub_self, List.replicate_zero, List.nil_append]
  congr 1
theorem count_take (l : List Int) (i : Nat) (h : i < l.length) : (l.take (i + 1)).count 0 = (l.take i).count 0 + if l.getD i 0 = 0 then 1 else 0 := by
  rw [List.take_succ_eq_append_getElem h, List.count_append]
  congr 1
  simp [List.getD, List.getElem?_eq_getElem h, List.count_singleton]
set_option maxHeartbeats 8000000 in
theorem back6_any (w : World) (A : Option Addr) (n c : Nat) (l : List Int) (hl : l.length = n) (hn : n ≤ 65536) (hS : Sl w A (VI l)) :
    Calls Tryz.prog 29 #[.slice A n c] w (Back6P w n l) := by
  have HS := Lib.hid hS
  have Hl := Lib.hid hl
  have HSt := Lib.hid (stable6_any w A n c l hl hn hS)
  clear hS hl
  go_enter Tryz.func29, Tryz.ntmps29
  go_wp2_with fail
  go_loop [5, 6] (fun s5 q => ∃ (i k : Nat), i ≤ n ∧ q = .int .i64 (i : Int) ∧ s5 = .int .i64 (k : Int) ∧ k ≤ i ∧ Hid ((l.take i).count 0 = k) ∧ Hid (∀ j, j < i → 0 ≤ l.getD j 0)) (fun _ q => n - (intOf q).toNat)
  case atStart => exact ⟨0, 0, Nat.zero_le _, rfl, rfl, Nat.le_refl _, Lib.hid (by simp), Lib.hid (fun j hj => absurd hj (Nat.not_lt_zero _))⟩
  case round =>
    obtain ⟨i, k, hi, rfl, rfl, hki, HC, HA⟩ := hrel
    by_cases hin : i < n
    · obtain ⟨b, off, rfl, _⟩ := HS.out.lit (j := 0) (by rw [VI_length, Hl.out]; omega)
      have hca := slIk HS.out (i := i) (by rw [Hl.out]; exact hin)
      have hct := count_take l i (by rw [Hl.out]; exact hin)
      obtain ⟨x, hx⟩ : ∃ x, l.getD i 0 = x := ⟨_, rfl⟩
      rw [hx] at hca hct
      have Hx := Lib.hid hx
      have Hct := Lib.hid hct
      have j1 : (i : Int) < (n : Int) := by omega
      clear hx hct
      by_cases hneg : x < 0
      · have HN : Hid (∀ s, ¬ Turns l s) := Lib.hid (fun s h => by
          have := h.nat.1 x (by rw [← Hx.out]; rw [show l.getD i 0 = l[i]'(by rw [Hl.out]; exact hin) by simp [List.getD, List.getElem?_eq_getElem (show i < l.length by rw [Hl.out]; exact hin)]]; exact List.getElem_mem _)
          omega)
        go_wp2_with fail
        go_ret2
        exact .inr ⟨rfl, HN.out, Below.refl _ _⟩
      · have hneg' : (0 : Int) ≤ x := by omega
        have HA7 : Hid (∀ j, j < i + 1 → 0 ≤ l.getD j 0) := Lib.hid (fun j hj => by
          rcases Nat.lt_succ_iff_lt_or_eq.1 hj with h | h
          · exact HA.out j h
          · subst h; rw [Hx.out]; omega)
        by_cases hx0 : x = 0
        · subst hx0
          go_wp2_with fail
          exact ⟨⟨i + 1, k + 1, by omega, by go_num, by go_num, by omega, Lib.hid (by rw [Hct.out, HC.out, if_pos rfl]), HA7⟩, by simp [intOf]; omega⟩
        · have y1 : (x == 0) = false := by rw [beq_eq_false_iff_ne]; exact hx0
          go_wp2_with fail
          exact ⟨⟨i + 1, k, by omega, by go_num, rfl, by omega, Lib.hid (by rw [Hct.out, HC.out, if_neg hx0]; rfl), HA7⟩, by simp [intOf]; omega⟩
    · obtain rfl : n = i := by omega
      have hcc := HC.out
      rw [List.take_of_length_le (by rw [Hl.out]; exact Nat.le_refl _)] at hcc
      by_cases hk1 : k = 1
      · subst hk1
        have hpos : 0 < n := by omega
        clear HC hcc hin hi hki
        go_wp2_with fail
        go_at_call 54
        refine HSt.out.mono ?_
        rintro e w3 ⟨P, cp, o, rfl, ho, hSo, hB3⟩
        have hpo : o.Perm (List.range n) := by have := ho.perm; rwa [Hl.out] at this
        have hol : o.length = n := by rw [hpo.length_eq, List.length_range]
        obtain ⟨bp, op, rfl, _⟩ := hSo.lit (j := 0) (by rw [VI_length, NI_length]; omega)
        have hmk := make_int n (by omega) w3
        have HO := Lib.hid ho
        have HPo := Lib.hid hpo
        have Hol := Lib.hid hol
        have HSo := Lib.hid hSo
        have HB3 := Lib.hid hB3
        clear ho hpo hol hSo hB3 HSt
        go_wp2_with fail
        clear hmk
        have hN0 : IB (w3.alloc (.cells (I (List.replicate n 0)) 3)) w3.heap.size (NI (List.replicate n 0)) := by
          rw [NI_zeros]; exact heap_alloc_new w3 _
        go_loopw [9] (fun q wr => ∃ (j : Nat) (N : List Nat), j ≤ n ∧ q = .int .i64 (j : Int) ∧ IB wr w3.heap.size (NI N) ∧ Hid (Toj o N n j) ∧ Below w3.heap.size w3 wr) (fun q _ => n - (intOf q).toNat)
        case atStart => exact ⟨0, _, Nat.zero_le _, rfl, hN0, Lib.hid (Toj.start o n), (Below.refl _ w3).alloc (Nat.le_refl _) _⟩
        case round =>
          clear hN0
          obtain ⟨j, N, hj, rfl, hN, HT, hB⟩ := hrel
          have hNl := HT.out.len
          by_cases hjn : j < n
          · obtain ⟨bl, bs, blt, binj⟩ := perm_at HPo.out
            have hco := slNk (HSo.out.below hB) (i := j) (by rw [bl]; exact hjn)
            have hlo := blt j hjn
            have hc := hN.cell (i := o.getD j 0) (by rw [NI_length, hNl]; exact hlo)
            have hf := hN.free (o.getD j 0)
            have HT2 := Lib.hid (HT.out.step HPo.out hjn)
            have HN := Lib.hid (fun v => hN.set (o.getD j 0) v)
            have HB := Lib.hid hB
            clear hN hB bl bs blt binj hNl HT
            generalize (NI N).getD (o.getD j 0) 0 = y at *
            generalize o.getD j 0 = p at *
            go_wp2_with fail
            refine ⟨⟨j + 1, N.set p j, by omega, by go_num, ?_, HT2, below_cell HB.out (Nat.le_refl _) _ _ rfl⟩, by simp [intOf]; omega⟩
            have := HN.out (j : Int)
            rwa [show (NI N).set p (j : Int) = NI (N.set p j) by simp [NI, List.map_set]] at this
          · obtain rfl : n = j := by omega
            have HI1 := Lib.hid (HT.out.done HPo.out)
            have Hlt2 := Lib.hid HT.out.lt
            have HN := Lib.hid hN
            have Hnl := Lib.hid hNl
            have HB4 := Lib.hid (below_step HB3.out hB)
            have hg24 := hN.lt
            clear hN hB hNl HT
            obtain ⟨w4, hw4⟩ : ∃ W, W = wr := ⟨_, rfl⟩
            subst hw4
            have hmk := make_int n (by omega) w4
            go_wp2_with fail
            clear hmk
            have hS0 : IB (w4.alloc (.cells (I (List.replicate n 0)) 3)) w4.heap.size (wayR l N n 0) := by
              rw [wayR_zero _ _ _ hpos]; exact heap_alloc_new w4 _
            go_loopw [11, 12] (fun s11 s12 wr => ∃ k : Nat, k ≤ n - 1 ∧ s11 = .int .i64 ((itr N k : Nat) : Int) ∧ s12 = .int .i64 ((n : Int) - 2 - (k : Int)) ∧ IB wr w4.heap.size (wayR l N n k) ∧ Below w4.heap.size w4 wr) (fun _ s12 _ => ((intOf s12) + 1).toNat)
            case atStart => exact ⟨0, Nat.zero_le _, rfl, by first | rfl | go_num, hS0, (Below.refl _ w4).alloc (Nat.le_refl _) _⟩
            case round =>
              clear hS0
              obtain ⟨k, hk, rfl, rfl, hX, hB⟩ := hrel
              by_cases hkn : k < n - 1
              · obtain ⟨ii, hii⟩ : ∃ q, n - 2 - k = q := ⟨_, rfl⟩
                have e1 : (n : Int) - 2 - (k : Int) = (ii : Int) := by omega
                have hat : itr N k < n := by
                  cases k with
                  | zero => exact hpos
                  | succ k => exact Hlt2.out (by omega) _
                obtain ⟨ba, oa, rfl, _⟩ := HS.out.lit (j := 0) (by rw [VI_length, Hl.out]; omega)
                have hca := slIk (HS.out.below (below_step HB4.out hB)) (i := itr N k) (by rw [Hl.out]; exact hat)
                have hct := (HN.out.below hB).cell (i := itr N k) (by rw [NI_length, Hnl.out]; exact hat)
                rw [NI_getD _ _ (by rw [Hnl.out]; exact hat)] at hct
                have hcx := hX.cell (i := ii) (by rw [wayR_length _ _ _ _ hpos hk]; omega)
                have hfx := hX.free ii
                have hba := HS.out.lt _ rfl (fun e => by have := congrArg List.length e; rw [VI_length, Hl.out] at this; have h0 : n = 0 := this; omega)
                have hset := wayR_set l N n k hkn
                rw [hii] at hset
                have Hset := Lib.hid hset
                have HX := Lib.hid hX
                have HB := Lib.hid hB
                have Hit := Lib.hid (show N.getD (itr N k) 0 = itr N (k + 1) from rfl)
                have hne1 : ¬ ba = w4.heap.size := by have := HB4.out.size; have : ba < w.heap.size := hba; omega
                have hne3 : ¬ w3.heap.size = w4.heap.size := by omega
                have j1 : (itr N k : Int) < (n : Int) := by omega
                have j2 : (0 : Int) ≤ ((itr N k : Nat) : Int) := by omega
                have j3 : (ii : Int) < (n : Int) := by omega
                clear hset hX hB hba
                rw [Hit.out] at hct
                generalize (wayR l N n k).getD ii 0 = y at *
                obtain ⟨v, hv⟩ : ∃ v, l.getD (itr N k) 0 = v := ⟨_, rfl⟩
                rw [hv] at hca Hset
                clear hv Hit
                generalize itr N k = at0 at *
                obtain ⟨at1, hat1⟩ : ∃ q, itr N (k + 1) = q := ⟨_, rfl⟩
                rw [hat1] at hct
                have Hat1 := Lib.hid hat1
                clear hat1
                rw [e1]
                go_wp2_with fail
                refine ⟨⟨k + 1, by omega, by rw [Hat1.out], congrArg (Value.int .i64) (by omega), ?_, below_cell HB.out (Nat.le_refl _) _ _ rfl⟩, by first | (simp [intOf]; omega) | simp [intOf]⟩
                rw [← Hset.out]
                exact HX.out.set _ _
              · obtain rfl : k = n - 1 := by omega
                have ek : ¬ (0 : Int) ≤ (n : Int) - 2 - ((n - 1 : Nat) : Int) := by omega
                rw [wayR_all _ _ _ Hl.out] at hX
                have HB5 := Lib.hid (below_step HB4.out hB)
                have hwl : (wayS l N 0).length = n := by rw [wayS_length _ _ _ (by rw [Hl.out]; omega)]; exact Hl.out
                have Hway := Lib.hid (fun s (h : Turns l s) => (h.way HO.out HI1.out).2.2.2)
                have HTn := Lib.hid (turn6G_any wr (some ⟨w4.heap.size, 0, none⟩) n n _ hwl hn (sl_IB hX))
                have HSx := Lib.hid (sl_IB hX)
                have Hwl := Lib.hid hwl
                obtain ⟨w5, hw5⟩ : ∃ W, W = wr := ⟨_, rfl⟩
                subst hw5
                clear hX hB hwl
                go_wp2_with fail
                go_at_call 38
                refine HTn.out.mono ?_
                rintro e w7 (⟨B, cb, t, sa, rfl, hct, hts, hsa, hSt, hB7⟩ | ⟨hnc, rfl, hB7⟩)
                · have hlt7 : (trn t sa).length = n := by
                    have h3 := congrArg List.length hts
                    rw [NI_length, Hwl.out] at h3
                    rw [trn_length hsa, ← h3]
                  obtain ⟨bB, oB, rfl, _⟩ := hSt.lit (j := 0) (by rw [VI_length, NI_length, hlt7]; exact hpos)
                  obtain ⟨ba, oa, rfl, _⟩ := HS.out.lit (j := 0) (by rw [VI_length, Hl.out]; omega)
                  have HB8 := Lib.hid (below_step HB5.out hB7)
                  have HSx8 := Lib.hid (HSx.out.below hB7)
                  have HSt := Lib.hid hSt
                  have Hts := Lib.hid hts
                  have Hct := Lib.hid hct
                  have Hsa := Lib.hid hsa
                  have Hlt7 := Lib.hid hlt7
                  clear hts hct hsa hSt hB7 HTn hlt7
                  go_wp2_with fail
                  go_loopw [15] (fun q wr => ∃ i : Nat, i ≤ n ∧ q = .int .i64 (i : Int) ∧ Hid (∀ j, j < i → (((trn t sa).getD j 0 : Nat) : Int) = l.getD j 0) ∧ Hid (Below w7.heap.size w7 wr)) (fun q _ => n - (intOf q).toNat)
                  case atStart => exact ⟨0, Nat.zero_le _, rfl, Lib.hid (fun j hj => absurd hj (Nat.not_lt_zero _)), Lib.hid (Below.refl _ _)⟩
                  case round =>
                    obtain ⟨i, hi, rfl, HE, HBi⟩ := hrel
                    by_cases hin : i < n
                    · have hc1 := slNk (HSt.out.below HBi.out) (i := i) (by rw [Hlt7.out]; exact hin)
                      have hc2 := slIk (HS.out.below (below_step HB8.out HBi.out)) (i := i) (by rw [Hl.out]; exact hin)
                      obtain ⟨u, hu⟩ : ∃ u, (trn t sa).getD i 0 = u := ⟨_, rfl⟩
                      obtain ⟨v, hv⟩ : ∃ v, l.getD i 0 = v := ⟨_, rfl⟩
                      rw [hu] at hc1
                      rw [hv] at hc2
                      have Hu := Lib.hid hu
                      have Hv := Lib.hid hv
                      have j1 : (i : Int) < (n : Int) := by omega
                      clear hu hv
                      by_cases hne : (u : Int) = v
                      · subst hne
                        go_wp2_with fail
                        go_quiet (fail)
                        have HBj := Lib.hid (HBi.out.trans (below_drewN w7.heap.size wr nq))
                        go_wp2_with fail
                        go_roundw
                        case rel => exact ⟨i + 1, by omega, by go_num, Lib.hid (fun j hj => by
                          rcases Nat.lt_succ_iff_lt_or_eq.1 hj with h | h
                          · exact HE.out j h
                          · subst h; rw [Hu.out, Hv.out]), HBj⟩
                        case measure => simp [intOf]; omega
                      · have y1 : ((u : Int) == v) = false := by rw [beq_eq_false_iff_ne]; exact hne
                        have y2 : ((u : Int) != v) = true := by simp [bne, y1]
                        have HN : Hid (∀ s, ¬ Turns l s) := Lib.hid (fun s h => by
                          have e1 : NZ s = NI t := (Hway.out s h).symm.trans Hts.out
                          have e2 : s = t := NZ_inj e1
                          subst e2
                          obtain ⟨_, sa2, h2, h3⟩ := h
                          rw [h2.unique Hsa.out] at h3
                          apply hne
                          rw [← Hv.out, h3, NZ_getD, Hu.out])
                        go_wp2_with fail
                        go_quiet (fail)
                        have HBj := Lib.hid (below_step HB8.out (HBi.out.trans (below_drewN w7.heap.size wr nq)))
                        go_wp2_with fail
                        go_ret2
                        exact .inr ⟨rfl, HN.out, HBj.out⟩
                    · obtain rfl : n = i := by omega
                      have HTr : Hid (Turns l t) := Lib.hid ⟨Hct.out, sa, Hsa.out, by
                        apply List.ext_getElem
                        · rw [Hl.out, NZ_length, Hlt7.out]
                        · intro j h1 h2
                          have := HE.out j (by rw [← Hl.out]; exact h1)
                          rw [← NZ_getD] at this
                          simpa [List.getD, List.getElem?_eq_getElem h1, List.getElem?_eq_getElem h2] using this.symm⟩
                      have HS9 := HSx8.out.below HBi.out
                      rw [Hts.out] at HS9
                      have HS9 := Lib.hid HS9
                      have HB9 := Lib.hid (below_step HB8.out HBi.out)
                      go_wp2_with fail
                      go_ret2
                      exact .inl ⟨_, _, t, rfl, HTr.out, fun s' h => NZ_inj ((Hway.out s' h).symm.trans Hts.out), HS9.out, HB9.out⟩
                · have HN : Hid (∀ s, ¬ Turns l s) := Lib.hid (fun s h => hnc (by rw [Hway.out s h]; exact closedI_nat h.1))
                  have HB8 := Lib.hid (below_step HB5.out hB7)
                  clear hnc hB7 HTn
                  go_wp2_with fail
                  go_ret2
                  exact .inr ⟨rfl, HN.out, HB8.out⟩
      · have HN : Hid (∀ s, ¬ Turns l s) := Lib.hid (fun s h => hk1 (by rw [← hcc]; exact h.nat.2))
        have hk1i : ¬ (k : Int) = 1 := by omega
        have y1 : ((k : Int) == 1) = false := by rw [beq_eq_false_iff_ne]; exact hk1i
        have y2 : (k == 1) = false := by rw [beq_eq_false_iff_ne]; exact hk1
        clear hcc
        go_wp2_with fail
        go_ret2
        exact .inr ⟨rfl, HN.out, Below.refl _ _⟩
end Go.Proofs.YtfjhcgmaignaoaaGreat
/- Rows of bytes copied, each into a block of its own; spoil. -/
namespace Go.Proofs.YtfjhcgmaignaoaaGreat
set_option maxRecDepth 100000
set_option linter.unusedVariables false
set_option linter.unusedSimpArgs false
set_option maxRecDepth 100000
open Go.RowKit Fm Rank
set_option maxHeartbeats 4000000 in
/-- bytes are written over, and grown: of all that lay there their own block alone may have changed -/
theorem spoil_any (w : World) (base : Nat) (A : Option Addr) (cap : Nat) (p : List Nat) (hown : w.ownsRow base 5 1 (.slice A p.length cap) p.length (VY p)) (hn : p.length ≤ 65536) (hbase : base ≤ w.heap.size) :
    Calls Tryz.prog 9 #[.slice A p.length cap] w fun e w' => e = .returned (.tuple #[]) ∧ w.grownBy w' (Value.slice A p.length cap).ownBlock := by
  obtain ⟨ob, hob⟩ : ∃ ob, (Value.slice A p.length cap).ownBlock = ob := ⟨_, rfl⟩
  have Hob := Lib.hid hob
  clear hob
  go_enter Tryz.func9, Tryz.ntmps9
  go_wp2_with (at_builtin; refine app_u8_mv rfl _ _ rfl base _ p rfl (World.ownsRow.alloc hown _) ⟨w.heap.size, 0, none⟩ 1 1 [99] rfl rfl (sl_blk (heap_alloc_new w _)) (by omega) (by simp; omega) ?_; intro v3 w3 hown3 hg3 hmv3; obtain ⟨g3, cap3, cur3, rfl, hb3, hc3, ho3⟩ := own_blkP hown3 (by simp))
  have hg3 : (w.alloc (.cells #[.int .u8 99] 5)).grownBy w3 ob := (congrArg (fun o => (w.alloc (.cells #[.int .u8 99] 5)).grownBy w3 o) Hob.out).mp hg3
  have hmv3 : some g3 = ob ∨ some g3 = some (w.alloc (.cells #[.int .u8 99] 5)).heap.size := hmv3.imp (fun e => ho3.symm.trans (e.trans Hob.out)) (fun e => ho3.symm.trans e)
  have hgr : w.grownBy w3 ob := by
    refine ⟨hg3.os, hg3.tape, hg3.output, by have := hg3.size; simp at this; omega, fun k hk hne => ?_⟩
    rw [hg3.block k (by simp; omega) hne, Below.heap_alloc _ _ _ hk]
  have hg3' : some g3 = ob ∨ w.heap.size ≤ g3 := by
    rcases hmv3 with e | e
    · exact .inl e
    · have := Option.some.inj e
      simp at this
      exact .inr (by omega)
  have hlen : (p ++ [99]).length = p.length + 1 := by simp
  rw [hlen] at hc3
  try rw [hlen]
  have Hg3 := Lib.hid hg3'
  clear hg3' hown3 hg3 hmv3 ho3 hlen hown
  go_wp2_with fail
  go_loopw [3] (fun q wr => ∃ (j : Nat) (cur : Array Value), j ≤ p.length + 1 ∧ q = .int .i64 (j : Int) ∧ wr.heap[g3]? = some (.cells cur 5 (0, 0)) ∧ p.length + 1 ≤ cur.size ∧ w.grownBy wr ob) (fun q _ => p.length + 1 - (intOf q).toNat)
  case atStart => exact ⟨0, cur3, Nat.zero_le _, rfl, hb3, hc3, hgr⟩
  case round =>
    clear hb3 hc3 hgr
    obtain ⟨j, cur, hj, rfl, hb, hc, hgr⟩ := hrel
    by_cases hjn : j < p.length + 1
    · have hcell := cell_blk hb j
      rw [Array.getElem?_eq_getElem (by omega)] at hcell
      have hfr := frozen_blk hb j
      have j1 : (j : Int) < (p.length : Int) + 1 := by omega
      have j2 : (0 : Int) ≤ (j : Int) := by omega
      have hset := blk_set hb j (.int .u8 98)
      have Hset := Lib.hid hset
      have Hb := Lib.hid hb
      clear hset hb
      generalize cur[j] = y at *
      go_wp2_with fail
      refine ⟨⟨j + 1, _, by omega, by go_num, Hset.out, by simpa using hc, ?_⟩, by simp [intOf]; omega⟩
      rcases Hg3.out with h9 | h9
      · rw [← h9] at hgr ⊢
        exact grown_trans hgr (grown_set _ _ _ _)
      · exact grown_new hgr h9 _ _
    · obtain rfl : j = p.length + 1 := by omega
      go_wp2_with fail
      go_end0
      exact ⟨rfl, by rw [Hob.out]; exact hgr⟩
/-- rows of bytes, each in a block of its own -/
structure Copies (w : World) (base : Nat) (v : Value) (ts : List (List Nat)) (vs : List Value) : Prop where
  row : w.ownsRow base 25 1 v vs.length vs
  len : vs.length = ts.length
  own : ∀ j, j < vs.length → w.ownsRow base 5 1 (vs.getD j undef) (ts.getD j []).length (VY (ts.getD j []))
  ap : ∀ j k, j < k → k < vs.length → ∀ g, (vs.getD j undef).ownBlock = some g → (vs.getD k undef).ownBlock ≠ some g
theorem tags_apart {w : World} {b1 b2 : Nat} {e1 e2 : TypeId} {s1 s2 : Nat} {v1 v2 : Value} {n1 n2 : Nat} {x1 x2 : List Value} (h1 : w.ownsRow b1 e1 1 v1 n1 x1) (h2 : w.ownsRow b2 e2 1 v2 n2 x2) (he : e1 ≠ e2) : ∀ g, v1.ownBlock = some g → v2.ownBlock ≠ some g := fun g h k => by
  obtain ⟨c1, hc1⟩ := own_tag h1 h
  obtain ⟨c2, hc2⟩ := own_tag h2 k
  rw [hc1] at hc2
  simp at hc2
  exact he hc2.2
theorem Copies.nil (w : World) (base : Nat) : Copies w base (.slice none 0 0) [] [] :=
  ⟨World.ownsRow_nil _ _ _ _, rfl, fun j hj => absurd hj (Nat.not_lt_zero _), fun j k _ hk => absurd hk (Nat.not_lt_zero _)⟩
theorem getD_app_l {α : Type} (a b : List α) (j : Nat) (d : α) (h : j < a.length) : (a ++ b).getD j d = a.getD j d := by
  simp [List.getD, List.getElem?_append_left h]
theorem getD_app_r {α : Type} (a : List α) (x : α) (d : α) : (a ++ [x]).getD a.length d = x := by
  simp [List.getD]
/-- one more row copied -/
theorem Copies.step {w w1 w7 : World} {base : Nat} {v v7 v1 : Value} {ts : List (List Nat)} {vs : List Value} {t : List Nat} (h : Copies w base v ts vs) (hb : base ≤ w.heap.size)
    (o : Obj) (h1 : w1.ownsRow w.heap.size 5 1 v1 t.length (VY t)) (hB1 : Below w.heap.size w w1)
    (h7 : w7.ownsRow base 25 1 v7 (vs ++ [v1]).length (vs ++ [v1])) (hg7 : (w1.alloc o).grownBy w7 v.ownBlock) : Copies w7 base v7 (ts ++ [t]) (vs ++ [v1]) := by
  have hne : (25 : TypeId) ≠ 5 := by decide
  have hv1 : w1.ownsRow base 25 1 v vs.length vs := own_below h.row hB1
  have keep : ∀ (u : Value) (l : List Nat), w1.ownsRow base 5 1 u l.length (VY l) → w7.ownsRow base 5 1 u l.length (VY l) := fun u l hu => by
    refine World.ownsRow.kept (World.ownsRow.alloc hu o) hg7 ?_
    cases hv : v.ownBlock with
    | none =>
      cases u.ownBlock with
      | none => exact .inl rfl
      | some q => exact .inr (by simp)
    | some g => exact .inr (tags_apart (s1 := 1) (s2 := 1) hv1 hu hne g hv)
  refine ⟨h7, by simp [h.len], fun j hj => ?_, fun j k hjk hk g hg => ?_⟩
  · rcases Nat.lt_or_ge j vs.length with hl | hl
    · rw [getD_app_l _ _ _ _ hl, getD_app_l _ _ _ _ (by rw [← h.len]; exact hl)]
      exact keep _ _ (own_below (h.own j hl) hB1)
    · have : j = vs.length := by simp at hj; omega
      subst this
      rw [getD_app_r, h.len, getD_app_r]
      exact keep _ _ (own_mono h1 hb)
  · have hk' : k ≤ vs.length := by simp at hk; omega
    rw [getD_app_l _ _ _ _ (by omega)] at hg
    rcases Nat.lt_or_ge k vs.length with hl | hl
    · rw [getD_app_l _ _ _ _ hl]
      exact h.ap j k hjk hl g hg
    · have : k = vs.length := by omega
      subst this
      rw [getD_app_r]
      intro e
      have q1 := (World.ownsRow.lt (h.own j hjk) g hg).2
      have q2 := (World.ownsRow.lt h1 g e).1
      omega
theorem Copies.arg {w : World} {base n : Nat} {v : Value} {ts : List (List Nat)} {vs : List Value} (h : Copies w base v ts vs) (hn : ts.length = n) (hn2 : n ≤ 65536) (hl : ∀ t ∈ ts, t.length ≤ 65536) (hlt : ∀ t ∈ ts, ∀ b ∈ t, b < 256) : ∃ A c, v = .slice A n c ∧ Sl w A vs ∧ RArg w A n c ts := by
  obtain ⟨A, c, rfl, hS, _, _⟩ := own_sl h.row
  have hvn : vs.length = n := h.len.trans hn
  refine ⟨A, c, by rw [hvn], hS, hn, by omega, fun t ht => by have := hl t ht; omega, hlt, fun d hd => ?_⟩
  obtain ⟨a, rfl, hc⟩ := hS.some (j := d) (by omega)
  have hm : vs[d]? = some vs[d] := List.getElem?_eq_getElem (by omega)
  rw [hm] at hc
  have ho := h.own d (by omega)
  have hg : vs.getD d undef = vs[d] := by simp [List.getD, hm]
  rw [hg] at ho
  obtain ⟨A2, c2, hv2, hS2, _, _⟩ := own_sl ho
  rw [hv2] at ho hc
  have hcap := own_cap ho
  exact ⟨a, A2, _, c2, rfl, hc, rfl, hcap.1, hcap.2, hS2⟩
end Go.Proofs.YtfjhcgmaignaoaaGreat
/- haystackref7.From, walked. -/
namespace Go.Proofs.YtfjhcgmaignaoaaGreat
set_option maxRecDepth 100000
set_option linter.unusedVariables false
set_option linter.unusedSimpArgs false
set_option maxRecDepth 100000
open Go.RowKit Fm Rank
theorem getD_at9 {ts : List (List Nat)} {k : Nat} (h : k < ts.length) : ts.getD k [] = ts[k] := by simp [List.getD, List.getElem?_eq_getElem h]
theorem kept_ne {w w' : World} {base : Nat} {e : TypeId} {u : Value} {n : Nat} {xs : List Value} {r : Option Nat} (hu : w.ownsRow base e 1 u n xs) (hg : w.grownBy w' r) (hne : ∀ g, u.ownBlock = some g → r ≠ some g) : w'.ownsRow base e 1 u n xs := by
  refine World.ownsRow.kept hu hg ?_
  cases h : u.ownBlock with
  | none =>
    cases r with
    | none => exact .inl rfl
    | some q => exact .inr (by simp)
  | some g => exact .inr (fun e => hne g h e.symm)
theorem Copies.below {w w' : World} {base : Nat} {v : Value} {ts : List (List Nat)} {vs : List Value} (h : Copies w base v ts vs) (hb : Below w.heap.size w w') : Copies w' base v ts vs :=
  ⟨own_below h.row hb, h.len, fun j hj => own_below (h.own j hj) hb, h.ap⟩
theorem Copies.grown {w w' : World} {base g : Nat} {v : Value} {ts : List (List Nat)} {vs : List Value} (h : Copies w base v ts vs) (hg : w.grownBy w' (some g)) (hlt : g < base) : Copies w' base v ts vs := by
  have hne : ∀ {e : TypeId} {u : Value} {n : Nat} {xs : List Value}, w.ownsRow base e 1 u n xs → ∀ g', u.ownBlock = some g' → some g ≠ some g' := fun hu g' hg' e => by
    injection e with e
    subst e
    have := (World.ownsRow.lt hu g hg').1
    omega
  exact ⟨kept_ne h.row hg (hne h.row), h.len, fun j hj => kept_ne (h.own j hj) hg (hne (h.own j hj)), h.ap⟩
/-- the rows that were read, and the one that is being read -/
structure Reads (w : World) (base : Nat) (v tv : Value) (ts : List (List Nat)) (vs : List Value) (cur : List Nat) : Prop where
  cp : Copies w base v ts vs
  own : w.ownsRow base 5 1 tv cur.length (VY cur)
  ap : ∀ j, j < vs.length → ∀ g, (vs.getD j undef).ownBlock = some g → tv.ownBlock ≠ some g
theorem Reads.below {w w' : World} {base : Nat} {v tv : Value} {ts : List (List Nat)} {vs : List Value} {cur : List Nat} (h : Reads w base v tv ts vs cur) (hb : Below w.heap.size w w') : Reads w' base v tv ts vs cur :=
  ⟨h.cp.below hb, own_below h.own hb, h.ap⟩
theorem Reads.byte {w w' : World} {base : Nat} {v tv tv' : Value} {ts : List (List Nat)} {vs : List Value} {cur cur' : List Nat} (h : Reads w base v tv ts vs cur) (h' : w'.ownsRow base 5 1 tv' cur'.length (VY cur')) (hg : w.grownBy w' tv.ownBlock) (hmv : tv'.ownBlock = tv.ownBlock ∨ tv'.ownBlock = some w.heap.size) : Reads w' base v tv' ts vs cur' := by
  have hne : (25 : TypeId) ≠ 5 := by decide
  refine ⟨⟨kept_ne h.cp.row hg fun g hg2 => tags_apart (s1 := 1) (s2 := 1) h.cp.row h.own hne g hg2, h.cp.len, fun j hj => kept_ne (h.cp.own j hj) hg fun g hg2 => h.ap j hj g hg2, h.cp.ap⟩, h', fun j hj g hg2 => ?_⟩
  rcases hmv with e | e
  · rw [e]; exact h.ap j hj g hg2
  · rw [e]
    intro e2
    have := (World.ownsRow.lt (h.cp.own j hj) g hg2).2
    injection e2 with e3
    omega
theorem Reads.push {w w' : World} {base : Nat} {v v' tv : Value} {ts : List (List Nat)} {vs : List Value} {cur : List Nat} (h : Reads w base v tv ts vs cur) (h' : w'.ownsRow base 25 1 v' (vs ++ [tv]).length (vs ++ [tv])) (hg : w.grownBy w' v.ownBlock) : Copies w' base v' (ts ++ [cur]) (vs ++ [tv]) := by
  have hne : (25 : TypeId) ≠ 5 := by decide
  have keep : ∀ (u : Value) (l : List Nat), w.ownsRow base 5 1 u l.length (VY l) → w'.ownsRow base 5 1 u l.length (VY l) := fun u l hu => kept_ne hu hg fun g hg2 hg3 => tags_apart (s1 := 1) (s2 := 1) h.cp.row hu hne g hg3 hg2
  refine ⟨h', by simp [h.cp.len], fun j hj => ?_, fun j k hjk hk g hg2 => ?_⟩
  · rcases Nat.lt_or_ge j vs.length with hl | hl
    · rw [getD_app_l _ _ _ _ hl, getD_app_l _ _ _ _ (by rw [← h.cp.len]; exact hl)]
      exact keep _ _ (h.cp.own j hl)
    · have : j = vs.length := by simp at hj; omega
      subst this
      rw [getD_app_r, h.cp.len, getD_app_r]
      exact keep _ _ h.own
  · have hk' : k ≤ vs.length := by simp at hk; omega
    rw [getD_app_l _ _ _ _ (by omega)] at hg2
    rcases Nat.lt_or_ge k vs.length with hl | hl
    · rw [getD_app_l _ _ _ _ hl]
      exact h.cp.ap j k hjk hl g hg2
    · have : k = vs.length := by omega
      subst this
      rw [getD_app_r]
      exact h.ap j hjk g hg2
/-- a new row is begun -/
theorem Copies.reads {w : World} {base : Nat} {v : Value} {ts : List (List Nat)} {vs : List Value} (h : Copies w base v ts vs) (hb : base ≤ w.heap.size) : Reads (w.alloc (.cells #[] 5)) base v (.slice (some ⟨w.heap.size, 0, none⟩) 0 0) ts vs [] := by
  refine ⟨h.below ((Below.refl _ w).alloc (Nat.le_refl _) _), World.ownsRow_made w #[] 0 hb (by decide) (by simp), fun j hj g hg e => ?_⟩
  have := (World.ownsRow.lt (h.own j hj) g hg).2
  have e2 : some w.heap.size = some g := e
  injection e2 with e3
  omega
/-- a row that is read, so far -/
structure Prs (s : List Nat) (i : Nat) (ts : List (List Nat)) (cur : List Nat) : Prop where
  eq : s.take i = body ts ++ cur.map (· + 2)
  lt : ∀ t ∈ ts, ∀ b ∈ t, b < 256
  lc : ∀ b ∈ cur, b < 256
theorem Prs.start (s : List Nat) : Prs s 0 [] [] := ⟨by simp [body], fun t ht => (by cases ht), fun b hb => (by cases hb)⟩
theorem Prs.len {s : List Nat} {i : Nat} {ts : List (List Nat)} {cur : List Nat} (h : Prs s i ts cur) : cur.length ≤ s.length ∧ ts.length ≤ s.length := by
  have h1 := congrArg List.length h.eq
  rw [List.length_append, List.length_map, List.length_take] at h1
  have := len_le_body ts
  omega
theorem Prs.one {s : List Nat} {i : Nat} {ts : List (List Nat)} {cur : List Nat} (h : Prs s i ts cur) (hi : i < s.length) (h1 : s.getD i 0 = 1) : Prs s (i + 1) (ts ++ [cur]) [] := by
  refine ⟨?_, fun t ht => ?_, fun b hb => (by cases hb)⟩
  · rw [getD_at hi] at h1
    rw [List.take_succ_eq_append_getElem hi, h.eq, h1, body_append]
    simp [body, txt]
  · rcases List.mem_append.1 ht with h2 | h2
    · exact h.lt t h2
    · simp at h2; subst h2; exact h.lc
theorem Prs.byte {s : List Nat} {i : Nat} {ts : List (List Nat)} {cur : List Nat} (h : Prs s i ts cur) (hi : i < s.length) (y : Nat) (h1 : s.getD i 0 = y + 2) (hy : y < 256) : Prs s (i + 1) ts (cur ++ [y]) := by
  refine ⟨?_, h.lt, fun b hb => ?_⟩
  · rw [getD_at hi] at h1
    rw [List.take_succ_eq_append_getElem hi, h.eq, h1]
    simp
  · rcases List.mem_append.1 hb with h2 | h2
    · exact h.lc b h2
    · simp at h2; omega
theorem Prs.done {s : List Nat} {i : Nat} {ts : List (List Nat)} {cur : List Nat} (h : Prs s i ts cur) (hs : Closed s) (hi : i + 1 = s.length) : s = body ts ++ cur.map (· + 2) ++ [0] := by
  have h0 := (hs.zero i (by omega)).2 (by omega)
  rw [getD_at (by omega)] at h0
  rw [← h.eq, ← h0, ← List.take_succ_eq_append_getElem (by omega), List.take_of_length_le (by omega)]
theorem Prs.row {s : List Nat} {i : Nat} {ts : List (List Nat)} (h : Prs s i ts []) (hs : Closed s) (hi : i + 1 = s.length) : s = rowT ts := by
  rw [h.done hs hi]; simp [rowT]
theorem Prs.bad {s : List Nat} {i : Nat} {ts : List (List Nat)} {cur : List Nat} (h : Prs s i ts cur) (hs : Closed s) (hi : i + 1 = s.length) (hc : cur ≠ []) : ¬ Good s := by
  intro hg
  have hd := h.done hs hi
  rcases List.eq_nil_or_concat cur with rfl | ⟨c, b, rfl⟩
  · exact hc rfl
  · rw [List.concat_eq_append] at hd
    have e : s = (body ts ++ c.map (· + 2)) ++ [b + 2, 0] := by rw [hd]; simp
    have e2 : s.length - 2 = (body ts ++ c.map (· + 2)).length := by rw [e, List.length_append]; simp
    have := hg.2 (by rw [e, List.length_append]; simp)
    rw [e2] at this
    rw [e] at this
    simp [List.getD] at this
def From7P (w : World) (l : List Int) (e : Ending) (w' : World) : Prop :=
  (∃ L n c ts vs base, e = .returned (.tuple #[.slice L n c, .int .i64 0]) ∧ Turns l (rowT ts) ∧ n ≤ 65536 ∧ ts.length = n ∧ (∀ t ∈ ts, t.length ≤ 65536) ∧ (∀ t ∈ ts, ∀ b ∈ t, b < 256) ∧ w.heap.size ≤ base ∧ Copies w' base (.slice L n c) ts vs ∧ Below w.heap.size w w') ∨
  (e = .returned (.tuple #[.slice none 0 0, .int .i64 3]) ∧ (∀ s, Turns l s → ¬ Good s) ∧ Below w.heap.size w w')
set_option maxHeartbeats 8000000 in
theorem from7_any (w : World) (A : Option Addr) (n c : Nat) (l : List Int) (hl : l.length = n) (hn : n ≤ 65536) (hS : Sl w A (VI l)) :
    Calls Tryz.prog 13 #[.slice A n c] w (From7P w l) := by
  have HBk := Lib.hid (back6_any w A n c l hl hn hS)
  have Hl := Lib.hid hl
  clear hS hl
  go_enter Tryz.func13, Tryz.ntmps13
  go_wp2_with fail
  go_at_call 29
  refine HBk.out.mono ?_
  rintro e w1 (⟨B, cb, s, rfl, ht, hu, hSb, hB1⟩ | ⟨rfl, hno, hB1⟩)
  · have hc := ht.1
    have hsl : s.length = n := by
      obtain ⟨_, sa, h1, h2⟩ := ht
      rw [← Hl.out, h2, NZ_length, trn_length h1]
    have hpos : 0 < n := by rw [← hsl]; exact hc.pos
    obtain ⟨b, off, rfl, _⟩ := hSb.lit (j := 0) (by rw [VI_length, NI_length]; omega)
    have HSb := Lib.hid hSb
    have Hc := Lib.hid hc
    have Ht := Lib.hid ht
    have Hu := Lib.hid hu
    have Hsl := Lib.hid hsl
    have HB1 := Lib.hid hB1
    have hb1 := hB1.size
    have Hno : Hid (¬ Good s → ∀ s', Turns l s' → ¬ Good s') := Lib.hid (fun h s' h1 h2 => h (by rw [← hu s' h1]; exact h2))
    clear hSb ht hu hsl hB1 HBk hc
    go_wp2_with fail
    go_loopw [6, 7, 8] (fun v tv q wr => ∃ (i : Nat) (ts : List (List Nat)) (vs : List Value) (cur : List Nat), i + 1 ≤ n ∧ q = .int .i64 (i : Int) ∧ Hid (Reads wr w1.heap.size v tv ts vs cur) ∧ Hid (Prs s i ts cur) ∧ Hid (Below w1.heap.size w1 wr)) (fun _ _ q _ => n - (intOf q).toNat)
    case atStart => exact ⟨0, [], [], [], hpos, rfl, Lib.hid ((Copies.nil w1 w1.heap.size).reads (Nat.le_refl _)), Lib.hid (Prs.start s), Lib.hid ((Below.refl _ w1).alloc (Nat.le_refl _) _)⟩
    case round =>
      obtain ⟨i, ts, vs, cur, hi, rfl, HR, HP, HB⟩ := hrel
      obtain ⟨A9, c9, hv9, _, _, _⟩ := own_sl HR.out.cp.row
      subst hv9
      obtain ⟨A8, c8, hv8, hS8, _, _⟩ := own_sl HR.out.own
      subst hv8
      have hlen := HP.out.len
      rw [Hsl.out] at hlen
      have Hvl := Lib.hid HR.out.cp.len
      by_cases hin : i + 1 < n
      · have hcell := slNk (HSb.out.below HB.out) (i := i) (by rw [Hsl.out]; omega)
        have hz := Hc.out.zero i (by rw [Hsl.out]; omega)
        rw [Hsl.out] at hz
        obtain ⟨x, hx⟩ : ∃ x, s.getD i 0 = x := ⟨_, rfl⟩
        rw [hx] at hcell hz
        have Hx := Lib.hid hx
        have hx0 : x ≠ 0 := fun e => by have := hz.1 e; omega
        have j1 : (i : Int) + 1 < (n : Int) := by omega
        have j0 : (i : Int) < (n : Int) := by omega
        have hsz := HB.out.size
        clear hz hx
        by_cases hx1 : x = 1
        · subst hx1
          have HP7 := Lib.hid (HP.out.one (by rw [Hsl.out]; omega) Hx.out)
          go_wp2_with (at_builtin; refine app_row rfl _ _ rfl w1.heap.size _ vs rfl (World.ownsRow.alloc HR.out.cp.row _) ⟨wr.heap.size, 0, none⟩ 1 A8 cur.length c8 rfl (sl_blk (heap_alloc_new wr _)) (by have := Hvl.out; omega) (by simp; omega) ?_; intro v7 w7 hown7 hg7)
          have HR7 := Lib.hid ((Reads.push (HR.out.below ((Below.refl _ wr).alloc (Nat.le_refl _) _)) hown7 hg7).reads (by have := hg7.size; simp at this; omega))
          have HB7 := Lib.hid ((((HB.out.alloc hsz _).grown hg7 (by simp; omega) (fun k hk => (World.ownsRow.lt HR.out.cp.row k hk).1)).alloc (by have := hg7.size; simp at this; omega) (.cells #[] 5)))
          clear hown7 hg7
          go_roundw
          case rel => exact ⟨i + 1, ts ++ [cur], _, [], by omega, by go_num, HR7, HP7, HB7⟩
          case measure => simp [intOf]; omega
        · have y1 : ((x : Int) == 1) = false := by rw [beq_eq_false_iff_ne]; omega
          have y2 : (x == 1) = false := by rw [beq_eq_false_iff_ne]; exact hx1
          by_cases hbig : 257 < x
          · have hbi : (257 : Int) < (x : Int) := by omega
            have HN := Lib.hid (Hno.out (fun h => by
              have := h.1 x (by rw [← Hx.out, getD_at (by rw [Hsl.out]; omega)]; exact List.getElem_mem _)
              omega))
            have HB9 := Lib.hid (below_step HB1.out HB.out)
            go_wp2_with fail
            go_ret2
            exact .inr ⟨rfl, HN.out, HB9.out⟩
          · obtain ⟨y, rfl⟩ : ∃ y, x = y + 2 := ⟨x - 2, by omega⟩
            have hy : y < 256 := by omega
            have HP7 := Lib.hid (HP.out.byte (by rw [Hsl.out]; omega) y Hx.out hy)
            have hbi : ¬ (257 : Int) < ((y + 2 : Nat) : Int) := by omega
            have hyc : ((y + 2 : Nat) : Int) - 2 = (y : Int) := by omega
            have hyc2 : (y : Int) + 2 - 2 = (y : Int) := by omega
            have hym : (y : Int) % 256 = (y : Int) := by omega
            go_wp2_with (at_builtin; refine app_u8_mv rfl _ _ rfl w1.heap.size _ cur rfl (World.ownsRow.alloc HR.out.own _) ⟨wr.heap.size, 0, none⟩ 1 1 [y] rfl rfl (sl_blk (heap_alloc_new wr _)) (by omega) (by simp; omega) ?_; intro v7 w7 hown7 hg7 hmv7)
            have HR7 := Lib.hid (Reads.byte (HR.out.below ((Below.refl _ wr).alloc (Nat.le_refl _) _)) hown7 hg7 hmv7)
            have HB7 := Lib.hid ((HB.out.alloc hsz _).grown hg7 (by simp; omega) (fun k hk => (World.ownsRow.lt HR.out.own k hk).1))
            clear hown7 hg7 hmv7
            go_roundw
            case rel => exact ⟨i + 1, ts, vs, cur ++ [y], by omega, by go_num, HR7, HP7, HB7⟩
            case measure => simp [intOf]; omega
      · have hin' : i + 1 = n := by omega
        have j1 : ¬ (i : Int) + 1 < (n : Int) := by omega
        have HB9 := Lib.hid (below_step HB1.out HB.out)
        by_cases hcur : cur = []
        · subst hcur
          have hrow := HP.out.row Hc.out (by rw [Hsl.out]; exact hin')
          subst hrow
          have hmo : ∀ t ∈ ts, t.length ≤ 65536 := fun t ht => by
            obtain ⟨k, hk, rfl⟩ := List.getElem_of_mem ht
            have q1 := congrArg List.length (body_take_succ ts k hk)
            have q2 := body_take_le ts (k + 1)
            have q3 := Hsl.out
            rw [rowT_length] at q3
            rw [List.length_append, txt_length, getD_at9 hk] at q1
            omega
          have Hmo := Lib.hid hmo
          clear hmo
          go_wp2_with fail
          go_ret2
          exact .inl ⟨_, _, _, ts, vs, w1.heap.size, rfl, Ht.out, by have := Hvl.out; omega, Hvl.out.symm, Hmo.out, HP.out.lt, hb1, HR.out.cp, HB9.out⟩
        · have hcl : 0 < cur.length := List.length_pos_iff.2 hcur
          have hcli : (0 : Int) < (cur.length : Int) := by omega
          have HN := Lib.hid (Hno.out (HP.out.bad Hc.out (by rw [Hsl.out]; exact hin') hcur))
          go_wp2_with fail
          go_ret2
          exact .inr ⟨rfl, HN.out, HB9.out⟩
  · have HB1 := Lib.hid hB1
    have Hno := Lib.hid hno
    clear hB1 hno HBk
    go_wp2_with fail
    go_ret2
    exact .inr ⟨rfl, fun s h => absurd h (Hno.out s), HB1.out⟩
end Go.Proofs.YtfjhcgmaignaoaaGreat
/- The law FmFrom, walked. -/
namespace Go.Proofs.YtfjhcgmaignaoaaGreat
set_option maxRecDepth 100000
set_option linter.unusedVariables false
set_option linter.unusedSimpArgs false
set_option maxRecDepth 100000
open Go.RowKit Fm Rank
set_option maxHeartbeats 8000000 in
theorem lawFrom (A P : Option Addr) (n c np cp : Nat) (l : List Int) (ps : List (List Nat)) (w : World) (hA : IArg w A n c l) (hP : RArg w P np cp ps) (hnm : n ≤ 9223372036854775807) :
    Calls Tryz.prog 4 #[.slice A n c, .slice P np cp] w (TrueBelow w) := by
  have HHp := Lib.hid (heavy_any w P np cp ps hP)
  have hnpm := hP.nm
  have HP := Lib.hid hP
  have HS := Lib.hid hA.sl
  have Hl := Lib.hid hA.len
  have Hnil := Lib.hid hA.nil
  have HK := Lib.hid (fun w => known_any w)
  clear hA hP
  go_enter Tryz.func4, Tryz.ntmps4
  by_cases h800 : 800 < n
  · have h8i : (800 : Int) < (n : Int) := by omega
    go_wp2_with fail
    go_ret
    exact ⟨rfl, Below.refl _ _⟩
  have hn8 : n ≤ 800 := by omega
  have hn8i : ¬ (800 : Int) < (n : Int) := by omega
  clear h800 hnm
  go_wp2_with fail
  go_at_call 6
  refine HHp.out.mono ?_
  rintro e w' ⟨hv, rfl, rfl, hblp⟩
  cases hv with
  | true =>
    go_wp2_with fail
    go_ret
    exact ⟨rfl, Below.refl _ _⟩
  | false =>
    have Hblp := Lib.hid (hblp rfl)
    clear hblp HHp
    by_cases h20 : 10 < np
    · have h20i : (10 : Int) < (np : Int) := by omega
      go_wp2_with fail
      go_ret
      exact ⟨rfl, Below.refl _ _⟩
    have hn20 : np ≤ 10 := by omega
    clear hnpm h20
    go_wp2_with (at_builtin; refine app_int rfl _ _ rfl w.heap.size _ [] rfl (app_new (Nat.le_refl _)) A n c l rfl Hnil.out Hl.out (HS.out.below ((Below.refl _ w).alloc (Nat.le_refl _) _)) (by simp; omega) (by simp) ?_; intro v1 w1 hown1 hgrow1 _)
    have hB1 : Below w.heap.size w w1 := ((Below.refl _ w).alloc (Nat.le_refl _) _).grown hgrow1 (by simp) (fun k hk => by have : some w.heap.size = some k := hk; injection this; omega)
    rw [List.nil_append, Hl.out] at hown1
    obtain ⟨A1, c1, rfl, hS1, hl1, hA1⟩ := own_sl hown1
    have Hown1 := Lib.hid hown1
    have HB1 := Lib.hid hB1
    have HS1 := Lib.hid hS1
    have HF := Lib.hid (from_any w1 A1 n c1 l Hl.out (by omega) hS1 (fun a ha => by
      subst ha
      by_cases h0 : n = 0
      · subst h0
        obtain ⟨b1, o1, rfl⟩ : ∃ b1 o1, a = ⟨b1, o1, none⟩ := by
          rcases hown1.2 with ⟨h, _⟩ | ⟨g, cap, cur, h, _⟩
          · cases h
          · injection h with h; injection h with h; exact ⟨_, _, h⟩
        rcases hown1.2 with ⟨h, _⟩ | ⟨g, cap, cur, h, hg, hb, _⟩
        · cases h
        · injection h with h; injection h with h; injection h with h; subst h; exact blk_lt hb
      · exact hS1.lt a rfl (fun e => by have := congrArg List.length e; rw [VI_length, Hl.out] at this; exact h0 this)))
    clear hown1 hgrow1 hB1 hS1 hl1 hA1
    try rw [Hl.out]
    go_wp2_with fail
    go_at_call 12
    refine HF.out.mono ?_
    intro e w2 hF2
    have hB2 : Below w1.heap.size w1 w2 := by rcases hF2 with ⟨_, _, _, _, _, _, _, _, h⟩ | ⟨_, _, h⟩ <;> exact h
    have HB2 := Lib.hid (below_step HB1.out hB2)
    have hs12 := hB2.size
    have HS2 := Lib.hid (HS1.out.below hB2)
    have Hown2 := Lib.hid (own_below Hown1.out hB2)
    have HR := Lib.hid (from7_any w2 A n c l Hl.out (by omega) (HS.out.below HB2.out))
    clear hB2 HF
    rcases hF2 with ⟨x, s, sa, rfl, ht, hu, hg, hI, _⟩ | ⟨rfl, hno, _⟩
    · have Ht := Lib.hid ht
      have Hu := Lib.hid hu
      have Hg := Lib.hid hg
      have HI := Lib.hid hI
      clear ht hu hg hI
      go_wp2_with fail
      go_at_call 13
      refine HR.out.mono ?_
      rintro e w3 (⟨L, m, cl, ts, vs, base, rfl, ht7, hm, htl, htm, htb, hbase, hcp, hB3⟩ | ⟨rfl, hno7, _⟩)
      · obtain rfl := Hu.out _ ht7
        have hpos : 0 < n := by
          obtain ⟨hc, sb, h1, h2⟩ := ht7
          rw [← Hl.out, h2, NZ_length, trn_length h1]
          exact hc.pos
        have HB3 := Lib.hid (below_step HB2.out hB3)
        have HI3 := Lib.hid (HI.out.below hB3)
        have HS3 := Lib.hid (HS2.out.below hB3)
        have HIn := Lib.hid (ints7_any A1 A l n n c1 c w3 HS3.out (HS.out.below HB3.out) Hl.out Hl.out (by omega))
        obtain ⟨g, cap3, cur3, hv3, hb3⟩ : ∃ g cap3 cur3, A1 = some ⟨g, 0, none⟩ ∧ w.heap.size ≤ g ∧ g < w1.heap.size ∧ w3.heap[g]? = some (.cells cur3 3 (0, 0)) ∧ n ≤ cur3.size ∧ cap3 = 0 := by
          obtain ⟨g, cap, cur, h1, h2, h3, h4, h5, _⟩ := own_blk Hown1.out (fun e => by injection e with e1 e2; omega)
          injection h1 with h1
          obtain ⟨g', cap', cur', h1', _, h3', _, h5', _⟩ := own_blk (own_below Hown2.out hB3) (fun e => by injection e with e1 e2; omega)
          injection h1' with h1'
          rw [h1] at h1'
          injection h1' with h1'
          injection h1' with h1'
          subst h1'
          exact ⟨g, 0, cur', h1, h2, blk_lt h3, h3', h5', rfl⟩
        obtain ⟨hg0, hg1, hb3, hc3, _⟩ := hb3
        subst hv3
        have Hb3 := Lib.hid hb3
        have Hcp := Lib.hid hcp
        have Htl := Lib.hid htl
        have Htm := Lib.hid htm
        have Htb := Lib.hid htb
        have hbs := HB2.out.size
        have hw12 := hB3.size
        clear ht7 htl htm htb hcp hB3 HR hb3
        go_wp2_with fail
        go_at_call 14
        refine HIn.out.mono ?_
        rintro e w4 ⟨rfl, q, hq⟩
        have hB34 : Below w3.heap.size w3 w4 := by rw [hq]; exact below_drewN _ _ _
        have Hb4 : Hid (w4.heap[g]? = some (.cells cur3 3 (0, 0))) := Lib.hid ((hB34.block _ (blk_lt Hb3.out)).trans Hb3.out)
        have HB4 := Lib.hid (below_step HB3.out hB34)
        have HI4 := Lib.hid (HI3.out.below hB34)
        have Hcp4 := Lib.hid (Hcp.out.below hB34)
        clear hq hB34 HIn Hb3
        go_wp2_with fail
        go_loopw [10] (fun q wr => ∃ (i : Nat) (cur : Array Value), i ≤ n ∧ q = .int .i64 (i : Int) ∧ Hid (wr.heap[g]? = some (.cells cur 3 (0, 0))) ∧ n ≤ cur.size ∧ Hid (w4.grownBy wr (some g))) (fun q _ => n - (intOf q).toNat)
        case atStart => exact ⟨0, cur3, Nat.zero_le _, rfl, Hb4, hc3, Lib.hid (grown_refl _ _)⟩
        case round =>
          clear Hb4 hc3
          obtain ⟨i, cur, hi, rfl, Hb, hc, HG⟩ := hrel
          by_cases hin : i < n
          · have hcell := cell_blk Hb.out i
            rw [Array.getElem?_eq_getElem (by omega)] at hcell
            have hfr := frozen_blk Hb.out i
            have j1 : (i : Int) < (n : Int) := by omega
            have j2 : (0 : Int) ≤ (i : Int) := by omega
            have Hset := Lib.hid (blk_set Hb.out i (.int .i64 (-1)))
            generalize cur[i] = y at *
            go_wp2_with fail
            refine ⟨⟨i + 1, _, by omega, by go_num, Hset, by simpa using hc, Lib.hid (grown_trans HG.out (grown_set _ _ _ _))⟩, by simp [intOf]; omega⟩
          · obtain rfl : n = i := by omega
            have HB9 := Lib.hid (HB4.out.grown HG.out HB4.out.size (fun k hk => by injection hk with hk; omega))
            have HI9 := Lib.hid (HI4.out.keep (w' := wr) fun k hk hk2 => HG.out.block k hk2 fun e => by injection e with e; omega)
            have hcp9 := Hcp4.out.grown HG.out (by omega)
            obtain ⟨A7, c7, hv7, hS7, hR7⟩ := hcp9.arg Htl.out hm Htm.out Htb.out
            injection hv7 with e1 e2 e3
            subst e1
            subst e3
            have HAl := Lib.hid (alike_any7 (asks := []) _ P none m cl np cp 0 0 HI9.out hR7 (HP.out.below HB9.out) ⟨fun _ => rfl, fun a ha => by cases ha⟩ rfl (by omega) (fun p hp => by have := body_eachH Hblp.out p hp; omega) (by omega))
            clear hcp9 hS7 hR7 HI9 HI4 Hcp4
            go_wp2_with fail
            go_at_call 10
            refine HAl.out.mono ?_
            rintro e w10 ⟨rfl, hB10⟩
            have HB10 := Lib.hid (below_step HB9.out hB10)
            clear hB10 HAl
            go_wp2_with fail
            refine (HK.out _).mono ?_
            rintro e w11 ⟨rfl, hB11⟩
            have HB11 := Lib.hid (below_step HB10.out hB11)
            clear hB11
            go_wp2_with fail
            go_ret
            exact ⟨rfl, HB11.out⟩
      · exact absurd Hg.out (hno7 _ Ht.out)
    · have Hno := Lib.hid hno
      clear hno
      go_wp2_with fail
      go_at_call 13
      refine HR.out.mono ?_
      rintro e w3 (⟨L, m, cl, ts, vs, base, rfl, ht7, hm, htl, htm, htb, hbase, hcp, hB3⟩ | ⟨rfl, hno7, hB3⟩)
      · exact absurd (rowT_good ts htb) (Hno.out _ ht7)
      · have HB3 := Lib.hid (below_step HB2.out hB3)
        have HS3 := Lib.hid (HS2.out.below hB3)
        have HIn := Lib.hid (ints7_any A1 A l n n c1 c w3 HS3.out (HS.out.below HB3.out) Hl.out Hl.out (by omega))
        have Hown3 := Lib.hid (own_below Hown2.out hB3)
        have hw12 := hB3.size
        have hbs := HB2.out.size
        clear hno7 hB3 HR
        go_wp2_with fail
        go_at_call 14
        refine HIn.out.mono ?_
        rintro e w4 ⟨rfl, q, hq⟩
        have hB34 : Below w3.heap.size w3 w4 := by rw [hq]; exact below_drewN _ _ _
        have HB4 := Lib.hid (below_step HB3.out hB34)
        have Hown4 := Lib.hid (own_below Hown3.out hB34)
        clear hq hB34 HIn
        by_cases h0 : n = 0
        · subst h0
          go_wp2_with fail
          go_loopw [10] (fun q wr => q = .int .i64 0 ∧ wr = w4) (fun _ _ => 0)
          case atStart => exact ⟨rfl, rfl⟩
          case round =>
            obtain ⟨rfl, rfl⟩ := hrel
            have HB9 := HB4
            go_wp2_with fail
            refine (HK.out _).mono ?_
            rintro e w11 ⟨rfl, hB11⟩
            have HB11 := Lib.hid (below_step HB9.out hB11)
            clear hB11
            go_wp2_with fail
            go_ret
            exact ⟨rfl, HB11.out⟩
        · obtain ⟨g, cap3, cur3, h1, hg0, hb4, _, hc3, _⟩ := own_blk Hown4.out (fun e => by injection e with e1 e2; exact h0 e2)
          injection h1 with h1
          subst h1
          have Hb4 := Lib.hid hb4
          clear hb4 Hown4 Hown3
          go_wp2_with fail
          go_loopw [10] (fun q wr => ∃ (i : Nat) (cur : Array Value), i ≤ n ∧ q = .int .i64 (i : Int) ∧ Hid (wr.heap[g]? = some (.cells cur 3 (0, 0))) ∧ n ≤ cur.size ∧ Hid (w4.grownBy wr (some g))) (fun q _ => n - (intOf q).toNat)
          case atStart => exact ⟨0, cur3, Nat.zero_le _, rfl, Hb4, hc3, Lib.hid (grown_refl _ _)⟩
          case round =>
            clear Hb4 hc3
            obtain ⟨i, cur, hi, rfl, Hb, hc, HG⟩ := hrel
            by_cases hin : i < n
            · have hcell := cell_blk Hb.out i
              rw [Array.getElem?_eq_getElem (by omega)] at hcell
              have hfr := frozen_blk Hb.out i
              have j1 : (i : Int) < (n : Int) := by omega
              have j2 : (0 : Int) ≤ (i : Int) := by omega
              have Hset := Lib.hid (blk_set Hb.out i (.int .i64 (-1)))
              generalize cur[i] = y at *
              go_wp2_with fail
              refine ⟨⟨i + 1, _, by omega, by go_num, Hset, by simpa using hc, Lib.hid (grown_trans HG.out (grown_set _ _ _ _))⟩, by simp [intOf]; omega⟩
            · obtain rfl : n = i := by omega
              have HB9 := Lib.hid (HB4.out.grown HG.out HB4.out.size (fun k hk => by injection hk with hk; omega))
              go_wp2_with fail
              refine (HK.out _).mono ?_
              rintro e w11 ⟨rfl, hB11⟩
              have HB11 := Lib.hid (below_step HB9.out hB11)
              clear hB11
              go_wp2_with fail
              go_ret
              exact ⟨rfl, HB11.out⟩
end Go.Proofs.YtfjhcgmaignaoaaGreat
