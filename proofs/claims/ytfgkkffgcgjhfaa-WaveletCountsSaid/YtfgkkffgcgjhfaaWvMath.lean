/- Wavelets: rows of symbols, by their digits; plain lists, no program. -/
import Derived.Test.YtfgkkffgcgjhfaaRank
namespace Go.Proofs.Ytfgkkffgcgjhfaa.Wv
set_option linter.unusedVariables false
set_option linter.unusedSimpArgs false
open Rank

def bitsOf (d : Nat) (l : List Nat) : List Bool := l.map fun x => x.testBit d
def prt (d : Nat) (l : List Nat) : List Nat := l.filter (fun x => x.testBit d == false) ++ l.filter (fun x => x.testBit d == true)
def zeros (d : Nat) (l : List Nat) : Nat := (l.filter (fun x => x.testBit d == false)).length
def nx (d : Nat) (l : List Nat) (b : Bool) (i : Nat) : Nat := if b then zeros d l + rk (bitsOf d l) true i else rk (bitsOf d l) false i
def seg {α : Type} (l : List α) (a z : Nat) : List α := (l.take z).drop a

theorem bitsOf_length (d : Nat) (l : List Nat) : (bitsOf d l).length = l.length := by simp [bitsOf]
theorem rk_bits (d : Nat) (l : List Nat) (b : Bool) (i : Nat) : rk (bitsOf d l) b i = ((l.take i).filter (fun x => x.testBit d == b)).length := by
  unfold rk bitsOf
  rw [← List.map_take, List.count_eq_countP, List.countP_map, List.countP_eq_length_filter]
  rfl
theorem take_len {α : Type} (a b : List α) : (a ++ b).take a.length = a := by simp
theorem drop_len {α : Type} (a b : List α) : (a ++ b).drop a.length = b := by simp
theorem filt_take (p : Nat → Bool) (l : List Nat) (z : Nat) : (l.filter p).take ((l.take z).filter p).length = (l.take z).filter p := by
  conv => lhs; rw [show l.filter p = (l.take z).filter p ++ (l.drop z).filter p by rw [← List.filter_append, List.take_append_drop]]
  rw [take_len]
theorem filt_seg (p : Nat → Bool) (l : List Nat) (a z : Nat) (h : a ≤ z) : ((l.filter p).take ((l.take z).filter p).length).drop ((l.take a).filter p).length = (seg l a z).filter p := by
  rw [filt_take]
  have e : l.take z = l.take a ++ seg l a z := by
    unfold seg
    have h2 : l.take a = (l.take z).take a := by rw [List.take_take, Nat.min_eq_left h]
    rw [h2, List.take_append_drop]
  rw [show (l.take z).filter p = (l.take a).filter p ++ (seg l a z).filter p by rw [e, List.filter_append]; ]
  rw [drop_len]
theorem filt_le (p : Nat → Bool) (l : List Nat) (z : Nat) : ((l.take z).filter p).length ≤ (l.filter p).length := by
  rw [← filt_take p l z, List.length_take]
  exact Nat.min_le_right _ _
theorem filt_len (d : Nat) (l : List Nat) : (l.filter (fun x => x.testBit d == false)).length + (l.filter (fun x => x.testBit d == true)).length = l.length := by
  induction l with
  | nil => rfl
  | cons x l ih =>
    by_cases h : x.testBit d = true
    · simp [List.filter_cons, h] at ih ⊢; omega
    · simp [List.filter_cons, h] at ih ⊢; omega
theorem part_length (d : Nat) (l : List Nat) : (prt d l).length = l.length := by
  unfold prt; rw [List.length_append, filt_len]
theorem part_mem (d : Nat) (l : List Nat) (x : Nat) : x ∈ prt d l ↔ x ∈ l := by
  unfold prt
  rw [List.mem_append, List.mem_filter, List.mem_filter]
  cases h : x.testBit d <;> simp [h]
theorem zeros_rk (d : Nat) (l : List Nat) : zeros d l = rk (bitsOf d l) false l.length := by
  rw [rk_bits, List.take_length]; rfl
theorem app_seg (A B : List Nat) (m n : Nat) : ((A ++ B).take (A.length + n)).drop (A.length + m) = (B.take n).drop m := by
  induction A with
  | nil => simp
  | cons x A ih =>
    rw [List.length_cons, show A.length + 1 + n = (A.length + n) + 1 by omega, show A.length + 1 + m = (A.length + m) + 1 by omega, List.cons_append, List.take_succ_cons, List.drop_succ_cons, ih]
/-- a prt of the row, where its elements of one digit go -/
theorem seg_nx (d : Nat) (l : List Nat) (b : Bool) (a z : Nat) (h : a ≤ z) : seg (prt d l) (nx d l b a) (nx d l b z) = (seg l a z).filter (fun x => x.testBit d == b) := by
  rw [← filt_seg _ l a z h]
  unfold nx
  cases b with
  | false =>
    simp only [Bool.false_eq_true, if_false]
    rw [rk_bits, rk_bits]
    unfold seg prt
    rw [List.take_append_of_le_length (filt_le _ _ _)]
  | true =>
    simp only [if_true]
    rw [rk_bits, rk_bits]
    unfold seg prt zeros
    rw [app_seg]
theorem nx_le (d : Nat) (l : List Nat) (b : Bool) (i : Nat) : nx d l b i ≤ l.length := by
  have h := filt_len d l
  unfold nx
  cases b with
  | false =>
    simp only [Bool.false_eq_true, if_false]
    rw [rk_bits]
    have := filt_le (fun x => x.testBit d == false) l i
    omega
  | true =>
    simp only [if_true]
    rw [rk_bits]
    have := filt_le (fun x => x.testBit d == true) l i
    unfold zeros
    omega
theorem nx_mono (d : Nat) (l : List Nat) (b : Bool) {a z : Nat} (h : a ≤ z) : nx d l b a ≤ nx d l b z := by
  unfold nx
  cases b with
  | false => simp only [Bool.false_eq_true, if_false]; exact rk_mono _ _ h
  | true => simp only [if_true]; have := rk_mono (bitsOf d l) true h; omega
theorem seg_length {α : Type} (l : List α) (a z : Nat) (h : z ≤ l.length) : (seg l a z).length = z - a := by
  unfold seg; rw [List.length_drop, List.length_take, Nat.min_eq_left h]
theorem seg_one (l : List Nat) (i : Nat) (h : i < l.length) : seg l i (i + 1) = [l.getD i 0] := by
  unfold seg
  rw [List.take_succ_eq_append_getElem h, List.drop_left' (by rw [List.length_take]; omega)]
  simp [List.getD, List.getElem?_eq_getElem h]
/-- where an element goes -/
theorem nx_getD (d : Nat) (l : List Nat) (i : Nat) (h : i < l.length) : nx d l ((l.getD i 0).testBit d) i < l.length ∧ (prt d l).getD (nx d l ((l.getD i 0).testBit d) i) 0 = l.getD i 0 := by
  generalize hb : (l.getD i 0).testBit d = b
  have hs := seg_nx d l b i (i + 1) (by omega)
  rw [seg_one l i h] at hs
  simp only [List.filter_cons, hb, beq_self_eq_true, if_true, List.filter_nil] at hs
  have hl := seg_length (prt d l) (nx d l b i) (nx d l b (i + 1)) (by rw [part_length]; exact nx_le _ _ _ _)
  rw [hs] at hl
  have h1 : nx d l b (i + 1) = nx d l b i + 1 := by simp at hl; omega
  have h2 := nx_le d l b (i + 1)
  rw [h1] at hs h2
  rw [seg_one _ _ (by rw [part_length]; omega)] at hs
  exact ⟨by omega, by injection hs⟩

/-- the row as it stands ahead of level k -/
def lvl (W : Nat) (l : List Nat) : Nat → List Nat
  | 0 => l
  | k + 1 => prt (W - 1 - k) (lvl W l k)
theorem rowAt_length (W : Nat) (l : List Nat) (k : Nat) : (lvl W l k).length = l.length := by
  induction k with
  | zero => rfl
  | succ k ih => rw [lvl, part_length, ih]
theorem rowAt_mem (W : Nat) (l : List Nat) (k x : Nat) : x ∈ lvl W l k ↔ x ∈ l := by
  induction k with
  | zero => rfl
  | succ k ih => rw [lvl, part_mem, ih]
/-- where a place goes, by the digits of c -/
def trk (W : Nat) (l : List Nat) (c i : Nat) : Nat → Nat
  | 0 => i
  | k + 1 => nx (W - 1 - k) (lvl W l k) (c.testBit (W - 1 - k)) (trk W l c i k)
theorem trk_le (W : Nat) (l : List Nat) (c i k : Nat) (h : i ≤ l.length) : trk W l c i k ≤ l.length := by
  cases k with
  | zero => exact h
  | succ k => rw [trk]; have := nx_le (W - 1 - k) (lvl W l k) (c.testBit (W - 1 - k)) (trk W l c i k); rwa [rowAt_length] at this
theorem trk_mono (W : Nat) (l : List Nat) (c k : Nat) {a z : Nat} (h : a ≤ z) : trk W l c a k ≤ trk W l c z k := by
  induction k with
  | zero => exact h
  | succ k ih => rw [trk, trk]; exact nx_mono _ _ _ ih
theorem half_eq (x c D : Nat) : x / 2 ^ D = c / 2 ^ D ↔ x / 2 ^ (D + 1) = c / 2 ^ (D + 1) ∧ x.testBit D = c.testBit D := by
  have hx : x / 2 ^ (D + 1) = x / 2 ^ D / 2 := by rw [Nat.pow_succ, Nat.div_div_eq_div_mul]
  have hc : c / 2 ^ (D + 1) = c / 2 ^ D / 2 := by rw [Nat.pow_succ, Nat.div_div_eq_div_mul]
  rw [hx, hc, Nat.testBit_eq_decide_div_mod_eq, Nat.testBit_eq_decide_div_mod_eq]
  generalize x / 2 ^ D = p
  generalize c / 2 ^ D = q
  constructor
  · rintro rfl; exact ⟨rfl, rfl⟩
  · rintro ⟨h1, h2⟩
    have h3 : (p % 2 = 1) ↔ (q % 2 = 1) := by simpa using h2
    omega
theorem seg_trk (W : Nat) (l : List Nat) (c a z : Nat) (h : a ≤ z) (hl : ∀ x ∈ l, x < 2 ^ W) (hc : c < 2 ^ W) (k : Nat) (hk : k ≤ W) :
    seg (lvl W l k) (trk W l c a k) (trk W l c z k) = (seg l a z).filter (fun x => x / 2 ^ (W - k) == c / 2 ^ (W - k)) := by
  induction k with
  | zero =>
    rw [lvl, trk, trk, Nat.sub_zero]
    refine (List.filter_eq_self.2 fun x hx => ?_).symm
    have hm : x ∈ l := by
      unfold seg at hx
      exact List.mem_of_mem_take (List.mem_of_mem_drop hx)
    rw [Nat.div_eq_of_lt (hl x hm), Nat.div_eq_of_lt hc, beq_self_eq_true]
  | succ k ih =>
    rw [lvl, trk, trk, seg_nx _ _ _ _ _ (trk_mono W l c k h), ih (by omega), List.filter_filter]
    congr 1
    funext x
    have e : W - k = (W - 1 - k) + 1 := by omega
    have e2 : W - (k + 1) = W - 1 - k := by omega
    rw [e2, e, Bool.eq_iff_iff, Bool.and_eq_true, beq_iff_eq, beq_iff_eq, beq_iff_eq, half_eq x c (W - 1 - k)]
    exact And.comm
/-- Rank -/
theorem trk_rank (W : Nat) (l : List Nat) (c z : Nat) (hz : z ≤ l.length) (hl : ∀ x ∈ l, x < 2 ^ W) (hc : c < 2 ^ W) : trk W l c z W - trk W l c 0 W = rk l c z := by
  have h := seg_trk W l c 0 z (Nat.zero_le _) hl hc W (Nat.le_refl _)
  have h2 := congrArg List.length h
  rw [seg_length _ _ _ (by rw [rowAt_length]; exact trk_le W l c z W hz)] at h2
  rw [h2]
  unfold rk seg
  rw [List.drop_zero, List.count_eq_countP, List.countP_eq_length_filter, Nat.sub_self]
  simp [Nat.pow_zero, Nat.div_one]
theorem cnt_split (p q r : Nat → Bool) (h1 : ∀ x, p x = (q x || r x)) (h2 : ∀ x, (q x && r x) = false) (l : List Nat) : (l.filter p).length = (l.filter q).length + (l.filter r).length := by
  induction l with
  | nil => rfl
  | cons x l ih =>
    have a := h1 x
    have b := h2 x
    cases hq : q x <;> cases hr : r x <;> rw [hq, hr] at a b <;> simp at a b <;> simp [List.filter_cons, hq, hr, a] <;> omega
/-- how many of a prt are below c by their first digits -/
def blw (W : Nat) (l : List Nat) (c a z k : Nat) : Nat := ((seg l a z).filter (fun x => decide (x / 2 ^ (W - k) < c / 2 ^ (W - k)))).length
theorem half_lt (x c D : Nat) : x / 2 ^ D < c / 2 ^ D ↔ x / 2 ^ (D + 1) < c / 2 ^ (D + 1) ∨ (x / 2 ^ (D + 1) = c / 2 ^ (D + 1) ∧ x.testBit D = false ∧ c.testBit D = true) := by
  have hx : x / 2 ^ (D + 1) = x / 2 ^ D / 2 := by rw [Nat.pow_succ, Nat.div_div_eq_div_mul]
  have hc : c / 2 ^ (D + 1) = c / 2 ^ D / 2 := by rw [Nat.pow_succ, Nat.div_div_eq_div_mul]
  rw [hx, hc, Nat.testBit_eq_decide_div_mod_eq, Nat.testBit_eq_decide_div_mod_eq]
  generalize x / 2 ^ D = p
  generalize c / 2 ^ D = q
  simp only [decide_eq_false_iff_not, decide_eq_true_eq]
  omega
theorem blw_zero (W : Nat) (l : List Nat) (c a z : Nat) (hc : c < 2 ^ W) : blw W l c a z 0 = 0 := by
  unfold blw
  rw [Nat.sub_zero, Nat.div_eq_of_lt hc]
  simp
theorem blw_succ (W : Nat) (l : List Nat) (c a z : Nat) (h : a ≤ z) (hl : ∀ x ∈ l, x < 2 ^ W) (hc : c < 2 ^ W) (k : Nat) (hk : k < W) :
    blw W l c a z (k + 1) = blw W l c a z k + if c.testBit (W - 1 - k) then rk (bitsOf (W - 1 - k) (lvl W l k)) false (trk W l c z k) - rk (bitsOf (W - 1 - k) (lvl W l k)) false (trk W l c a k) else 0 := by
  have e : W - k = (W - 1 - k) + 1 := by omega
  have e2 : W - (k + 1) = W - 1 - k := by omega
  have hs := seg_trk W l c a z h hl hc k (by omega)
  unfold blw
  rw [e2, e]
  rw [e] at hs
  generalize W - 1 - k = D at *
  cases hb : c.testBit D with
  | false =>
    simp only [Bool.false_eq_true, if_false, Nat.add_zero]
    congr 1
    congr 1
    funext x
    rw [decide_eq_decide, half_lt, hb]
    simp
  | true =>
    simp only [if_true]
    have hto := seg_nx D (lvl W l k) false (trk W l c a k) (trk W l c z k) (trk_mono W l c k h)
    have hlen := congrArg List.length hto
    rw [seg_length _ _ _ (by rw [part_length]; exact nx_le _ _ _ _), hs, List.filter_filter] at hlen
    unfold nx at hlen
    simp only [Bool.false_eq_true, if_false] at hlen
    rw [hlen]
    refine cnt_split _ _ _ (fun x => ?_) (fun x => ?_) _
    · rw [Bool.eq_iff_iff, decide_eq_true_eq, half_lt, hb, Bool.or_eq_true, decide_eq_true_eq, Bool.and_eq_true, beq_iff_eq, beq_iff_eq]
      constructor
      · rintro (h | ⟨h, h2, _⟩)
        · exact .inl h
        · exact .inr ⟨h2, h⟩
      · rintro (h | ⟨h2, h⟩)
        · exact .inl h
        · exact .inr ⟨h, h2, rfl⟩
    · rw [Bool.and_eq_false_iff]
      by_cases h : x / 2 ^ (D + 1) < c / 2 ^ (D + 1)
      · right
        rw [Bool.and_eq_false_iff]
        right
        rw [beq_eq_false_iff_ne]
        omega
      · left
        simpa using h
theorem blw_all (W : Nat) (l : List Nat) (c a z : Nat) : blw W l c a z W = ((seg l a z).filter (fun x => decide (x < c))).length := by
  unfold blw
  simp [Nat.sub_self]
/-- an element's place on each level -/
theorem trk_getD (W : Nat) (l : List Nat) (i : Nat) (h : i < l.length) (k : Nat) : trk W l (l.getD i 0) i k < l.length ∧ (lvl W l k).getD (trk W l (l.getD i 0) i k) 0 = l.getD i 0 := by
  induction k with
  | zero => exact ⟨h, rfl⟩
  | succ k ih =>
    have := nx_getD (W - 1 - k) (lvl W l k) (trk W l (l.getD i 0) i k) (by rw [rowAt_length]; exact ih.1)
    rw [ih.2, rowAt_length] at this
    exact this
/-- its digits, one behind the other -/
theorem half_succ (x D : Nat) : x / 2 ^ D = 2 * (x / 2 ^ (D + 1)) + (x.testBit D).toNat := by
  have hx : x / 2 ^ (D + 1) = x / 2 ^ D / 2 := by rw [Nat.pow_succ, Nat.div_div_eq_div_mul]
  rw [hx, Nat.toNat_testBit]
  omega
theorem bitsOf_getD (d : Nat) (l : List Nat) (i : Nat) (h : i < l.length) : (bitsOf d l).getD i false = (l.getD i 0).testBit d := by
  simp [bitsOf, List.getD, List.getElem?_eq_getElem h]
end Go.Proofs.Ytfgkkffgcgjhfaa.Wv
