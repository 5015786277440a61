/- Wavelets: rows of symbols, by their digits; plain lists, no program. -/
import Derived.Test.YtphccomhggnccaaGreatGen
import Derived.Maps.AppendAt
import Derived.Deep.RegionHeld3
namespace Go.Proofs.YtphccomhggnccaaGreat.Wv
set_option maxRecDepth 100000
set_option linter.unusedVariables false
set_option linter.unusedSimpArgs false
open Rank
def bitsOf (d : Nat) (l : List Nat) : List Bool := l.map fun x => x.testBit d
def prt (d : Nat) (l : List Nat) : List Nat := l.filter (fun x => x.testBit d == false) ++ l.filter (fun x => x.testBit d == true)
def zeros (d : Nat) (l : List Nat) : Nat := (l.filter (fun x => x.testBit d == false)).length
def nx (d : Nat) (l : List Nat) (b : Bool) (i : Nat) : Nat := if b then zeros d l + rk (bitsOf d l) true i else rk (bitsOf d l) false i
def seg {α : Type} (l : List α) (a z : Nat) : List α := (l.take z).drop a

theorem bitsOf_length (d : Nat) (l : List Nat) : (bitsOf d l).length = l.length := by simp [bitsOf]
theorem rk_bits (d : Nat) (l : List Nat) (b : Bool) (i : Nat) : rk (bitsOf d l) b i = ((l.take i).filter (fun x => x.testBit d == b)).length := by
  unfold rk bitsOf
  rw [← List.map_take, List.count_eq_countP, List.countP_map, List.countP_eq_length_filter]
  rfl
theorem take_len {α : Type} (a b : List α) : (a ++ b).take a.length = a := by simp
theorem drop_len {α : Type} (a b : List α) : (a ++ b).drop a.length = b := by simp
theorem filt_take (p : Nat → Bool) (l : List Nat) (z : Nat) : (l.filter p).take ((l.take z).filter p).length = (l.take z).filter p := by
  conv => lhs; rw [show l.filter p = (l.take z).filter p ++ (l.drop z).filter p by rw [← List.filter_append, List.take_append_drop]]
  rw [take_len]
theorem filt_seg (p : Nat → Bool) (l : List Nat) (a z : Nat) (h : a ≤ z) : ((l.filter p).take ((l.take z).filter p).length).drop ((l.take a).filter p).length = (seg l a z).filter p := by
  rw [filt_take]
  have e : l.take z = l.take a ++ seg l a z := by
    unfold seg
    have h2 : l.take a = (l.take z).take a := by rw [List.take_take, Nat.min_eq_left h]
    rw [h2, List.take_append_drop]
  rw [show (l.take z).filter p = (l.take a).filter p ++ (seg l a z).filter p by rw [e, List.filter_append]; ]
  rw [drop_len]
theorem filt_le (p : Nat → Bool) (l : List Nat) (z : Nat) : ((l.take z).filter p).length ≤ (l.filter p).length := by
  rw [← filt_take p l z, List.length_take]
  exact Nat.min_le_right _ _
theorem filt_len (d : Nat) (l : List Nat) : (l.filter (fun x => x.testBit d == false)).length + (l.filter (fun x => x.testBit d == true)).length = l.length := by
  induction l with
  | nil => rfl
  | cons x l ih =>
    by_cases h : x.testBit d = true
    · simp [List.filter_cons, h] at ih ⊢; omega
    · simp [List.filter_cons, h] at ih ⊢; omega
theorem part_length (d : Nat) (l : List Nat) : (prt d l).length = l.length := by
  unfold prt; rw [List.length_append, filt_len]
theorem part_mem (d : Nat) (l : List Nat) (x : Nat) : x ∈ prt d l ↔ x ∈ l := by
  unfold prt
  rw [List.mem_append, List.mem_filter, List.mem_filter]
  cases h : x.testBit d <;> simp [h]
theorem app_seg (A B : List Nat) (m n : Nat) : ((A ++ B).take (A.length + n)).drop (A.length + m) = (B.take n).drop m := by
  induction A with
  | nil => simp
  | cons x A ih =>
    rw [List.length_cons, show A.length + 1 + n = (A.length + n) + 1 by omega, show A.length + 1 + m = (A.length + m) + 1 by omega, List.cons_append, List.take_succ_cons, List.drop_succ_cons, ih]
theorem seg_nx (d : Nat) (l : List Nat) (b : Bool) (a z : Nat) (h : a ≤ z) : seg (prt d l) (nx d l b a) (nx d l b z) = (seg l a z).filter (fun x => x.testBit d == b) := by
  rw [← filt_seg _ l a z h]
  unfold nx
  cases b with
  | false =>
    simp only [Bool.false_eq_true, if_false]
    rw [rk_bits, rk_bits]
    unfold seg prt
    rw [List.take_append_of_le_length (filt_le _ _ _)]
  | true =>
    simp only [if_true]
    rw [rk_bits, rk_bits]
    unfold seg prt zeros
    rw [app_seg]
theorem nx_le (d : Nat) (l : List Nat) (b : Bool) (i : Nat) : nx d l b i ≤ l.length := by
  have h := filt_len d l
  unfold nx
  cases b with
  | false =>
    simp only [Bool.false_eq_true, if_false]
    rw [rk_bits]
    have := filt_le (fun x => x.testBit d == false) l i
    omega
  | true =>
    simp only [if_true]
    rw [rk_bits]
    have := filt_le (fun x => x.testBit d == true) l i
    unfold zeros
    omega
theorem nx_mono (d : Nat) (l : List Nat) (b : Bool) {a z : Nat} (h : a ≤ z) : nx d l b a ≤ nx d l b z := by
  unfold nx
  cases b with
  | false => simp only [Bool.false_eq_true, if_false]; exact rk_mono _ _ h
  | true => simp only [if_true]; have := rk_mono (bitsOf d l) true h; omega
theorem seg_length {α : Type} (l : List α) (a z : Nat) (h : z ≤ l.length) : (seg l a z).length = z - a := by
  unfold seg; rw [List.length_drop, List.length_take, Nat.min_eq_left h]
theorem seg_one (l : List Nat) (i : Nat) (h : i < l.length) : seg l i (i + 1) = [l.getD i 0] := by
  unfold seg
  rw [List.take_succ_eq_append_getElem h, List.drop_left' (by rw [List.length_take]; omega)]
  simp [List.getD, List.getElem?_eq_getElem h]
theorem nx_getD (d : Nat) (l : List Nat) (i : Nat) (h : i < l.length) : nx d l ((l.getD i 0).testBit d) i < l.length ∧ (prt d l).getD (nx d l ((l.getD i 0).testBit d) i) 0 = l.getD i 0 := by
  generalize hb : (l.getD i 0).testBit d = b
  have hs := seg_nx d l b i (i + 1) (by omega)
  rw [seg_one l i h] at hs
  simp only [List.filter_cons, hb, beq_self_eq_true, if_true, List.filter_nil] at hs
  have hl := seg_length (prt d l) (nx d l b i) (nx d l b (i + 1)) (by rw [part_length]; exact nx_le _ _ _ _)
  rw [hs] at hl
  have h1 : nx d l b (i + 1) = nx d l b i + 1 := by simp at hl; omega
  have h2 := nx_le d l b (i + 1)
  rw [h1] at hs h2
  rw [seg_one _ _ (by rw [part_length]; omega)] at hs
  exact ⟨by omega, by injection hs⟩

def lvl (W : Nat) (l : List Nat) : Nat → List Nat
  | 0 => l
  | k + 1 => prt (W - 1 - k) (lvl W l k)
theorem rowAt_length (W : Nat) (l : List Nat) (k : Nat) : (lvl W l k).length = l.length := by
  induction k with
  | zero => rfl
  | succ k ih => rw [lvl, part_length, ih]
theorem rowAt_mem (W : Nat) (l : List Nat) (k x : Nat) : x ∈ lvl W l k ↔ x ∈ l := by
  induction k with
  | zero => rfl
  | succ k ih => rw [lvl, part_mem, ih]
def trk (W : Nat) (l : List Nat) (c i : Nat) : Nat → Nat
  | 0 => i
  | k + 1 => nx (W - 1 - k) (lvl W l k) (c.testBit (W - 1 - k)) (trk W l c i k)
theorem trk_le (W : Nat) (l : List Nat) (c i k : Nat) (h : i ≤ l.length) : trk W l c i k ≤ l.length := by
  cases k with
  | zero => exact h
  | succ k => rw [trk]; have := nx_le (W - 1 - k) (lvl W l k) (c.testBit (W - 1 - k)) (trk W l c i k); rwa [rowAt_length] at this
theorem trk_mono (W : Nat) (l : List Nat) (c k : Nat) {a z : Nat} (h : a ≤ z) : trk W l c a k ≤ trk W l c z k := by
  induction k with
  | zero => exact h
  | succ k ih => rw [trk, trk]; exact nx_mono _ _ _ ih
theorem half_eq (x c D : Nat) : x / 2 ^ D = c / 2 ^ D ↔ x / 2 ^ (D + 1) = c / 2 ^ (D + 1) ∧ x.testBit D = c.testBit D := by
  have hx : x / 2 ^ (D + 1) = x / 2 ^ D / 2 := by rw [Nat.pow_succ, Nat.div_div_eq_div_mul]
  have hc : c / 2 ^ (D + 1) = c / 2 ^ D / 2 := by rw [Nat.pow_succ, Nat.div_div_eq_div_mul]
  rw [hx, hc, Nat.testBit_eq_decide_div_mod_eq, Nat.testBit_eq_decide_div_mod_eq]
  generalize x / 2 ^ D = p
  generalize c / 2 ^ D = q
  constructor
  · rintro rfl; exact ⟨rfl, rfl⟩
  · rintro ⟨h1, h2⟩
    have h3 : (p % 2 = 1) ↔ (q % 2 = 1) := by simpa using h2
    omega
theorem seg_trk (W : Nat) (l : List Nat) (c a z : Nat) (h : a ≤ z) (hl : ∀ x ∈ l, x < 2 ^ W) (hc : c < 2 ^ W) (k : Nat) (hk : k ≤ W) :
    seg (lvl W l k) (trk W l c a k) (trk W l c z k) = (seg l a z).filter (fun x => x / 2 ^ (W - k) == c / 2 ^ (W - k)) := by
  induction k with
  | zero =>
    rw [lvl, trk, trk, Nat.sub_zero]
    refine (List.filter_eq_self.2 fun x hx => ?_).symm
    have hm : x ∈ l := by
      unfold seg at hx
      exact List.mem_of_mem_take (List.mem_of_mem_drop hx)
    rw [Nat.div_eq_of_lt (hl x hm), Nat.div_eq_of_lt hc, beq_self_eq_true]
  | succ k ih =>
    rw [lvl, trk, trk, seg_nx _ _ _ _ _ (trk_mono W l c k h), ih (by omega), List.filter_filter]
    congr 1
    funext x
    have e : W - k = (W - 1 - k) + 1 := by omega
    have e2 : W - (k + 1) = W - 1 - k := by omega
    rw [e2, e, Bool.eq_iff_iff, Bool.and_eq_true, beq_iff_eq, beq_iff_eq, beq_iff_eq, half_eq x c (W - 1 - k)]
    exact And.comm
theorem trk_rank (W : Nat) (l : List Nat) (c z : Nat) (hz : z ≤ l.length) (hl : ∀ x ∈ l, x < 2 ^ W) (hc : c < 2 ^ W) : trk W l c z W - trk W l c 0 W = rk l c z := by
  have h := seg_trk W l c 0 z (Nat.zero_le _) hl hc W (Nat.le_refl _)
  have h2 := congrArg List.length h
  rw [seg_length _ _ _ (by rw [rowAt_length]; exact trk_le W l c z W hz)] at h2
  rw [h2]
  unfold rk seg
  rw [List.drop_zero, List.count_eq_countP, List.countP_eq_length_filter, Nat.sub_self]
  simp [Nat.pow_zero, Nat.div_one]
theorem trk_getD (W : Nat) (l : List Nat) (i : Nat) (h : i < l.length) (k : Nat) : trk W l (l.getD i 0) i k < l.length ∧ (lvl W l k).getD (trk W l (l.getD i 0) i k) 0 = l.getD i 0 := by
  induction k with
  | zero => exact ⟨h, rfl⟩
  | succ k ih =>
    have := nx_getD (W - 1 - k) (lvl W l k) (trk W l (l.getD i 0) i k) (by rw [rowAt_length]; exact ih.1)
    rw [ih.2, rowAt_length] at this
    exact this
theorem half_succ (x D : Nat) : x / 2 ^ D = 2 * (x / 2 ^ (D + 1)) + (x.testBit D).toNat := by
  have hx : x / 2 ^ (D + 1) = x / 2 ^ D / 2 := by rw [Nat.pow_succ, Nat.div_div_eq_div_mul]
  rw [hx, Nat.toNat_testBit]
  omega
theorem bitsOf_getD (d : Nat) (l : List Nat) (i : Nat) (h : i < l.length) : (bitsOf d l).getD i false = (l.getD i 0).testBit d := by
  simp [bitsOf, List.getD, List.getElem?_eq_getElem h]
end Go.Proofs.YtphccomhggnccaaGreat.Wv
namespace Go.Proofs.YtphccomhggnccaaGreat
set_option maxRecDepth 100000
set_option linter.unusedVariables false
set_option linter.unusedSimpArgs false
open Go.RowKit PkMath Pop Rank BtMath Wv
theorem i64_and_nat (a b : Nat) (ha : a < 9223372036854775808) (hb : b < 9223372036854775808) : bits .and .i64 (a : Int) (b : Int) = ((a &&& b : Nat) : Int) := by
  have hx : a &&& b < 2 ^ 63 := Nat.and_lt_two_pow _ (by omega)
  show IntKind.i64.wrap ((BitVec.ofInt 64 (a : Int) &&& BitVec.ofInt 64 (b : Int)).toNat : Int) = _
  rw [BitVec.toNat_and, ofInt_u64 a (by omega), ofInt_u64 b (by omega)]
  exact wrap_small _ (by omega) (by omega)
theorem i64_or_nat (a b : Nat) (ha : a < 9223372036854775808) (hb : b < 9223372036854775808) : bits .or .i64 (a : Int) (b : Int) = ((a ||| b : Nat) : Int) := by
  have hx : a ||| b < 2 ^ 63 := Nat.or_lt_two_pow (by omega) (by omega)
  show IntKind.i64.wrap ((BitVec.ofInt 64 (a : Int) ||| BitVec.ofInt 64 (b : Int)).toNat : Int) = _
  rw [BitVec.toNat_or, ofInt_u64 a (by omega), ofInt_u64 b (by omega)]
  exact wrap_small _ (by omega) (by omega)
theorem i64_bit (c D : Nat) (hc : c < 2 ^ 63) : bits BinOp.and IntKind.i64 ((c : Int) / 2 ^ D) 1 = (((c.testBit D).toNat : Nat) : Int) := by
  have hs : (c : Int) / 2 ^ D = ((c / 2 ^ D : Nat) : Int) := by rw [Int.natCast_ediv, Int.natCast_pow]; rfl
  rw [hs]
  have := i64_and_nat (c / 2 ^ D) 1 (Nat.lt_of_le_of_lt (Nat.div_le_self _ _) hc) (by decide)
  rw [show ((1 : Int)) = ((1 : Nat) : Int) from rfl, this]
  congr 1
  rw [Nat.and_one_is_mod, Nat.toNat_testBit]
theorem pow_small (W : Nat) (h : W ≤ 16) : RowKit.wrap64 (2 ^ W) = 2 ^ W := by
  have h1 : (2 : Nat) ^ W ≤ 2 ^ 16 := Nat.pow_le_pow_right (by decide) h
  have h2 : ((2 : Int) ^ W) = ((2 ^ W : Nat) : Int) := by rw [Int.natCast_pow]; rfl
  rw [h2]
  clear h2
  generalize (2 : Nat) ^ W = p at *
  unfold RowKit.wrap64
  omega

theorem nx_any {w : World} {base v d : Nat} {l : List Nat} (h : BVec w base v (bitsOf d l)) (b : Bool) (i : Nat) :
    Calls Tryz.prog 119 #[.agg #[.pointer (some ⟨v, 0, none⟩), .int .i64 ((zeros d l : Nat) : Int)], .bool b, .int .i64 (i : Int)] w (IntBelow ((nx d l b i : Nat) : Int) w) := by
  have hA : BVec (w.alloc (.cells #[.pointer (some ⟨v, 0, none⟩), .int .i64 ((zeros d l : Nat) : Int)] 164)) base v (bitsOf d l) := h.keep fun k _ hk => Below.heap_alloc _ _ _ hk
  have hB : Below w.heap.size w (w.alloc (.cells #[.pointer (some ⟨v, 0, none⟩), .int .i64 ((zeros d l : Nat) : Int)] 164)) := (Below.refl _ w).alloc (Nat.le_refl _) _
  have hlen := h.len
  rw [bitsOf_length] at hlen
  have hto := nx_le d l b i
  have HR := Lib.hid (fun m : Nat => rank_any (hA.drewN m) b (i : Int))
  rw [Int.toNat_natCast] at HR
  cases b with
  | true =>
    have hr : nx d l true i = zeros d l + rk (bitsOf d l) true i := rfl
    rw [hr] at hto ⊢
    have hnew := heap_alloc_new w (.cells #[.pointer (some ⟨v, 0, none⟩), .int .i64 ((zeros d l : Nat) : Int)] 164)
    generalize zeros d l = z at *
    generalize rk (bitsOf d l) true i = r at *
    clear hr
    go_enter Tryz.func119, Tryz.ntmps119
    go_wp2_with fail
    go_quiet ((go_at_call 113; exact Calls.quiet_of (HR.out _)))
    go_wp2_with fail
    go_ret
    exact ⟨rfl, hB.trans (below_drewN _ _ _)⟩
  | false =>
    have hr : nx d l false i = rk (bitsOf d l) false i := rfl
    rw [hr] at hto ⊢
    generalize zeros d l = z at *
    generalize rk (bitsOf d l) false i = r at *
    clear hr
    go_enter Tryz.func119, Tryz.ntmps119
    go_wp2_with fail
    go_at_call 113
    refine (HR.out 0).mono ?_
    rintro e w1 ⟨rfl, m, rfl⟩
    go_wp2_with fail
    go_ret
    exact ⟨rfl, hB.trans (below_drewN _ _ _)⟩

structure TM (w : World) (base b W : Nat) (l : List Nat) : Prop where
  W1 : 1 ≤ W
  W2 : W ≤ 16
  len : l.length ≤ 131072
  lt : ∀ x ∈ l, x < 2 ^ W
  ge : base ≤ b
  blk : ∃ (h cap : Nat) (cur : Array Value) (vb : Nat → Nat), base ≤ h ∧
    w.heap[b]? = some (.cells #[.int .i64 (l.length : Int), .slice (some ⟨h, 0, none⟩) W cap] 162 (0, 0)) ∧
    w.heap[h]? = some (.cells cur 164 (0, 0)) ∧
    ∀ k, k < W → cur[2 * k]? = some (.pointer (some ⟨vb k, 0, none⟩)) ∧ cur[2 * k + 1]? = some (.int .i64 ((zeros (W - 1 - k) (lvl W l k) : Nat) : Int)) ∧ BVec w base (vb k) (bitsOf (W - 1 - k) (lvl W l k))
theorem TM.keep {w w' : World} {base b W : Nat} {l : List Nat} (h : TM w base b W l) (hk : ∀ k, base ≤ k → k < w.heap.size → w'.heap[k]? = w.heap[k]?) : TM w' base b W l := by
  obtain ⟨h1, h2, h3, h4, h5, hh, cap, cur, vb, hg, hb, hc, hl⟩ := h
  exact ⟨h1, h2, h3, h4, h5, hh, cap, cur, vb, hg, (hk b h5 (blk_lt hb)).trans hb, (hk hh hg (blk_lt hc)).trans hc, fun k hkW => ⟨(hl k hkW).1, (hl k hkW).2.1, (hl k hkW).2.2.keep hk⟩⟩
theorem TM.below {w w' : World} {base b W : Nat} {l : List Nat} (h : TM w base b W l) (hb : Below w.heap.size w w') : TM w' base b W l :=
  h.keep fun k _ hk => hb.block k hk
theorem TM.c0 {w : World} {base b W : Nat} {l : List Nat} (h : TM w base b W l) : w.cell? ⟨b, 0, none⟩ = some (.int .i64 (l.length : Int)) := by
  obtain ⟨h1, h2, h3, h4, h5, hh, cap, cur, vb, hg, hb, hc, hl⟩ := h
  rw [cell_blk hb]; rfl
theorem TM.c1 {w : World} {base b W : Nat} {l : List Nat} (h : TM w base b W l) : ∃ hh cap, w.cell? ⟨b, 1, none⟩ = some (.slice (some ⟨hh, 0, none⟩) W cap) ∧
    ∀ k, k < W → ∃ v, w.cell? ⟨hh, k * 2, none⟩ = some (.pointer (some ⟨v, 0, none⟩)) ∧ w.cell? ⟨hh, k * 2 + 1, none⟩ = some (.int .i64 ((zeros (W - 1 - k) (lvl W l k) : Nat) : Int)) ∧ BVec w base v (bitsOf (W - 1 - k) (lvl W l k)) := by
  obtain ⟨h1, h2, h3, h4, h5, hh, cap, cur, vb, hg, hb, hc, hl⟩ := h
  refine ⟨hh, cap, by rw [cell_blk hb]; rfl, fun k hk => ?_⟩
  obtain ⟨a1, a2, a3⟩ := hl k hk
  refine ⟨vb k, ?_, ?_, a3⟩
  · rw [cell_blk hc, Nat.mul_comm]; exact a1
  · rw [cell_blk hc, Nat.mul_comm]; exact a2

theorem tlen_cell (b : Nat) (n : Int) (w : World) (h1 : w.cell? ⟨b, 0, none⟩ = some (.int .i64 n)) :
    Calls Tryz.prog 66 #[.pointer (some ⟨b, 0, none⟩)] w fun e w' => e = .returned (.int .i64 n) ∧ w = w' := by
  go_enter Tryz.func66, Tryz.ntmps66
  go_wp2
  go_ret
  exact ⟨rfl, rfl⟩
theorem twid_any {w : World} {base b W : Nat} {l : List Nat} (h : TM w base b W l) :
    Calls Tryz.prog 198 #[.pointer (some ⟨b, 0, none⟩)] w fun e w' => e = .returned (.int .i64 (W : Int)) ∧ w = w' := by
  obtain ⟨hh, cap, hc, _⟩ := h.c1
  have h2 := h.W2
  clear h
  go_enter Tryz.func198, Tryz.ntmps198
  go_wp2
  go_ret
  exact ⟨rfl, rfl⟩
theorem bit_any {w : World} {base b W : Nat} {l : List Nat} (h : TM w base b W l) (c k : Nat) (hk : k < W) (hc : c < 2 ^ 63) :
    Calls Tryz.prog 150 #[.pointer (some ⟨b, 0, none⟩), .int .i64 (c : Int), .int .i64 (k : Int)] w fun e w' => e = .returned (.bool (c.testBit (W - 1 - k))) ∧ w = w' := by
  obtain ⟨hh, cap, hcell, _⟩ := h.c1
  have h2 := h.W2
  have Hc := Lib.hid hc
  clear h hc
  obtain ⟨D, hD⟩ : ∃ D, W - 1 - k = D := ⟨_, rfl⟩
  have e1 : (W : Int) - 1 - (k : Int) = (D : Int) := by omega
  rw [hD]
  clear hD
  go_enter Tryz.func150, Tryz.ntmps150
  go_wp2_with fail
  go_ret
  refine ⟨ret_bool ?_, rfl⟩
  rw [i64_bit _ _ Hc.out]
  cases c.testBit D <;> rfl
theorem isSym_any {w : World} {base b W : Nat} {l : List Nat} (h : TM w base b W l) (c : Int) :
    Calls Tryz.prog 148 #[.pointer (some ⟨b, 0, none⟩), .int .i64 c] w fun e w' => e = .returned (.bool (decide (0 ≤ c ∧ c < 2 ^ W))) ∧ w = w' := by
  have HW := Lib.hid (twid_any h)
  have h2 := h.W2
  clear h
  by_cases hc : c < 0
  · have hd : decide (0 ≤ c ∧ c < 2 ^ W) = false := decide_eq_false (by omega)
    rw [hd]
    clear hd
    go_enter Tryz.func148, Tryz.ntmps148
    go_wp2
    go_ret
    exact ⟨rfl, rfl⟩
  go_enter Tryz.func148, Tryz.ntmps148
  go_wp2_with (go_at_call 198; refine HW.out.mono ?_; rintro e w' ⟨rfl, rfl⟩)
  go_ret
  refine ⟨ret_bool ?_, rfl⟩
  rw [pow_small W h2]
  have h0 : 0 ≤ c := by omega
  simp only [h0, true_and]
end Go.Proofs.YtphccomhggnccaaGreat
namespace Go.Proofs.YtphccomhggnccaaGreat
set_option maxRecDepth 100000
set_option linter.unusedVariables false
set_option linter.unusedSimpArgs false
open Go.RowKit PkMath Pop Rank BtMath Wv
theorem within_cell (b : Nat) (n : Nat) (i : Int) (w : World) (h1 : w.cell? ⟨b, 0, none⟩ = some (.int .i64 (n : Int))) :
    Calls Tryz.prog 149 #[.pointer (some ⟨b, 0, none⟩), .int .i64 i] w fun e w' => e = .returned (.int .i64 ((min n i.toNat : Nat) : Int)) ∧ w = w' := by
  have HL := Lib.hid (tlen_cell b n w h1)
  by_cases hi : i ≤ 0
  · have hm : min n i.toNat = 0 := by omega
    rw [hm]
    by_cases h0 : i = 0
    · subst h0
      by_cases hn : n = 0
      · subst hn
        clear hm
        go_enter Tryz.func149, Tryz.ntmps149
        go_wp2_with (go_at_call 66; refine HL.out.mono ?_; rintro e w' ⟨rfl, rfl⟩)
        go_ret
        exact ⟨rfl, rfl⟩
      · have hn0 : 0 < n := by omega
        clear hm hn
        go_enter Tryz.func149, Tryz.ntmps149
        go_wp2_with (go_at_call 66; refine HL.out.mono ?_; rintro e w' ⟨rfl, rfl⟩)
        go_ret
        exact ⟨rfl, rfl⟩
    · have hi0 : i < 0 := by omega
      clear hm h0
      go_enter Tryz.func149, Tryz.ntmps149
      go_wp2_with (go_at_call 66; refine HL.out.mono ?_; rintro e w' ⟨rfl, rfl⟩)
      go_ret
      exact ⟨rfl, rfl⟩
  · obtain ⟨j, rfl⟩ : ∃ j : Nat, i = (j : Int) := ⟨i.toNat, by omega⟩
    have hj : 0 < j := by omega
    rw [Int.toNat_natCast]
    by_cases h2 : j < n
    · rw [show min n j = j by omega]
      go_enter Tryz.func149, Tryz.ntmps149
      go_wp2_with (go_at_call 66; refine HL.out.mono ?_; rintro e w' ⟨rfl, rfl⟩)
      go_ret
      exact ⟨rfl, rfl⟩
    · rw [show min n j = n by omega]
      by_cases h3 : j = n
      · subst h3
        go_enter Tryz.func149, Tryz.ntmps149
        go_wp2_with (go_at_call 66; refine HL.out.mono ?_; rintro e w' ⟨rfl, rfl⟩)
        go_ret
        exact ⟨rfl, rfl⟩
      · have h4 : n < j := by omega
        clear h2 h3
        by_cases hn : n = 0
        · subst hn
          go_enter Tryz.func149, Tryz.ntmps149
          go_wp2_with (go_at_call 66; refine HL.out.mono ?_; rintro e w' ⟨rfl, rfl⟩)
          go_ret
          exact ⟨rfl, rfl⟩
        · have hn0 : 0 < n := by omega
          go_enter Tryz.func149, Tryz.ntmps149
          go_wp2_with (go_at_call 66; refine HL.out.mono ?_; rintro e w' ⟨rfl, rfl⟩)
          go_ret
          exact ⟨rfl, rfl⟩

theorem keep2D {w2 : World} {a1 a2 : Addr} {v1 v2 : Value} (h1 : w2.cell? a1 = some v1) (h2 : w2.cell? a2 = some v2) : w2.drew.cell? a1 = some v1 ∧ w2.drew.cell? a2 = some v2 ∧ Below w2.heap.size w2 w2.drew :=
  ⟨h1, h2, rfl, rfl, rfl, Nat.le_refl _, fun _ _ => rfl⟩
theorem keep2S {w2 W W' : World} {a1 a2 : Addr} {v1 v2 : Value} (h : W.cell? a1 = some v1 ∧ W.cell? a2 = some v2 ∧ Below w2.heap.size w2 W) (k : Below W.heap.size W W') : W'.cell? a1 = some v1 ∧ W'.cell? a2 = some v2 ∧ Below w2.heap.size w2 W' :=
  ⟨by rw [World.cell?_of_block (w := W) (k.block _ (World.block_lt_of_cell? W _ h.1))]; exact h.1, by rw [World.cell?_of_block (w := W) (k.block _ (World.block_lt_of_cell? W _ h.2.1))]; exact h.2.1, below_step h.2.2 k⟩
theorem keep2E {w2 W' : World} {a1 a2 : Addr} {v1 v2 : Value} (h1 : w2.cell? a1 = some v1) (h2 : w2.cell? a2 = some v2) (k : Below w2.drew.heap.size w2.drew W') : W'.cell? a1 = some v1 ∧ W'.cell? a2 = some v2 ∧ Below w2.heap.size w2 W' :=
  keep2S (keep2D h1 h2) k

set_option maxRecDepth 100000 in
set_option maxHeartbeats 2000000 in
theorem trank_any {w : World} {base b W : Nat} {l : List Nat} (h : TM w base b W l) (c : Nat) (hc : c < 2 ^ W) (i : Int) :
    Calls Tryz.prog 110 #[.pointer (some ⟨b, 0, none⟩), .int .i64 (c : Int), .int .i64 i] w (IntBelow ((rk l c i.toNat : Nat) : Int) w) := by
  have hr : rk l c i.toNat = trk W l c (min l.length i.toNat) W - trk W l c 0 W := by
    rw [trk_rank W l c _ (Nat.min_le_left _ _) h.lt hc]
    by_cases hm : i.toNat ≤ l.length
    · rw [Nat.min_eq_right hm]
    · rw [Nat.min_eq_left (by omega)]; exact rk_big l c _ (by omega)
  rw [hr]
  have hmono := trk_mono W l c W (Nat.zero_le (min l.length i.toNat))
  have hle := trk_le W l c (min l.length i.toNat) W (Nat.min_le_left _ _)
  have hlen := h.len
  have hS := isSym_any h (c : Int)
  rw [show decide (0 ≤ (c : Int) ∧ (c : Int) < 2 ^ W) = true by
    rw [decide_eq_true_eq]
    refine ⟨by omega, ?_⟩
    have : ((c : Nat) : Int) < ((2 ^ W : Nat) : Int) := by exact_mod_cast hc
    rwa [Int.natCast_pow] at this] at hS
  have HS := Lib.hid hS
  have HI := Lib.hid (within_cell b l.length i w h.c0)
  have W2 := h.W2
  have hc63 : c < 2 ^ 63 := Nat.lt_of_lt_of_le hc (Nat.pow_le_pow_right (by decide) (by omega))
  have Hc := Lib.hid hc63
  have HTM := Lib.hid h
  have hmin := Nat.min_le_left l.length i.toNat
  have Htl := Lib.hid (fun i k (h : i ≤ l.length) => trk_le W l c i k h)
  obtain ⟨hh, cap, hcell, hlv⟩ := h.c1
  have Hlv := Lib.hid hlv
  generalize min l.length i.toNat = z at *
  clear hS hr hc hc63 hlv
  go_enter Tryz.func110, Tryz.ntmps110
  go_wp2_with (go_at_call 148; refine HS.out.mono ?_; rintro e w' ⟨rfl, rfl⟩)
  go_at_call 149
  refine HI.out.mono ?_
  rintro e w' ⟨rfl, rfl⟩
  go_wp2_with fail
  go_loopw [7, 8, 24] (fun f t q wr => ∃ k : Nat, k ≤ W ∧ q = .int .i64 (k : Int) ∧ f = .int .i64 ((trk W l c 0 k : Nat) : Int) ∧ t = .int .i64 ((trk W l c z k : Nat) : Int) ∧ Below w.heap.size w wr) (fun _ _ q _ => W - (intOf q).toNat)
  case atStart => exact ⟨0, Nat.zero_le _, rfl, rfl, rfl, Below.refl _ _⟩
  case round =>
    obtain ⟨k, hk, rfl, rfl, rfl, hB⟩ := hrel
    by_cases hlt : k < W
    · obtain ⟨v, hc1, hc2, hV⟩ := Hlv.out k hlt
      have hwc1 : wr.cell? ⟨hh, k * 2, none⟩ = some (.pointer (some ⟨v, 0, none⟩)) := by
        rw [World.cell?_of_block (w := w) (hB.block _ (World.block_lt_of_cell? w _ hc1))]; exact hc1
      have hwc2 : wr.cell? ⟨hh, k * 2 + 1, none⟩ = some (.int .i64 ((zeros (W - 1 - k) (lvl W l k) : Nat) : Int)) := by
        rw [World.cell?_of_block (w := w) (hB.block _ (World.block_lt_of_cell? w _ hc2))]; exact hc2
      clear hc1 hc2
      go_upto_region 7 with fail
      obtain ⟨wb, hwb⟩ : ∃ wb, wr.alloc (.cells #[.pointer (some ⟨v, 0, none⟩), .int .i64 ((zeros (W - 1 - k) (lvl W l k) : Nat) : Int)] 164) = wb := ⟨_, rfl⟩
      have hBb : Below w.heap.size w wb := by rw [← hwb]; exact hB.alloc hB.size _
      have hx1 : wb.cell? ⟨wr.heap.size, 0, none⟩ = some (.pointer (some ⟨v, 0, none⟩)) := by rw [← hwb, cell_blk (heap_alloc_new wr _)]; rfl
      have hx2 : wb.cell? ⟨wr.heap.size, 1, none⟩ = some (.int .i64 ((zeros (W - 1 - k) (lvl W l k) : Nat) : Int)) := by rw [← hwb, cell_blk (heap_alloc_new wr _)]; rfl
      rw [hwb]
      have hVb := hV.below hBb
      have HBit := Lib.hid (bit_any (HTM.out.below hBb) c k hlt Hc.out)
      obtain ⟨bx, hbx⟩ : ∃ bx, wr.heap.size = bx := ⟨_, rfl⟩
      rw [hbx] at hx1 hx2 ⊢
      obtain ⟨d, hd⟩ : ∃ d, W - 1 - k = d := ⟨_, rfl⟩
      have htF : trk W l c 0 (k + 1) = nx d (lvl W l k) (c.testBit d) (trk W l c 0 k) := by rw [trk, hd]
      have htT : trk W l c z (k + 1) = nx d (lvl W l k) (c.testBit d) (trk W l c z k) := by rw [trk, hd]
      rw [hd] at hx2 HBit hVb ⊢
      obtain ⟨f, hf⟩ : ∃ f : Nat → Nat, ∀ i, nx d (lvl W l k) (c.testBit d) i = f i := ⟨_, fun _ => rfl⟩
      have HF := Lib.hid (fun (W' : World) (h : W'.cell? ⟨bx, 0, none⟩ = some (.pointer (some ⟨v, 0, none⟩)) ∧ W'.cell? ⟨bx, 1, none⟩ = some (.int .i64 ((zeros d (lvl W l k) : Nat) : Int)) ∧ Below wb.heap.size wb W') (i : Nat) => nx_any (hVb.below h.2.2) (c.testBit d) i)
      simp only [hf] at HF
      rw [hf] at htF htT
      have HtF := Lib.hid htF
      have HtT := Lib.hid htT
      have Hx1 := Lib.hid hx1
      have Hx2 := Lib.hid hx2
      have HBb := Lib.hid (fun (W' : World) (h : W'.cell? ⟨bx, 0, none⟩ = some (.pointer (some ⟨v, 0, none⟩)) ∧ W'.cell? ⟨bx, 1, none⟩ = some (.int .i64 ((zeros d (lvl W l k) : Nat) : Int)) ∧ Below wb.heap.size wb W') => below_step hBb h.2.2)
      clear hwb hwc1 hwc2 hV hB hx1 hx2 hVb hBb htF htT hbx hd hf
      generalize zeros d (lvl W l k) = zz at *
      generalize trk W l c 0 k = p0 at *
      generalize trk W l c z k = pz at *
      generalize c.testBit d = bb at *
      go_wp2_with fail
      go_at_call 150
      refine HBit.out.mono ?_
      rintro e w' ⟨rfl, rfl⟩
      go_upto_region 8 with fail
      go_region_held3 (fun w' => w'.cell? ⟨bx, 0, none⟩ = some (.pointer (some ⟨v, 0, none⟩)) ∧ w'.cell? ⟨bx, 1, none⟩ = some (.int .i64 (zz : Int)) ∧ Below wb.heap.size wb w')
        (first | exact keep2D Hx1.out Hx2.out | exact keep2S (by assumption) (by assumption) | exact keep2E Hx1.out Hx2.out (by assumption))
        (first | (go_at_call 119; refine (HF.out _ (by assumption) _).mono ?_; rintro e w5 ⟨rfl, hB5⟩))
      all_goals go_wp2_with fail
      all_goals refine ⟨⟨k + 1, by omega, rfl, by rw [HtF.out], by rw [HtT.out], HBb.out _ (by first | assumption | exact keep2S (by assumption) (by assumption) | exact keep2E Hx1.out Hx2.out (by assumption))⟩, ?_⟩
      all_goals show W - ((k : Int) + 1).toNat < W - ((k : Int)).toNat
      all_goals omega
    · obtain rfl : k = W := by omega
      go_wp2_with fail
      go_ret
      exact ⟨ret_int (by omega), hB⟩

end Go.Proofs.YtphccomhggnccaaGreat
namespace Go.Proofs.YtphccomhggnccaaGreat
set_option maxRecDepth 100000
set_option linter.unusedVariables false
set_option linter.unusedSimpArgs false
open Go.RowKit PkMath Pop Rank BtMath Wv
theorem or_one (a : Nat) (h : a < 65536) : bits BinOp.or IntKind.i64 ((a : Int) * 2) 1 = ((2 * a + 1 : Nat) : Int) := by
  have e : (a : Int) * 2 = ((2 * a : Nat) : Int) := by omega
  rw [e, show ((1 : Int)) = ((1 : Nat) : Int) from rfl, i64_or_nat _ _ (by omega) (by decide)]
  congr 1
  have := Nat.two_pow_add_eq_or_of_lt (i := 1) (b := 1) (by decide) a
  rw [Nat.pow_one] at this
  exact this.symm
theorem tget_out (b : Nat) (n : Nat) (i : Int) (w : World) (h1 : w.cell? ⟨b, 0, none⟩ = some (.int .i64 (n : Int))) (h : i < 0 ∨ (n : Int) ≤ i) :
    Calls Tryz.prog 67 #[.pointer (some ⟨b, 0, none⟩), .int .i64 i] w fun e w' => e = .returned (.int .i64 (-1)) ∧ w = w' := by
  have HL := Lib.hid (tlen_cell b n w h1)
  by_cases h0 : i < 0
  · clear h
    go_enter Tryz.func67, Tryz.ntmps67
    go_wp2_with fail
    go_ret
    exact ⟨rfl, rfl⟩
  · have h2 : (n : Int) ≤ i := by omega
    clear h
    go_enter Tryz.func67, Tryz.ntmps67
    go_wp2_with (go_at_call 66; refine HL.out.mono ?_; rintro e w' ⟨rfl, rfl⟩)
    go_ret
    exact ⟨rfl, rfl⟩

set_option maxRecDepth 100000 in
set_option maxHeartbeats 2000000 in
theorem tget_any {w : World} {base b W : Nat} {l : List Nat} (h : TM w base b W l) (i : Nat) (hi : i < l.length) :
    Calls Tryz.prog 67 #[.pointer (some ⟨b, 0, none⟩), .int .i64 (i : Int)] w (IntBelow ((l.getD i 0 : Nat) : Int) w) := by
  have W2 := h.W2
  have hlen := h.len
  have hmem : l.getD i 0 ∈ l := by simp [List.getD, List.getElem?_eq_getElem hi]
  have hxW := h.lt _ hmem
  have HL := Lib.hid (tlen_cell b l.length w h.c0)
  have Htrk := Lib.hid (trk_getD W l i hi)
  obtain ⟨hh, cap, hcell, hlv⟩ := h.c1
  have Hlv := Lib.hid hlv
  generalize l.getD i 0 = x at *
  have hx16 : x < 65536 := Nat.lt_of_lt_of_le hxW (Nat.pow_le_pow_right (by decide) W2)
  have hx0 : x / 2 ^ W = 0 := Nat.div_eq_of_lt hxW
  clear hlv hmem hxW h
  go_enter Tryz.func67, Tryz.ntmps67
  go_wp2_with (go_at_call 66; refine HL.out.mono ?_; rintro e w' ⟨rfl, rfl⟩)
  have hdec : decide (l.length ≤ i) = false := decide_eq_false (by omega)
  have hdec2 : decide ((i : Int) < 0) = false := decide_eq_false (by omega)
  simp only [hdec, hdec2, Bool.or_false]
  clear hdec hdec2 hi
  go_loopw [1, 5, 22] (fun p c q wr => ∃ k : Nat, k ≤ W ∧ q = .int .i64 (k : Int) ∧ p = .int .i64 ((trk W l x i k : Nat) : Int) ∧ c = .int .i64 ((x / 2 ^ (W - k) : Nat) : Int) ∧ Below w.heap.size w wr) (fun _ _ q _ => W - (intOf q).toNat)
  case atStart => exact ⟨0, Nat.zero_le _, rfl, rfl, by rw [Nat.sub_zero, hx0]; rfl, Below.refl _ _⟩
  case round =>
    obtain ⟨k, hk, rfl, rfl, rfl, hB⟩ := hrel
    by_cases hlt : k < W
    · obtain ⟨v, hc1, hc2, hV⟩ := Hlv.out k hlt
      have hwc1 : wr.cell? ⟨hh, k * 2, none⟩ = some (.pointer (some ⟨v, 0, none⟩)) := by
        rw [World.cell?_of_block (w := w) (hB.block _ (World.block_lt_of_cell? w _ hc1))]; exact hc1
      have hwc2 : wr.cell? ⟨hh, k * 2 + 1, none⟩ = some (.int .i64 ((zeros (W - 1 - k) (lvl W l k) : Nat) : Int)) := by
        rw [World.cell?_of_block (w := w) (hB.block _ (World.block_lt_of_cell? w _ hc2))]; exact hc2
      clear hc1 hc2
      go_upto_region 7 with fail
      obtain ⟨wb, hwb⟩ : ∃ wb, wr.alloc (.cells #[.pointer (some ⟨v, 0, none⟩), .int .i64 ((zeros (W - 1 - k) (lvl W l k) : Nat) : Int)] 164) = wb := ⟨_, rfl⟩
      have hBb : Below w.heap.size w wb := by rw [← hwb]; exact hB.alloc hB.size _
      have hx1 : wb.cell? ⟨wr.heap.size, 0, none⟩ = some (.pointer (some ⟨v, 0, none⟩)) := by rw [← hwb, cell_blk (heap_alloc_new wr _)]; rfl
      have hx2 : wb.cell? ⟨wr.heap.size, 1, none⟩ = some (.int .i64 ((zeros (W - 1 - k) (lvl W l k) : Nat) : Int)) := by rw [← hwb, cell_blk (heap_alloc_new wr _)]; rfl
      rw [hwb]
      have hVb := hV.below hBb
      obtain ⟨bx, hbx⟩ : ∃ bx, wr.heap.size = bx := ⟨_, rfl⟩
      rw [hbx] at hx1 hx2 ⊢
      obtain ⟨d, hd⟩ : ∃ d, W - 1 - k = d := ⟨_, rfl⟩
      have htF : trk W l x i (k + 1) = nx d (lvl W l k) (x.testBit d) (trk W l x i k) := by rw [trk, hd]
      rw [hd] at hx2 hVb ⊢
      obtain ⟨hp1, hp2⟩ := Htrk.out k
      have hG := bget_any hVb ((trk W l x i k : Nat) : Int)
      rw [Int.toNat_natCast, bitsOf_getD _ _ _ (by rw [rowAt_length]; exact hp1), hp2, show decide ((0 : Int) ≤ ((trk W l x i k : Nat) : Int)) = true by simp, Bool.true_and] at hG
      have HG := Lib.hid hG
      have hT := nx_any hVb (x.testBit d) (trk W l x i k)
      rw [← htF] at hT
      have HT := Lib.hid hT
      have hacc : x / 2 ^ (W - (k + 1)) = 2 * (x / 2 ^ (W - k)) + (x.testBit d).toNat := by
        rw [show W - (k + 1) = d by omega, show W - k = d + 1 by omega]; exact half_succ x d
      have Hacc := Lib.hid hacc
      have hab : x / 2 ^ (W - k) < 65536 := Nat.lt_of_le_of_lt (Nat.div_le_self _ _) hx16
      clear hwb hwc1 hwc2 hV hB hVb htF hbx hd hG hT hp1 hp2 hacc
      generalize zeros d (lvl W l k) = zz at *
      generalize trk W l x i k = p0 at *
      generalize x / 2 ^ (W - k) = acc at *
      generalize x.testBit d = bb at *
      have hor := or_one acc hab
      have hw2 : IntKind.i64.wrap ((acc : Int) * 2) = (acc : Int) * 2 := wrap_small _ (by omega) (by omega)
      cases bb
      all_goals
        go_wp2_with fail
        go_at_call 111
        refine HG.out.mono ?_
        rintro e w' ⟨rfl, rfl⟩
        go_wp2_with fail
        go_at_call 119
        refine HT.out.mono ?_
        rintro e w' ⟨rfl, hB5⟩
        go_wp2_with fail
        go_roundw
        case rel =>
          refine ⟨k + 1, by omega, rfl, rfl, ?_, below_step hBb hB5⟩
          rw [Hacc.out]
          exact congrArg (Value.int IntKind.i64) (by first | (simp only [Bool.toNat_false, Bool.toNat_true]; omega) | (show (acc : Int) * 2 = ((2 * acc + 0 : Nat) : Int); omega) | (show 2 * (acc : Int) + 1 = ((2 * acc + 1 : Nat) : Int); omega))
        case measure =>
          show W - ((k : Int) + 1).toNat < W - ((k : Int)).toNat
          omega
    · obtain rfl : k = W := by omega
      go_wp2_with fail
      go_ret
      refine ⟨?_, hB⟩
      rw [Nat.sub_self, Nat.pow_zero, Nat.div_one]
      rfl
end Go.Proofs.YtphccomhggnccaaGreat
namespace Go.Proofs.YtphccomhggnccaaGreat
set_option maxRecDepth 100000
set_option linter.unusedVariables false
set_option linter.unusedSimpArgs false
open Go.RowKit PkMath Pop Rank BtMath Wv
end Go.Proofs.YtphccomhggnccaaGreat
namespace Go.Proofs.YtphccomhggnccaaGreat
set_option maxRecDepth 100000
set_option linter.unusedVariables false
set_option linter.unusedSimpArgs false
open Go.RowKit PkMath Pop Rank BtMath Wv
theorem trank_out {w : World} {base b W : Nat} {l : List Nat} (h : TM w base b W l) (c : Int) (hc : c < 0 ∨ (2 : Int) ^ W ≤ c) (i : Int) :
    Calls Tryz.prog 110 #[.pointer (some ⟨b, 0, none⟩), .int .i64 c, .int .i64 i] w (IntBelow 0 w) := by
  have hS := isSym_any h c
  rw [show decide (0 ≤ c ∧ c < 2 ^ W) = false by
    rw [decide_eq_false_iff_not]
    rintro ⟨h1, h2⟩
    rcases hc with h3 | h3
    · omega
    · exact absurd h2 (Int.not_lt.2 h3)] at hS
  have HS := Lib.hid hS
  clear hS hc
  go_enter Tryz.func110, Tryz.ntmps110
  go_wp2_with (go_at_call 148; refine HS.out.mono ?_; rintro e w' ⟨rfl, rfl⟩)
  go_ret
  exact ⟨rfl, Below.refl _ _⟩

end Go.Proofs.YtphccomhggnccaaGreat
namespace Go.Proofs.YtphccomhggnccaaGreat
set_option maxRecDepth 100000
set_option linter.unusedVariables false
set_option linter.unusedSimpArgs false
open Go.RowKit PkMath Pop Rank BtMath Wv
end Go.Proofs.YtphccomhggnccaaGreat
namespace Go.Proofs.YtphccomhggnccaaGreat
set_option maxRecDepth 100000
set_option linter.unusedVariables false
set_option linter.unusedSimpArgs false
open Go.RowKit PkMath Pop Rank BtMath Wv
end Go.Proofs.YtphccomhggnccaaGreat
namespace Go.Proofs.YtphccomhggnccaaGreat
set_option maxRecDepth 100000
set_option linter.unusedVariables false
set_option linter.unusedSimpArgs false
open Go.RowKit PkMath Pop Rank BtMath Wv
end Go.Proofs.YtphccomhggnccaaGreat
namespace Go.Proofs.YtphccomhggnccaaGreat
set_option maxRecDepth 100000
set_option linter.unusedVariables false
set_option linter.unusedSimpArgs false
open Go.RowKit PkMath Pop Rank BtMath Wv
end Go.Proofs.YtphccomhggnccaaGreat
namespace Go.Proofs.YtphccomhggnccaaGreat
set_option maxRecDepth 100000
set_option linter.unusedVariables false
set_option linter.unusedSimpArgs false
open Go.RowKit PkMath Pop Rank BtMath Wv
end Go.Proofs.YtphccomhggnccaaGreat
namespace Go.Proofs.YtphccomhggnccaaGreat
set_option maxRecDepth 100000
set_option linter.unusedVariables false
set_option linter.unusedSimpArgs false
open Go.RowKit PkMath Pop Rank BtMath Wv
end Go.Proofs.YtphccomhggnccaaGreat
namespace Go.Proofs.YtphccomhggnccaaGreat
set_option maxRecDepth 100000
set_option linter.unusedVariables false
set_option linter.unusedSimpArgs false
open Go.RowKit PkMath Pop Rank BtMath Wv
end Go.Proofs.YtphccomhggnccaaGreat
namespace Go.Proofs.YtphccomhggnccaaGreat
set_option maxRecDepth 100000
set_option linter.unusedVariables false
set_option linter.unusedSimpArgs false
open Go.RowKit PkMath Pop Rank BtMath Wv
def IL (l : List Nat) : List Int := l.map fun x : Nat => (x : Int)
theorem IL_length (l : List Nat) : (IL l).length = l.length := by simp [IL]
theorem IL_getD (l : List Nat) (i : Nat) (h : i < l.length) : (IL l).getD i 0 = ((l.getD i 0 : Nat) : Int) := by
  simp [IL, List.getD, List.getElem?_eq_getElem h]
theorem rk_IL (l : List Nat) (c i : Nat) : rk (IL l) (c : Int) i = rk l c i := by
  unfold rk IL
  rw [← List.map_take, List.count_eq_countP, List.countP_map, List.count_eq_countP]
  congr 1
  funext x
  simp only [Function.comp]
  rw [Bool.eq_iff_iff, beq_iff_eq, beq_iff_eq]
  omega
theorem rk_IL_neg (l : List Nat) (c : Int) (hc : c < 0) (i : Nat) : rk (IL l) c i = 0 := by
  unfold rk IL
  rw [List.count_eq_zero]
  intro h
  obtain ⟨x, _, hx⟩ := List.mem_map.1 (List.mem_of_mem_take h)
  omega
end Go.Proofs.YtphccomhggnccaaGreat
namespace Go.Proofs.YtphccomhggnccaaGreat
set_option maxRecDepth 100000
set_option linter.unusedVariables false
set_option linter.unusedSimpArgs false
open Go.RowKit PkMath Pop Rank BtMath Wv
end Go.Proofs.YtphccomhggnccaaGreat
namespace Go.Proofs.YtphccomhggnccaaGreat
set_option maxRecDepth 100000
set_option linter.unusedVariables false
set_option linter.unusedSimpArgs false
open Go.RowKit PkMath Pop Rank BtMath Wv
end Go.Proofs.YtphccomhggnccaaGreat
namespace Go.Proofs.YtphccomhggnccaaGreat
set_option maxRecDepth 100000
set_option linter.unusedVariables false
set_option linter.unusedSimpArgs false
open Go.RowKit PkMath Pop Rank BtMath Wv
def flt (d : Nat) (row : List Nat) (b : Bool) (j : Nat) : List Nat := (row.take j).filter (fun x => x.testBit d == b)
theorem flt_succ (d : Nat) (row : List Nat) (b : Bool) (j : Nat) (hj : j < row.length) : flt d row b (j + 1) = flt d row b j ++ if (row.getD j 0).testBit d == b then [row.getD j 0] else [] := by
  unfold flt
  rw [List.take_succ_eq_append_getElem hj, List.filter_append]
  congr 1
  have : row.getD j 0 = row[j] := by simp [List.getD, List.getElem?_eq_getElem hj]
  rw [this, List.filter_cons, List.filter_nil]
theorem flt_same (d : Nat) (row : List Nat) (b : Bool) (j : Nat) (hj : j < row.length) (h : (row.getD j 0).testBit d = b) : flt d row b (j + 1) = flt d row b j ++ [row.getD j 0] := by
  rw [flt_succ _ _ _ _ hj, if_pos (by rw [h]; simp)]
theorem flt_other (d : Nat) (row : List Nat) (b : Bool) (j : Nat) (hj : j < row.length) (h : (row.getD j 0).testBit d ≠ b) : flt d row b (j + 1) = flt d row b j := by
  rw [flt_succ _ _ _ _ hj, if_neg (by simpa using h), List.append_nil]
theorem flt_le (d : Nat) (row : List Nat) (b : Bool) (j : Nat) : (flt d row b j).length ≤ j := by
  unfold flt
  exact Nat.le_trans (List.length_filter_le _ _) (List.length_take_le _ _)
theorem flt_all (d : Nat) (row : List Nat) (b : Bool) (n : Nat) (h : row.length = n) : flt d row b n = row.filter (fun x => x.testBit d == b) := by
  unfold flt; rw [List.take_of_length_le (by omega)]
theorem bits_succ (d : Nat) (row : List Nat) (j : Nat) (hj : j < row.length) : bitsOf d (row.take (j + 1)) = bitsOf d (row.take j) ++ [(row.getD j 0).testBit d] := by
  unfold bitsOf
  rw [List.take_succ_eq_append_getElem hj, List.map_append]
  simp [List.getD, List.getElem?_eq_getElem hj]
theorem IL_append (a b : List Nat) : IL (a ++ b) = IL a ++ IL b := by simp [IL]
theorem VB_append (a b : List Bool) : VB (a ++ b) = VB a ++ VB b := by simp [VB]
theorem VB_one (l : List Bool) : ∀ u ∈ VB l, u.oneCell' = true := by
  intro u hu
  obtain ⟨x, _, rfl⟩ := List.mem_map.1 hu
  rfl

def Inner (w0 : World) (pb : Nat) (row : List Nat) (d j : Nat) (l : Value) (wi : World) : Prop :=
  ∃ p0 p1, wi.heap[pb]? = some (.cells #[p0, p1] 224 (0, 0)) ∧
    wi.ownsRow w0.heap.size 4 1 l (bitsOf d (row.take j)).length (VB (bitsOf d (row.take j))) ∧
    wi.ownsRow w0.heap.size 3 1 p0 (IL (flt d row false j)).length (VI (IL (flt d row false j))) ∧
    wi.ownsRow w0.heap.size 3 1 p1 (IL (flt d row true j)).length (VI (IL (flt d row true j))) ∧
    (∀ g, p0.ownBlock = some g → p1.ownBlock ≠ some g) ∧ Below w0.heap.size w0 wi

theorem app_int_at {w : World} {ops : Array Oper} {rest : List Oper} {o : Oper} {a : Act} {Q : Exit → Act → World → Prop} (hgd : o.guard = none) (s x : Operand)
    (ho : o.op = .call { callee := .builtin .append, args := #[s, x], argTypes := #[26, 26] })
    (base : Nat) (v : Value) (xs : List Int) (hs : a.eval s = v) (hown : w.ownsRow base 3 1 v xs.length (VI xs))
    (ad : Addr) (c : Nat) (y : Int) (hx : a.eval x = .slice (some ad) 1 c) (hnews : Sl w (some ad) (VI [y]))
    (h63 : xs.length + 1 ≤ 1099511627776) (hbase : base ≤ w.heap.size)
    (h : ∀ v' w', w'.ownsRow base 3 1 v' (xs ++ [y]).length (VI (xs ++ [y])) → w.grownBy w' v.ownBlock → (v'.ownBlock = v.ownBlock ∨ v'.ownBlock = some w.heap.size) → wpList Tryz.prog ops Q rest (a.put o.dst v') w') : wpList Tryz.prog ops Q (o :: rest) a w := by
  obtain ⟨i0, hi, hz0, hz1, hz2⟩ := info_parts info_int
  refine wpList_append_own_at w hgd s x 26 ho base 3 i0 (.int .i64 0) 1 8 Tryz.underlying26 hi hz0 hz1 hz2 rfl (by decide) v xs.length (VI xs) hs hown ad 1 c (VI [y]) hx rfl (hnews.cell ad rfl) (VI_one _) (by unfold maxLen; omega) (by omega) hbase ?_
  intro v' w' h1 h2 h3 h4
  refine h v' w' ?_ h2 h4
  rw [List.length_append, VI_append]
  exact h1
theorem app_bool_at {w : World} {ops : Array Oper} {rest : List Oper} {o : Oper} {a : Act} {Q : Exit → Act → World → Prop} (hgd : o.guard = none) (s x : Operand)
    (ho : o.op = .call { callee := .builtin .append, args := #[s, x], argTypes := #[223, 223] })
    (base : Nat) (v : Value) (xs : List Bool) (hs : a.eval s = v) (hown : w.ownsRow base 4 1 v xs.length (VB xs))
    (ad : Addr) (c : Nat) (y : Bool) (hx : a.eval x = .slice (some ad) 1 c) (hnews : Sl w (some ad) (VB [y]))
    (h63 : xs.length + 1 ≤ 1099511627776) (hbase : base ≤ w.heap.size)
    (h : ∀ v' w', w'.ownsRow base 4 1 v' (xs ++ [y]).length (VB (xs ++ [y])) → w.grownBy w' v.ownBlock → (v'.ownBlock = v.ownBlock ∨ v'.ownBlock = some w.heap.size) → wpList Tryz.prog ops Q rest (a.put o.dst v') w') : wpList Tryz.prog ops Q (o :: rest) a w := by
  obtain ⟨i0, hi, hz0, hz1, hz2⟩ := info_parts info_bool
  refine wpList_append_own_at w hgd s x 223 ho base 4 i0 (.bool false) 1 1 Tryz.underlying223 hi hz0 hz1 hz2 rfl (by decide) v xs.length (VB xs) hs hown ad 1 c (VB [y]) hx rfl (hnews.cell ad rfl) (VB_one _) (by unfold maxLen; omega) (by omega) hbase ?_
  intro v' w' h1 h2 h3 h4
  refine h v' w' ?_ h2 h4
  rw [List.length_append, VB_append]
  exact h1
theorem inner_bit {w0 wi w2 : World} {pb : Nat} {row : List Nat} {d j : Nat} {l l' : Value} {o : Obj} (h : Inner w0 pb row d j l wi) (hpb : w0.heap.size ≤ pb)
    (ho : w2.ownsRow w0.heap.size 4 1 l' (bitsOf d (row.take j) ++ [(row.getD j 0).testBit d]).length (VB (bitsOf d (row.take j) ++ [(row.getD j 0).testBit d])))
    (hg : (wi.alloc o).grownBy w2 l.ownBlock) (hj : j < row.length) :
    ∃ p0 p1, w2.heap[pb]? = some (.cells #[p0, p1] 224 (0, 0)) ∧
    w2.ownsRow w0.heap.size 4 1 l' (bitsOf d (row.take (j + 1))).length (VB (bitsOf d (row.take (j + 1)))) ∧
    w2.ownsRow w0.heap.size 3 1 p0 (IL (flt d row false j)).length (VI (IL (flt d row false j))) ∧
    w2.ownsRow w0.heap.size 3 1 p1 (IL (flt d row true j)).length (VI (IL (flt d row true j))) ∧
    (∀ g, p0.ownBlock = some g → p1.ownBlock ≠ some g) ∧ Below w0.heap.size w0 w2 ∧ pb < w2.heap.size := by
  obtain ⟨p0, p1, h1, h2, h3, h4, h5, h6⟩ := h
  have hne := own_ne h2 h1 (by decide)
  have hx : ∀ {p : Value} {n : Nat} {xs : List Value}, wi.ownsRow w0.heap.size 3 1 p n xs → w2.ownsRow w0.heap.size 3 1 p n xs := by
    intro p n xs hp
    refine World.ownsRow.kept (World.ownsRow.alloc hp o) hg ?_
    rcases hp.2 with ⟨rfl, _⟩ | ⟨g, cap, cur, rfl, _, hgb, _⟩
    · exact .inl rfl
    · exact .inr (own_ne h2 hgb (by decide))
  rw [← bits_succ d row j hj] at ho
  have hb2 := grown_blk hg (blk_alloc h1 o) hne
  exact ⟨p0, p1, hb2, ho, hx h3, hx h4, h5, (h6.alloc h6.size o).grown hg (by have := h6.size; simp; omega) (fun k hk => (World.ownsRow.lt h2 k hk).1), blk_lt hb2⟩
theorem inner_push0 {w0 w2 w3 : World} {pb : Nat} {row : List Nat} {d j : Nat} {l' p0 p1 v3 : Value} {o : Obj} (hpb : w0.heap.size ≤ pb) (hj : j < row.length) (hb : (row.getD j 0).testBit d = false)
    (h1 : w2.heap[pb]? = some (.cells #[p0, p1] 224 (0, 0))) (h2 : w2.ownsRow w0.heap.size 4 1 l' (bitsOf d (row.take (j + 1))).length (VB (bitsOf d (row.take (j + 1)))))
    (h3 : w2.ownsRow w0.heap.size 3 1 p0 (IL (flt d row false j)).length (VI (IL (flt d row false j)))) (h4 : w2.ownsRow w0.heap.size 3 1 p1 (IL (flt d row true j)).length (VI (IL (flt d row true j))))
    (h5 : ∀ g, p0.ownBlock = some g → p1.ownBlock ≠ some g) (h6 : Below w0.heap.size w0 w2)
    (ho : w3.ownsRow w0.heap.size 3 1 v3 (IL (flt d row false j) ++ [((row.getD j 0 : Nat) : Int)]).length (VI (IL (flt d row false j) ++ [((row.getD j 0 : Nat) : Int)])))
    (hg : (w2.alloc o).grownBy w3 p0.ownBlock) (hat : v3.ownBlock = p0.ownBlock ∨ v3.ownBlock = some (w2.alloc o).heap.size) :
    Inner w0 pb row d (j + 1) l' (w3.setCell ⟨pb, 0, none⟩ v3) ∧ w3.cell? ⟨pb, 0, none⟩ = some p0 ∧ w3.frozen? ⟨pb, 0, none⟩ = false := by
  have hne := own_ne h3 h1 (by decide)
  have hb3 := grown_blk hg (blk_alloc h1 o) hne
  have hl3 : w3.ownsRow w0.heap.size 4 1 l' (bitsOf d (row.take (j + 1))).length (VB (bitsOf d (row.take (j + 1)))) := by
    refine World.ownsRow.kept (World.ownsRow.alloc h2 o) hg ?_
    rcases h2.2 with ⟨rfl, _⟩ | ⟨g, cap, cur, rfl, _, hgb, _⟩
    · exact .inl rfl
    · exact .inr (own_ne h3 hgb (by decide))
  have hp3 : w3.ownsRow w0.heap.size 3 1 p1 (IL (flt d row true j)).length (VI (IL (flt d row true j))) := by
    refine World.ownsRow.kept (World.ownsRow.alloc h4 o) hg ?_
    rcases h4.2 with ⟨rfl, _⟩ | ⟨g, cap, cur, rfl, _, hgb, _⟩
    · exact .inl rfl
    · exact .inr (fun e => h5 g e.symm rfl)
  have hset : ∀ {t : TypeId} {p : Value} {n : Nat} {xs : List Value} (ht : 224 ≠ t), w3.ownsRow w0.heap.size t 1 p n xs → (w3.setCell ⟨pb, 0, none⟩ v3).ownsRow w0.heap.size t 1 p n xs :=
    fun ht hp => World.ownsRow.kept hp (grown_set w3 pb 0 v3) (.inr (fun e => own_ne hp hb3 ht e.symm))
  have hs6 := h6.size
  have hB3 : Below w0.heap.size w0 w3 := (h6.alloc h6.size o).grown hg (by simp; omega) (fun k hk => (World.ownsRow.lt h3 k hk).1)
  refine ⟨⟨v3, p1, ?_, hset (by decide) hl3, ?_, ?_, ?_, below_cell hB3 hpb 0 v3 rfl⟩, (cell_blk hb3 0).trans rfl, frozen_blk hb3 0⟩
  · exact blk_set hb3 0 v3
  · rw [flt_same d row false j hj hb, IL_append]; exact hset (by decide) ho
  · rw [flt_other d row true j hj (by rw [hb]; decide)]; exact hset (by decide) hp3
  · intro g hgg hg1
    rcases hat with e | e
    · exact h5 g (e.symm.trans hgg) hg1
    · rw [e] at hgg
      injection hgg with hgg
      have := (World.ownsRow.lt h4 g hg1).2
      simp at hgg
      omega
theorem inner_push1 {w0 w2 w3 : World} {pb : Nat} {row : List Nat} {d j : Nat} {l' p0 p1 v3 : Value} {o : Obj} (hpb : w0.heap.size ≤ pb) (hj : j < row.length) (hb : (row.getD j 0).testBit d = true)
    (h1 : w2.heap[pb]? = some (.cells #[p0, p1] 224 (0, 0))) (h2 : w2.ownsRow w0.heap.size 4 1 l' (bitsOf d (row.take (j + 1))).length (VB (bitsOf d (row.take (j + 1)))))
    (h3 : w2.ownsRow w0.heap.size 3 1 p0 (IL (flt d row false j)).length (VI (IL (flt d row false j)))) (h4 : w2.ownsRow w0.heap.size 3 1 p1 (IL (flt d row true j)).length (VI (IL (flt d row true j))))
    (h5 : ∀ g, p0.ownBlock = some g → p1.ownBlock ≠ some g) (h6 : Below w0.heap.size w0 w2)
    (ho : w3.ownsRow w0.heap.size 3 1 v3 (IL (flt d row true j) ++ [((row.getD j 0 : Nat) : Int)]).length (VI (IL (flt d row true j) ++ [((row.getD j 0 : Nat) : Int)])))
    (hg : (w2.alloc o).grownBy w3 p1.ownBlock) (hat : v3.ownBlock = p1.ownBlock ∨ v3.ownBlock = some (w2.alloc o).heap.size) :
    Inner w0 pb row d (j + 1) l' (w3.setCell ⟨pb, 1, none⟩ v3) ∧ w3.cell? ⟨pb, 1, none⟩ = some p1 ∧ w3.frozen? ⟨pb, 1, none⟩ = false := by
  have hne := own_ne h4 h1 (by decide)
  have hb3 := grown_blk hg (blk_alloc h1 o) hne
  have hl3 : w3.ownsRow w0.heap.size 4 1 l' (bitsOf d (row.take (j + 1))).length (VB (bitsOf d (row.take (j + 1)))) := by
    refine World.ownsRow.kept (World.ownsRow.alloc h2 o) hg ?_
    rcases h2.2 with ⟨rfl, _⟩ | ⟨g, cap, cur, rfl, _, hgb, _⟩
    · exact .inl rfl
    · exact .inr (own_ne h4 hgb (by decide))
  have hp3 : w3.ownsRow w0.heap.size 3 1 p0 (IL (flt d row false j)).length (VI (IL (flt d row false j))) := by
    refine World.ownsRow.kept (World.ownsRow.alloc h3 o) hg ?_
    rcases h3.2 with ⟨rfl, _⟩ | ⟨g, cap, cur, rfl, _, hgb, _⟩
    · exact .inl rfl
    · exact .inr (fun e => h5 g rfl e.symm)
  have hset : ∀ {t : TypeId} {p : Value} {n : Nat} {xs : List Value} (ht : 224 ≠ t), w3.ownsRow w0.heap.size t 1 p n xs → (w3.setCell ⟨pb, 1, none⟩ v3).ownsRow w0.heap.size t 1 p n xs :=
    fun ht hp => World.ownsRow.kept hp (grown_set w3 pb 1 v3) (.inr (fun e => own_ne hp hb3 ht e.symm))
  have hs6 := h6.size
  have hB3 : Below w0.heap.size w0 w3 := (h6.alloc h6.size o).grown hg (by simp; omega) (fun k hk => (World.ownsRow.lt h4 k hk).1)
  refine ⟨⟨p0, v3, ?_, hset (by decide) hl3, ?_, ?_, ?_, below_cell hB3 hpb 1 v3 rfl⟩, (cell_blk hb3 1).trans rfl, frozen_blk hb3 1⟩
  · exact blk_set hb3 1 v3
  · rw [flt_other d row false j hj (by rw [hb]; decide)]; exact hset (by decide) hp3
  · rw [flt_same d row true j hj hb, IL_append]; exact hset (by decide) ho
  · intro g hgg hg1
    rcases hat with e | e
    · exact h5 g hgg (e.symm.trans hg1)
    · rw [e] at hg1
      injection hg1 with hg1
      have := (World.ownsRow.lt h3 g hgg).2
      simp at hg1
      omega

def lvc (vb : Nat → Nat) (W : Nat) (l : List Nat) : Nat → List Value
  | 0 => []
  | k + 1 => lvc vb W l k ++ [.pointer (some ⟨vb k, 0, none⟩), .int .i64 ((zeros (W - 1 - k) (lvl W l k) : Nat) : Int)]
theorem lvc_length (vb : Nat → Nat) (W : Nat) (l : List Nat) (k : Nat) : (lvc vb W l k).length = 2 * k := by
  induction k with
  | zero => rfl
  | succ k ih => rw [lvc, List.length_append, ih]; simp; omega
theorem lvc_get (vb : Nat → Nat) (W : Nat) (l : List Nat) (k j : Nat) (hj : j < k) :
    (lvc vb W l k)[2 * j]? = some (.pointer (some ⟨vb j, 0, none⟩)) ∧ (lvc vb W l k)[2 * j + 1]? = some (.int .i64 ((zeros (W - 1 - j) (lvl W l j) : Nat) : Int)) := by
  induction k with
  | zero => omega
  | succ k ih =>
    rw [lvc]
    by_cases h : j < k
    · obtain ⟨a, b⟩ := ih h
      rw [List.getElem?_append_left (by rw [lvc_length]; omega), List.getElem?_append_left (by rw [lvc_length]; omega)]
      exact ⟨a, b⟩
    · obtain rfl : j = k := by omega
      rw [List.getElem?_append_right (by rw [lvc_length]; omega), List.getElem?_append_right (by rw [lvc_length]; omega), lvc_length]
      simp
theorem lvc_same (vb vb' : Nat → Nat) (W : Nat) (l : List Nat) (k : Nat) (h : ∀ j, j < k → vb j = vb' j) : lvc vb W l k = lvc vb' W l k := by
  induction k with
  | zero => rfl
  | succ k ih => rw [lvc, lvc, ih (fun j hj => h j (by omega)), h k (by omega)]
def Outer (w : World) (tb W : Nat) (l : List Nat) (k : Nat) (rv : Value) (wr : World) : Prop :=
  wr.ownsRow w.heap.size 3 1 rv (IL (lvl W l k)).length (VI (IL (lvl W l k))) ∧
  (∃ lv vb, wr.heap[tb]? = some (.cells #[.int .i64 (l.length : Int), lv] 162 (0, 0)) ∧ wr.ownsRow w.heap.size 164 2 lv k (lvc vb W l k) ∧
    ∀ j, j < k → BVec wr w.heap.size (vb j) (bitsOf (W - 1 - j) (lvl W l j))) ∧ Below w.heap.size w wr
theorem outer_tm {w wr : World} {tb W : Nat} {l : List Nat} {rv : Value} (h : Outer w tb W l W rv wr) (h1 : 1 ≤ W) (h2 : W ≤ 16) (hl : l.length ≤ 131072) (hlt : ∀ x ∈ l, x < 2 ^ W) (hb : w.heap.size ≤ tb) : TM wr w.heap.size tb W l := by
  obtain ⟨_, ⟨lv, vb, hblk, hown, hV⟩, _⟩ := h
  rcases hown.2 with ⟨_, h0⟩ | ⟨g, cap, cur, rfl, hg, hgb, hn, hm, hsz, ht⟩
  · omega
  · refine ⟨h1, h2, hl, hlt, hb, g, cap, cur, vb, hg, hblk, hgb, fun k hk => ?_⟩
    obtain ⟨a, b⟩ := lvc_get vb W l W k hk
    rw [← ht, List.getElem?_take, if_pos (by omega)] at a b
    exact ⟨by simpa using a, by simpa using b, hV k hk⟩
end Go.Proofs.YtphccomhggnccaaGreat
namespace Go.Proofs.YtphccomhggnccaaGreat
set_option maxRecDepth 100000
set_option linter.unusedVariables false
set_option linter.unusedSimpArgs false
open Go.RowKit PkMath Pop Rank BtMath Wv
theorem own_sl2 {w : World} {base : Nat} {e : TypeId} {v : Value} {n : Nat} {xs : List Value} (h : w.ownsRow base e 1 v n xs) : ∃ A c, v = .slice A n c ∧ Sl w A xs ∧ xs.length = n ∧ (A = none → c = 0) := by
  have hl := h.1
  rw [Nat.mul_one] at hl
  rcases h.2 with ⟨rfl, rfl⟩ | ⟨g, cap, cur, rfl, hg, hb, hn, hm, hs, ht⟩
  · exact ⟨none, 0, rfl, ⟨fun _ => List.eq_nil_of_length_eq_zero hl, fun a ha => by cases ha⟩, hl, fun _ => rfl⟩
  · refine ⟨_, _, rfl, ⟨fun he => (by cases he), fun a ha j u hu => ?_⟩, hl, fun ha => by cases ha⟩
    cases ha
    exact h.cells (g := g) rfl j u hu
theorem own_mono {w : World} {base base' : Nat} {e : TypeId} {size : Nat} {v : Value} {n : Nat} {xs : List Value} (h : w.ownsRow base e size v n xs) (hb : base' ≤ base) : w.ownsRow base' e size v n xs := by
  refine ⟨h.1, ?_⟩
  rcases h.2 with hn | ⟨g, cap, cur, rfl, hg, r⟩
  · exact .inl hn
  · exact .inr ⟨g, cap, cur, rfl, by omega, r⟩
theorem own_neS {w : World} {base : Nat} {e : TypeId} {size : Nat} {v : Value} {n : Nat} {xs : List Value} (h : w.ownsRow base e size v n xs) {b : Nat} {cs : Array Value} {t : TypeId} {fr : Nat × Nat} (hb : w.heap[b]? = some (.cells cs t fr)) (ht : t ≠ e) : some b ≠ v.ownBlock := by
  intro he
  rcases h.2 with ⟨rfl, _⟩ | ⟨g, cap, cur, rfl, _, hg, _⟩
  · cases he
  · injection he with he
    subst he
    rw [hb] at hg
    injection hg with hg
    injection hg with _ h2 _
    exact ht h2
theorem own_keepT {w w' : World} {base : Nat} {e e' : TypeId} {size size' : Nat} {v v' : Value} {n n' : Nat} {xs xs' : List Value} {base' : Nat} (h : w.ownsRow base e size v n xs) (h' : w.ownsRow base' e' size' v' n' xs') (ht : e ≠ e') (hg : w.grownBy w' v'.ownBlock) : w'.ownsRow base e size v n xs := by
  refine World.ownsRow.kept h hg ?_
  rcases h.2 with ⟨rfl, _⟩ | ⟨g, cap, cur, rfl, _, hgb, _⟩
  · exact .inl rfl
  · exact .inr (own_neS h' hgb ht)
theorem own_below {w w' : World} {base : Nat} {e : TypeId} {size : Nat} {v : Value} {n : Nat} {xs : List Value} (h : w.ownsRow base e size v n xs) (hb : Below w.heap.size w w') : w'.ownsRow base e size v n xs :=
  World.ownsRow.kept h (below_grown hb (Nat.le_refl _) none) (by cases v.ownBlock with
    | none => exact .inl rfl
    | some q => exact .inr (by simp))
def BVecH (w : World) (base b h : Nat) (l : List Bool) : Prop :=
  l.length ≤ 1048576 ∧ base ≤ b ∧ base ≤ h ∧ ∃ g cap cur, base ≤ g ∧
    w.heap[b]? = some (.cells #[.int .i64 (l.length : Int), .slice (some ⟨g, 0, none⟩) (bwords l).length (bwords l).length, .slice (some ⟨h, 0, none⟩) ((bwords l).length + 1) cap] 193 (0, 0)) ∧
    w.heap[g]? = some (.cells (U (bwords l)) 154 (0, 0)) ∧
    w.heap[h]? = some (.cells cur 3 (0, 0)) ∧ cur.toList.take ((bwords l).length + 1) = VI (aheads l ((bwords l).length + 1))
theorem BVec.named {w : World} {base b : Nat} {l : List Bool} (h : BVec w base b l) : ∃ hh, BVecH w base b hh l ∧ hh < w.heap.size := by
  obtain ⟨h1, h2, g, hh, cap, cur, hgb, hhh, hb, hw, ha, ht⟩ := h
  exact ⟨hh, ⟨h1, h2, hhh, g, cap, cur, hgb, hb, hw, ha, ht⟩, blk_lt ha⟩
theorem BVecH.vec {w : World} {base b hh : Nat} {l : List Bool} (h : BVecH w base b hh l) : BVec w base b l := by
  obtain ⟨h1, h2, hhh, g, cap, cur, hgb, hb, hw, ha, ht⟩ := h
  exact ⟨h1, h2, g, hh, cap, cur, hgb, hhh, hb, hw, ha, ht⟩
theorem BVecH.below {w w' : World} {base b hh : Nat} {l : List Bool} (h : BVecH w base b hh l) (hB : Below w.heap.size w w') : BVecH w' base b hh l := by
  obtain ⟨h1, h2, hhh, g, cap, cur, hgb, hb, hw, ha, ht⟩ := h
  exact ⟨h1, h2, hhh, g, cap, cur, hgb, (hB.block _ (blk_lt hb)).trans hb, (hB.block _ (blk_lt hw)).trans hw, (hB.block _ (blk_lt ha)).trans ha, ht⟩
theorem BVecH.grownT {w w' : World} {base b hh : Nat} {l : List Bool} (h : BVecH w base b hh l) {r : Option Nat} (hg : w.grownBy w' r) (hr : ∀ g, r = some g → ∃ cs t fr, w.heap[g]? = some (.cells cs t fr) ∧ t ≠ 193 ∧ t ≠ 154) (hne : r ≠ some hh) : BVecH w' base b hh l := by
  obtain ⟨h1, h2, hhh, g, cap, cur, hgb, hb, hw, ha, ht⟩ := h
  have ne : ∀ {k : Nat} {cs : Array Value} {t : TypeId} {fr : Nat × Nat}, w.heap[k]? = some (.cells cs t fr) → (t = 193 ∨ t = 154) → some k ≠ r := by
    intro k cs t fr hk htt e
    obtain ⟨cs', t', fr', hc, n1, n2⟩ := hr k e.symm
    rw [hk] at hc
    injection hc with hc
    injection hc with _ hc _
    subst hc
    rcases htt with e | e
    · exact n1 e
    · exact n2 e
  exact ⟨h1, h2, hhh, g, cap, cur, hgb, grown_blk hg hb (ne hb (.inl rfl)), grown_blk hg hw (ne hw (.inr rfl)), grown_blk hg ha (fun e => hne e.symm), ht⟩
theorem BVecH.ne {w : World} {base b hh : Nat} {l : List Bool} (h : BVecH w base b hh l) {r : Option Nat} (hr : ∀ g, r = some g → ∃ cs t fr, w.heap[g]? = some (.cells cs t fr) ∧ t ≠ 3) : r ≠ some hh := by
  intro e
  obtain ⟨cs, t, fr, hc, n⟩ := hr hh e
  obtain ⟨h1, h2, hhh, g, cap, cur, hgb, hb, hw, ha, ht⟩ := h
  rw [ha] at hc
  injection hc with hc
  injection hc with _ hc _
  exact n hc.symm

theorem new_named {w1 : World} {B base vn : Nat} {l : List Bool} {p0 : Value} (hBV : BVec w1 B vn l) (hlt : ∀ g, p0.ownBlock = some g → g < B) (hbase : base ≤ B) (o : Obj) : ∃ hh, BVecH (w1.alloc o) base vn hh l ∧ p0.ownBlock ≠ some hh := by
  obtain ⟨hh, h, _⟩ := (hBV.below ((Below.refl _ w1).alloc (Nat.le_refl _) o)).named
  obtain ⟨h1, h2, hhh, g, cap, cur, hgb, r⟩ := h
  exact ⟨hh, ⟨h1, by omega, by omega, g, cap, cur, by omega, r⟩, fun e => by have := hlt hh e; omega⟩
theorem info_lev : (Tryz.prog.info? 164).map (fun i => (i.zero, i.size, i.bytes)) = some (some (.agg #[.pointer none, .int .i64 0]), 2, 16) := by kernel_rfl
theorem wp_app_lev {w : World} {o : Oper} {a : Act} {K : Act → World → Prop} {Q : Exit → Act → World → Prop} {E : Prop} {ys : Nat → Option Bool} (hgd : o.guard = none) (s x : Operand)
    (ho : o.op = .call { callee := .builtin .append, args := #[s, x], argTypes := #[160, 160] })
    (base : Nat) (v : Value) (k : Nat) (xs : List Value) (hs : a.eval s = v) (hown : w.ownsRow base 164 2 v k xs)
    (ad : Addr) (c : Nat) (vb z : Nat) (hx : a.eval x = .slice (some ad) 1 c) (hnews : Sl w (some ad) [.pointer (some ⟨vb, 0, none⟩), .int .i64 (z : Int)])
    (hk : k ≤ 16) (hbase : base ≤ w.heap.size)
    (h : ∀ v' w', w'.ownsRow base 164 2 v' (k + 1) (xs ++ [.pointer (some ⟨vb, 0, none⟩), .int .i64 (z : Int)]) → w.grownBy w' v.ownBlock → K (a.put o.dst v') w') :
    if Region.wanted o ys = true then Oper.wp Tryz.prog o a w K Q else E := by
  have hw : Region.wanted o ys = true := by simp [Region.wanted, hgd]
  rw [if_pos hw]
  obtain ⟨i0, hi, hz0, hz1, hz2⟩ := info_parts info_lev
  refine wp_append_own w s x 160 ho base 164 i0 _ 2 16 Tryz.underlying160 hi hz0 hz1 hz2 rfl (by decide) v k xs hs hown ad 1 c _ hx rfl (hnews.cell ad rfl) (by intro u hu; simp at hu; rcases hu with rfl | rfl <;> rfl) (by unfold maxLen; omega) (by omega) hbase ?_
  intro v' w' h1 h2 h3
  exact h v' w' h1 h2

theorem step_call {w : World} {o : Oper} {a : Act} {K : Act → World → Prop} {Q : Exit → Act → World → Prop} {E : Prop} {ys : Nat → Option Bool} (hgd : o.guard = none) (f : FuncId) (args : Array Value)
    (hrun : (execOp a.eval o).run Tryz.prog w = .ok (.enter f args) w) (C : Ending → World → Prop) (hc : Calls Tryz.prog f args w C) (hC : ∀ e w', C e w' → ∃ v, e = .returned v)
    (h : ∀ v w', C (.returned v) w' → K (a.put o.dst v) w') :
    if Region.wanted o ys = true then Oper.wp Tryz.prog o a w K Q else E := by
  have hw : Region.wanted o ys = true := by simp [Region.wanted, hgd]
  rw [if_pos hw]
  unfold Oper.wp
  rw [hrun, Oper.upon_enter]
  refine hc.mono ?_
  intro e w' he
  obtain ⟨v, rfl⟩ := hC e w' he
  exact h v w' he
theorem step_of {w : World} {o : Oper} {a : Act} {K : Act → World → Prop} {Q : Exit → Act → World → Prop} {E : Prop} {ys : Nat → Option Bool} (hgd : o.guard = none) {A : Option Addr} {n cap : Nat} {l : List Bool}
    (hrun : (execOp a.eval o).run Tryz.prog w = .ok (.enter 192 #[.slice A n cap]) w) (hc : Calls Tryz.prog 192 #[.slice A n cap] w (MadeVec w l))
    (h : ∀ vn w', BVec w' w.heap.size vn l → Below w.heap.size w w' → K (a.put o.dst (.pointer (some ⟨vn, 0, none⟩))) w') :
    if Region.wanted o ys = true then Oper.wp Tryz.prog o a w K Q else E := by
  refine step_call hgd 192 #[.slice A n cap] hrun _ hc (fun e w' hm => ?_) fun v w' hm => ?_
  · obtain ⟨b, he, _⟩ := hm
    exact ⟨_, he⟩
  · obtain ⟨b, he, hV, hB⟩ := hm
    injection he with he
    subst he
    exact h b w' hV hB
theorem zeros_flt (d : Nat) (row : List Nat) (n : Nat) (h : row.length = n) : (IL (flt d row false n)).length = zeros d row := by
  rw [IL_length, flt_all d row false n h]; rfl
theorem prt_flt (d : Nat) (row : List Nat) (n : Nat) (h : row.length = n) : IL (flt d row false n) ++ IL (flt d row true n) = IL (prt d row) := by
  rw [← IL_append, flt_all d row false n h, flt_all d row true n h]; rfl

theorem own_lev_form {w : World} {base : Nat} {e : TypeId} {v : Value} {n : Nat} {xs : List Value} (h : w.ownsRow base e 2 v (n + 1) xs) : ∃ g cap, v = .slice (some ⟨g, 0, none⟩) (n + 1) cap := by
  rcases h.2 with ⟨_, h0⟩ | ⟨g, cap, cur, rfl, _⟩
  · omega
  · exact ⟨g, cap, rfl⟩
theorem below_new (w : World) (o : Obj) : Below w.heap.size w (w.alloc o) := (Below.refl _ w).alloc (Nat.le_refl _) _

structure Rest (w : World) (pb tb W : Nat) (l : List Nat) (k : Nat) (a b : List Nat) (p0 p1 lv : Value) (vb : Nat → Nat) (wx : World) : Prop where
  blk : wx.heap[pb]? = some (.cells #[p0, p1] 224 (0, 0))
  o0 : wx.ownsRow w.heap.size 3 1 p0 (IL a).length (VI (IL a))
  o1 : wx.ownsRow w.heap.size 3 1 p1 (IL b).length (VI (IL b))
  tree : wx.heap[tb]? = some (.cells #[.int .i64 (l.length : Int), lv] 162 (0, 0))
  lev : wx.ownsRow w.heap.size 164 2 lv k (lvc vb W l k)
  vec : ∀ j, j < k → ∃ hh, BVecH wx w.heap.size (vb j) hh (bitsOf (W - 1 - j) (lvl W l j)) ∧ p0.ownBlock ≠ some hh
  bel : Below w.heap.size w wx
theorem Rest.below {w : World} {pb tb W : Nat} {l : List Nat} {k : Nat} {a b : List Nat} {p0 p1 lv : Value} {vb : Nat → Nat} {wx wy : World} (h : Rest w pb tb W l k a b p0 p1 lv vb wx) (hb : Below wx.heap.size wx wy) : Rest w pb tb W l k a b p0 p1 lv vb wy :=
  ⟨(hb.block _ (blk_lt h.blk)).trans h.blk, own_below h.o0 hb, own_below h.o1 hb, (hb.block _ (blk_lt h.tree)).trans h.tree, own_below h.lev hb, fun j hj => by obtain ⟨hh, h1, h2⟩ := h.vec j hj; exact ⟨hh, h1.below hb, h2⟩, below_step h.bel hb⟩
theorem Rest.push {w : World} {pb tb W : Nat} {l : List Nat} {k : Nat} {a b : List Nat} {p0 p1 lv lv' : Value} {vb : Nat → Nat} {vn : Nat} {w1 w2 : World}
    (h : Rest w pb tb W l k a b p0 p1 lv vb w1) (hV : ∃ hh, BVecH w1 w.heap.size vn hh (bitsOf (W - 1 - k) (lvl W l k)) ∧ p0.ownBlock ≠ some hh) (htb : w.heap.size ≤ tb)
    (ho : w2.ownsRow w.heap.size 164 2 lv' (k + 1) (lvc vb W l k ++ [.pointer (some ⟨vn, 0, none⟩), .int .i64 ((zeros (W - 1 - k) (lvl W l k) : Nat) : Int)])) (hg : w1.grownBy w2 lv.ownBlock) :
    Rest w pb tb W l (k + 1) a b p0 p1 lv' (fun j => if j = k then vn else vb j) (w2.setCell ⟨tb, 1, none⟩ lv') ∧ w2.cell? ⟨tb, 1, none⟩ = some lv ∧ w2.frozen? ⟨tb, 1, none⟩ = false := by
  have nb := own_neS h.lev h.blk (by decide)
  have nt := own_neS h.lev h.tree (by decide)
  have hb2 := grown_blk hg h.blk nb
  have ht2 := grown_blk hg h.tree nt
  have hlr : ∀ g, lv.ownBlock = some g → ∃ cs t fr, w1.heap[g]? = some (.cells cs t fr) ∧ t = 164 := by
    intro g hgg
    rcases h.lev.2 with ⟨rfl, _⟩ | ⟨g', cap, cur, rfl, _, hb, _⟩
    · cases hgg
    · injection hgg with hgg; subst hgg
      exact ⟨_, _, _, hb, rfl⟩
  have htr : ∀ g, some tb = some g → ∃ cs t fr, w2.heap[g]? = some (.cells cs t fr) ∧ t = 162 := by
    intro g hgg
    injection hgg with hgg; subst hgg
    exact ⟨_, _, _, ht2, rfl⟩
  have hset := grown_set w2 tb 1 lv'
  have hpt : ¬ pb = tb := fun e => by have hx := h.blk; rw [e, h.tree] at hx; simp at hx
  have sz := h.bel.size
  have bel2 : Below w.heap.size w w2 := h.bel.grown hg h.bel.size (fun q hq => (World.ownsRow.lt h.lev q hq).1)
  have keep : ∀ {t : TypeId} {size n : Nat} {v : Value} {xs : List Value} (htt : 162 ≠ t), w2.ownsRow w.heap.size t size v n xs → (w2.setCell ⟨tb, 1, none⟩ lv').ownsRow w.heap.size t size v n xs :=
    fun htt hp => World.ownsRow.kept hp hset (.inr (fun e => own_neS hp ht2 htt e.symm))
  have kv : ∀ {b hh : Nat} {m : List Bool}, BVecH w1 w.heap.size b hh m → BVecH (w2.setCell ⟨tb, 1, none⟩ lv') w.heap.size b hh m := by
    intro b hh m hv
    have h2 := hv.grownT hg (fun g hgg => by obtain ⟨cs, t, fr, x, rfl⟩ := hlr g hgg; exact ⟨cs, _, fr, x, by decide, by decide⟩) (hv.ne (fun g hgg => by obtain ⟨cs, t, fr, x, rfl⟩ := hlr g hgg; exact ⟨cs, _, fr, x, by decide⟩))
    exact h2.grownT hset (fun g hgg => by obtain ⟨cs, t, fr, x, rfl⟩ := htr g hgg; exact ⟨cs, _, fr, x, by decide, by decide⟩) (h2.ne (fun g hgg => by obtain ⟨cs, t, fr, x, rfl⟩ := htr g hgg; exact ⟨cs, _, fr, x, by decide⟩))
  refine ⟨⟨blk_other hb2 hpt 1 lv', keep (by decide) (own_keepT h.o0 h.lev (by decide) hg), keep (by decide) (own_keepT h.o1 h.lev (by decide) hg), blk_set ht2 1 lv', ?_, ?_, below_cell bel2 htb 1 lv' rfl⟩, (cell_blk ht2 1).trans rfl, frozen_blk ht2 1⟩
  · have e : lvc (fun j => if j = k then vn else vb j) W l (k + 1) = lvc vb W l k ++ [.pointer (some ⟨vn, 0, none⟩), .int .i64 ((zeros (W - 1 - k) (lvl W l k) : Nat) : Int)] := by
      rw [lvc, lvc_same (fun j => if j = k then vn else vb j) vb W l k (fun j hj => by simp; omega)]
      simp
    rw [e]
    exact keep (by decide) ho
  · intro j hj
    by_cases hjk : j = k
    · subst hjk
      simp only [if_true]
      obtain ⟨hh, h1, h2⟩ := hV
      exact ⟨hh, kv h1, h2⟩
    · simp only [if_neg hjk]
      obtain ⟨hh, h1, h2⟩ := h.vec j (by omega)
      exact ⟨hh, kv h1, h2⟩
theorem Rest.join {w : World} {pb tb W : Nat} {l : List Nat} {k : Nat} {a b : List Nat} {p0 p1 lv v : Value} {vb : Nat → Nat} {wx wy : World} (h : Rest w pb tb W l (k + 1) a b p0 p1 lv vb wx)
    (ho : wy.ownsRow w.heap.size 3 1 v (IL a ++ IL b).length (VI (IL a ++ IL b))) (hg : wx.grownBy wy p0.ownBlock) (hab : IL a ++ IL b = IL (prt (W - 1 - k) (lvl W l k))) : Outer w tb W l (k + 1) v wy := by
  have hr : ∀ g, p0.ownBlock = some g → ∃ cs t fr, wx.heap[g]? = some (.cells cs t fr) ∧ t = 3 := by
    intro g hgg
    rcases h.o0.2 with ⟨rfl, _⟩ | ⟨g', cap, cur, rfl, _, hb, _⟩
    · cases hgg
    · injection hgg with hgg; subst hgg
      exact ⟨_, _, _, hb, rfl⟩
  rw [hab] at ho
  refine ⟨ho, ⟨lv, vb, grown_blk hg h.tree (own_neS h.o0 h.tree (by decide)), own_keepT h.lev h.o0 (by decide) hg, fun j hj => ?_⟩, h.bel.grown hg h.bel.size (fun q hq => (World.ownsRow.lt h.o0 q hq).1)⟩
  obtain ⟨hh, h1, h2⟩ := h.vec j hj
  exact (h1.grownT hg (fun g hgg => by obtain ⟨cs, t, fr, x, rfl⟩ := hr g hgg; exact ⟨cs, _, fr, x, by decide, by decide⟩) h2).vec
end Go.Proofs.YtphccomhggnccaaGreat
namespace Go.Proofs.YtphccomhggnccaaGreat
set_option maxRecDepth 100000
set_option linter.unusedVariables false
set_option linter.unusedSimpArgs false
open Go.RowKit PkMath Pop Rank BtMath Wv
def Built (w : World) (W : Nat) (l : List Nat) (e : Ending) (w' : World) : Prop :=
  ∃ b, e = .returned (.tuple #[.pointer (some ⟨b, 0, none⟩), .int .i64 0]) ∧ TM w' w.heap.size b W l ∧ Below w.heap.size w w'

set_option maxRecDepth 100000 in
set_option maxHeartbeats 2000000 in
theorem build_any (w : World) (A : Option Addr) (n cap W : Nat) (l : List Nat) (h1 : 1 ≤ W) (h2 : W ≤ 16) (hl : l.length = n) (hn : n ≤ 131072) (hcap : A = none → cap = 0) (hSl : Sl w A (VI (IL l))) (hlt : ∀ x ∈ l, x < 2 ^ W) :
    Calls Tryz.prog 139 #[.int .i64 (W : Int), .slice A n cap] w (Built w W l) := by
  have hp := pow_small W h2
  have HS := Lib.hid hSl
  have Hlt := Lib.hid hlt
  have Hl := Lib.hid hl
  have Hcap := Lib.hid hcap
  clear hSl hlt hl hcap
  go_enter Tryz.func139, Tryz.ntmps139
  go_wp2
  go_loop [7, 29] (fun c i => ∃ k : Nat, k ≤ n ∧ i = .int .i64 (k : Int)) (fun _ i => n - (intOf i).toNat)
  case atStart => exact ⟨0, Nat.zero_le _, rfl⟩
  case round =>
    obtain ⟨k, hk, rfl⟩ := hrel
    by_cases hkm : k < n
    · obtain ⟨a, rfl, hca⟩ := HS.out.some (j := k) (by rw [VI_length, IL_length, Hl.out]; exact hkm)
      rw [VI_get _ _ (by rw [IL_length, Hl.out]; exact hkm), IL_getD _ _ (by rw [Hl.out]; exact hkm)] at hca
      have hx : l.getD k 0 < 2 ^ W := Hlt.out _ (by
        have h : k < l.length := by rw [Hl.out]; exact hkm
        rw [List.getD_eq_getElem?_getD, List.getElem?_eq_getElem h]; exact List.getElem_mem h)
      have hx2 : ¬ (2 : Int) ^ W ≤ ((l.getD k 0 : Nat) : Int) := by
        have : ((l.getD k 0 : Nat) : Int) < ((2 ^ W : Nat) : Int) := by exact_mod_cast hx
        rw [Int.natCast_pow] at this
        show ¬ ((2 : Nat) : Int) ^ W ≤ _
        omega
      have hx3 : ¬ ((l.getD k 0 : Nat) : Int) < 0 := by omega
      clear hx
      generalize l.getD k 0 = x at *
      go_wp2
      go_round
      case rel => exact ⟨k + 1, by omega, by go_num⟩
      case measure => simp [intOf]; omega
    · obtain rfl : k = n := by omega
      have hnil : (w.alloc (.cells #[.int .i64 (k : Int), .slice none 0 0] 162)).ownsRow w.heap.size 3 1 (.slice none 0 0) (([] : List Int)).length (VI []) := World.ownsRow_nil _ _ _ _
      have hsa : Sl (w.alloc (.cells #[.int .i64 (k : Int), .slice none 0 0] 162)) A (VI (IL l)) := HS.out.below ((Below.refl _ w).alloc (Nat.le_refl _) _)
      have hba : (w.alloc (.cells #[.int .i64 (k : Int), .slice none 0 0] 162)).heap[w.heap.size]? = some (.cells #[.int .i64 (k : Int), .slice none 0 0] 162 (0, 0)) := heap_alloc_new w _
      have hB0 : Below w.heap.size w (w.alloc (.cells #[.int .i64 (k : Int), .slice none 0 0] 162)) := (Below.refl _ w).alloc (Nat.le_refl _) _
      have hsz : w.heap.size < (w.alloc (.cells #[.int .i64 (k : Int), .slice none 0 0] 162)).heap.size := by simp
      have Hnil := Lib.hid hnil
      have Hsa := Lib.hid hsa
      have Hba := Lib.hid hba
      have HB0 := Lib.hid hB0
      have Hsz := Lib.hid hsz
      clear hnil hsa hba hB0 hsz
      go_upto_region 12 with fail
      go_cut [8, 9] (fun s8 s9 wx => s8 = .pointer (some ⟨w.heap.size, 0, none⟩) ∧ Outer w w.heap.size W l 0 s9 wx)
      case first =>
        go_wp2_with (at_builtin; refine app_int rfl _ _ rfl w.heap.size (.slice none 0 0) [] rfl Hnil.out A k cap (IL l) rfl Hcap.out (by rw [IL_length]; exact Hl.out) Hsa.out (by simp; omega) (Nat.le_of_lt Hsz.out) ?_; intro v' w1 hown hg hnl)
        have hb1 := grown_blk hg Hba.out (by simp [Value.ownBlock])
        have hO : Outer w w.heap.size W l 0 v' w1 := by
          refine ⟨hown, ⟨.slice none 0 0, fun _ => 0, ?_, World.ownsRow_nil _ _ _ _, fun j hj => absurd hj (Nat.not_lt_zero _)⟩, HB0.out.grown hg (Nat.le_of_lt Hsz.out) (fun q hq => by simp [Value.ownBlock] at hq)⟩
          rw [Hl.out]; exact hb1
        have HO := Lib.hid hO
        clear hO hb1 hown hg hnl
        go_meet
        case rel => exact ⟨rfl, HO.out⟩
      case rest =>
        obtain ⟨rfl, hO⟩ := hcut
        have HO := Lib.hid hO
        clear hO Hnil Hsa Hba HB0 Hsz HS Hcap
        go_wp2_with fail
        go_loopw [9, 10] (fun rv q wr => ∃ m : Nat, m ≤ W ∧ q = .int .i64 ((m : Int) - 1) ∧ Outer w w.heap.size W l (W - m) rv wr) (fun _ q _ => (intOf q + 1).toNat)
        case atStart => exact ⟨W, Nat.le_refl _, rfl, by rw [Nat.sub_self]; exact HO.out⟩
        case round =>
          clear HO
          obtain ⟨m, hm, hq, hO⟩ := hrel
          cases m with
          | zero =>
            subst hq
            rw [Nat.sub_zero] at hO
            have HO := Lib.hid hO
            clear hO
            go_wp2_with fail
            go_ret2
            exact ⟨_, rfl, outer_tm HO.out h1 h2 (by rw [Hl.out]; exact hn) Hlt.out (Nat.le_refl _), HO.out.2.2⟩
          | succ D =>
            have hq2 : ((D + 1 : Nat) : Int) - 1 = (D : Int) := by omega
            rw [hq2] at hq
            subst hq
            clear hq2
            obtain ⟨kk, hkk⟩ : ∃ kk, W - (D + 1) = kk := ⟨_, rfl⟩
            have hD : W - 1 - kk = D := by omega
            rw [hkk] at hO
            obtain ⟨hrow, ⟨lv, vb, hblk, hlown, hV⟩, hB⟩ := hO
            obtain ⟨A2, c2, rfl, hsl2, hl2, hA2⟩ := own_sl hrow
            have hrl : (lvl W l kk).length = k := by rw [rowAt_length, Hl.out]
            rw [IL_length, hrl]
            have hrow63 : ∀ j, j < k → (lvl W l kk).getD j 0 < 2 ^ 63 := fun j hj => by
              have h : j < (lvl W l kk).length := by rw [hrl]; exact hj
              have hm : (lvl W l kk).getD j 0 ∈ lvl W l kk := by
                rw [List.getD_eq_getElem?_getD, List.getElem?_eq_getElem h]; exact List.getElem_mem h
              exact Nat.lt_of_lt_of_le (Hlt.out _ ((rowAt_mem W l kk _).1 hm)) (Nat.pow_le_pow_right (by decide) (by omega))
            have H63 := Lib.hid hrow63
            have Hrl := Lib.hid hrl
            have Hsl := Lib.hid hsl2
            have Hblk := Lib.hid hblk
            have Hlown := Lib.hid hlown
            have HV := Lib.hid hV
            have HB := Lib.hid hB
            have HD := Lib.hid hD
            have Hkk := Lib.hid hkk
            have hI0 : Inner wr wr.heap.size (lvl W l kk) D 0 (.slice none 0 0) (wr.alloc (.cells #[.slice none 0 0, .slice none 0 0] 224)) :=
              ⟨.slice none 0 0, .slice none 0 0, heap_alloc_new wr _, World.ownsRow_nil _ _ _ _, World.ownsRow_nil _ _ _ _, World.ownsRow_nil _ _ _ _, fun g hg => by simp [Value.ownBlock] at hg, (Below.refl _ _).alloc (Nat.le_refl _) _⟩
            have HI0 := Lib.hid hI0
            clear hrow63 hrl hsl2 hblk hlown hV hB hD hkk hl2 hA2 hrow hI0
            go_wp2_with fail
            obtain ⟨w0, rfl⟩ : ∃ w0 : World, w0 = wr := ⟨_, rfl⟩
            go_loopw [11, 56] (fun lv q wi => ∃ j : Nat, j ≤ k ∧ q = .int .i64 (j : Int) ∧ Inner w0 w0.heap.size (lvl W l kk) D j lv wi) (fun _ q _ => k - (intOf q).toNat)
            case atStart => exact ⟨0, Nat.zero_le _, rfl, HI0.out⟩
            case round =>
              clear HI0
              obtain ⟨j, hj, rfl, hI⟩ := hrel
              by_cases hjk : j < k
              · have hjr : j < (lvl W l kk).length := by rw [Hrl.out]; exact hjk
                obtain ⟨a, rfl, hca⟩ := (Hsl.out.below (by obtain ⟨_, _, _, _, _, _, _, h⟩ := hI; exact h)).some (j := j) (by rw [VI_length, IL_length, Hrl.out]; exact hjk)
                rw [VI_get _ _ (by rw [IL_length, Hrl.out]; exact hjk), IL_getD _ _ hjr] at hca
                have hx63 := H63.out j hjk
                have hbit := i64_bit ((lvl W l kk).getD j 0) D hx63
                have HI := Lib.hid hI
                have Hjr := Lib.hid hjr
                obtain ⟨bb, hbb⟩ : ∃ bb, ((lvl W l kk).getD j 0).testBit D = bb := ⟨_, rfl⟩
                rw [hbb] at hbit
                have Hbb := Lib.hid hbb
                clear hx63 hI hjr hbb
                obtain ⟨x, hx⟩ : ∃ x, (lvl W l kk).getD j 0 = x := ⟨_, rfl⟩
                rw [hx] at hbit hca
                have Hx := Lib.hid hx
                clear hx
                cases bb with
                | false =>
                  rw [show (((false.toNat : Nat)) : Int) = 0 from rfl] at hbit
                  go_upto_region 22 with fail
                  clear hbit hca
                  obtain ⟨q0, q1, i1, i2, i3, i4, i5, i6⟩ := HI.out
                  have Hown := Lib.hid (World.ownsRow.alloc i2 (.cells #[.bool false] 4))
                  have hn1 : (wr.alloc (.cells #[.bool false] 4)).heap[wr.heap.size]? = some (.cells (VB [false]).toArray 4 (0, 0)) := heap_alloc_new wr _
                  have Hn1 := Lib.hid hn1
                  have hsz := i6.size
                  clear i1 i2 i3 i4 i5 i6 hn1
                  have hbl : (bitsOf D ((lvl W l kk).take j)).length ≤ k := by rw [bitsOf_length, List.length_take]; have := Hrl.out; omega
                  go_upto_region 23 with (at_builtin; refine app_bool_at rfl _ _ rfl w0.heap.size _ (bitsOf D ((lvl W l kk).take j)) rfl Hown.out ⟨wr.heap.size, 0, none⟩ 1 false rfl (sl_blk Hn1.out) (by omega) (by simp; omega) ?_; intro v' w2 hown2 hg2 hat2)
                  obtain ⟨p0, p1, b1, b2, b3, b4, b5, b6, b7⟩ := inner_bit HI.out (Nat.le_refl _) (by rw [Hbb.out]; exact hown2) hg2 Hjr.out
                  have hcc : w2.cell? ⟨w0.heap.size, 0, none⟩ = some p0 := (cell_blk b1 0).trans rfl
                  have Hown2 := Lib.hid (World.ownsRow.alloc b3 (.cells #[.int .i64 (x : Int)] 3))
                  have hn2 : (w2.alloc (.cells #[.int .i64 (x : Int)] 3)).heap[w2.heap.size]? = some (.cells (VI [(x : Int)]).toArray 3 (0, 0)) := heap_alloc_new w2 _
                  have Hn2 := Lib.hid hn2
                  have hsz2 := b6.size
                  have Hi := Lib.hid (And.intro b1 (And.intro b2 (And.intro b3 (And.intro b4 (And.intro b5 b6)))))
                  have hfl : (IL (flt D (lvl W l kk) false j)).length ≤ k := by rw [IL_length]; have := flt_le D (lvl W l kk) false j; omega
                  clear b1 b2 b3 b4 b5 b6 b7 hn2 hown2 hg2 hat2 Hown Hn1 hbl hsz HI
                  go_wp2_with (at_builtin; refine app_int_at rfl _ _ rfl w0.heap.size _ (IL (flt D (lvl W l kk) false j)) rfl Hown2.out ⟨w2.heap.size, 0, none⟩ 1 (x : Int) rfl (sl_blk Hn2.out) (by omega) (by simp; omega) ?_; intro v3 w3 hown3 hg3 hat3; obtain ⟨b1, b2, b3, b4, b5, b6⟩ := Hi.out; obtain ⟨hI3, hc3, hf3⟩ := inner_push0 (Nat.le_refl _) Hjr.out Hbb.out b1 b2 b3 b4 b5 b6 (by rw [Hx.out]; exact hown3) hg3 hat3; obtain ⟨A3, c3, rfl, hs3, hl3, ha3⟩ := own_sl hown3; rw [List.length_append, List.length_singleton] at hI3; have HI3 := Lib.hid hI3; clear hs3 hl3 ha3 b1 b2 b3 b4 b5 b6 hI3 hown3 hg3 hat3)
                  refine ⟨⟨j + 1, by omega, rfl, HI3.out⟩, ?_⟩
                  show k - ((j : Int) + 1).toNat < k - ((j : Int)).toNat
                  omega
                | true =>
                  rw [show (((true.toNat : Nat)) : Int) = 1 from rfl] at hbit
                  go_upto_region 22 with fail
                  clear hbit hca
                  obtain ⟨q0, q1, i1, i2, i3, i4, i5, i6⟩ := HI.out
                  have Hown := Lib.hid (World.ownsRow.alloc i2 (.cells #[.bool true] 4))
                  have hn1 : (wr.alloc (.cells #[.bool true] 4)).heap[wr.heap.size]? = some (.cells (VB [true]).toArray 4 (0, 0)) := heap_alloc_new wr _
                  have Hn1 := Lib.hid hn1
                  have hsz := i6.size
                  clear i1 i2 i3 i4 i5 i6 hn1
                  have hbl : (bitsOf D ((lvl W l kk).take j)).length ≤ k := by rw [bitsOf_length, List.length_take]; have := Hrl.out; omega
                  go_upto_region 23 with (at_builtin; refine app_bool_at rfl _ _ rfl w0.heap.size _ (bitsOf D ((lvl W l kk).take j)) rfl Hown.out ⟨wr.heap.size, 0, none⟩ 1 true rfl (sl_blk Hn1.out) (by omega) (by simp; omega) ?_; intro v' w2 hown2 hg2 hat2)
                  obtain ⟨p0, p1, b1, b2, b3, b4, b5, b6, b7⟩ := inner_bit HI.out (Nat.le_refl _) (by rw [Hbb.out]; exact hown2) hg2 Hjr.out
                  have hcc : w2.cell? ⟨w0.heap.size, 1, none⟩ = some p1 := (cell_blk b1 1).trans rfl
                  have Hown2 := Lib.hid (World.ownsRow.alloc b4 (.cells #[.int .i64 (x : Int)] 3))
                  have hn2 : (w2.alloc (.cells #[.int .i64 (x : Int)] 3)).heap[w2.heap.size]? = some (.cells (VI [(x : Int)]).toArray 3 (0, 0)) := heap_alloc_new w2 _
                  have Hn2 := Lib.hid hn2
                  have hsz2 := b6.size
                  have Hi := Lib.hid (And.intro b1 (And.intro b2 (And.intro b3 (And.intro b4 (And.intro b5 b6)))))
                  have hfl : (IL (flt D (lvl W l kk) true j)).length ≤ k := by rw [IL_length]; have := flt_le D (lvl W l kk) true j; omega
                  clear b1 b2 b3 b4 b5 b6 b7 hn2 hown2 hg2 hat2 Hown Hn1 hbl hsz HI
                  go_wp2_with (at_builtin; refine app_int_at rfl _ _ rfl w0.heap.size _ (IL (flt D (lvl W l kk) true j)) rfl Hown2.out ⟨w2.heap.size, 0, none⟩ 1 (x : Int) rfl (sl_blk Hn2.out) (by omega) (by simp; omega) ?_; intro v3 w3 hown3 hg3 hat3; obtain ⟨b1, b2, b3, b4, b5, b6⟩ := Hi.out; obtain ⟨hI3, hc3, hf3⟩ := inner_push1 (Nat.le_refl _) Hjr.out Hbb.out b1 b2 b3 b4 b5 b6 (by rw [Hx.out]; exact hown3) hg3 hat3; obtain ⟨A3, c3, rfl, hs3, hl3, ha3⟩ := own_sl hown3; rw [List.length_append, List.length_singleton] at hI3; have HI3 := Lib.hid hI3; clear hs3 hl3 ha3 b1 b2 b3 b4 b5 b6 hI3 hown3 hg3 hat3)
                  refine ⟨⟨j + 1, by omega, rfl, HI3.out⟩, ?_⟩
                  show k - ((j : Int) + 1).toNat < k - ((j : Int)).toNat
                  omega
              · obtain rfl : j = k := by omega
                obtain ⟨p0, p1, e1, e2, e3, e4, e5, e6⟩ := hI
                have htk : (lvl W l kk).take j = lvl W l kk := List.take_of_length_le (by rw [Hrl.out]; exact Nat.le_refl _)
                rw [htk] at e2
                have hB0 := HB.out
                have hlow := Hlown.out
                have hRest : Rest w w0.heap.size w.heap.size W l kk (flt D (lvl W l kk) false j) (flt D (lvl W l kk) true j) p0 p1 lv vb wr :=
                  ⟨e1, own_mono e3 hB0.size, own_mono e4 hB0.size, (e6.block _ (blk_lt Hblk.out)).trans Hblk.out, own_below hlow e6, fun i hi => by obtain ⟨hh, h1, h2⟩ := (HV.out i hi).named; exact ⟨hh, h1.below e6, fun e => by have := (World.ownsRow.lt e3 hh e).1; omega⟩, below_step hB0 e6⟩
                obtain ⟨Al, cl, rfl, hsl, hll, hcl⟩ := own_sl2 e2
                obtain ⟨A0, c0, hp0, hs0, hl0, hc0⟩ := own_sl2 e3
                have hzl := zeros_flt D (lvl W l kk) j Hrl.out
                rw [hzl] at hp0
                subst hp0
                rw [bitsOf_length, Hrl.out]
                have hRd := hRest.below (below0 wr.heap.size wr)
                have hOf := of_any wr.drew Al j cl (bitsOf D (lvl W l kk)) (by rw [bitsOf_length, Hrl.out]) (by omega) (Sl.drew hsl)
                have HOf := Lib.hid hOf
                have hct : wr.drew.cell? ⟨w.heap.size, 1, none⟩ = some lv := (cell_blk hRd.tree 1).trans rfl
                have hcp : wr.drew.cell? ⟨w0.heap.size, 0, none⟩ = some (.slice A0 (zeros D (lvl W l kk)) c0) := (cell_blk hRd.blk 0).trans rfl
                have HRest := Lib.hid hRd
                have Hp0 := Lib.hid (fun g hg => (World.ownsRow.lt hRd.o0 g hg).2)
                have hzz : zeros D (lvl W l kk) ≤ j := by rw [← hzl, IL_length]; exact flt_le _ _ _ _
                have hkk2 : kk ≤ 16 := by have := Hkk.out; omega
                clear htk e1 e2 e3 e4 e5 e6 hB0 hlow hsl hll hcl hs0 hl0 hc0 hOf hRest hRd hzl
                go_upto_region 25 with fail
                go_cut [10] (fun s10 wx => s10 = .int .i64 (D : Int) ∧ ∃ lv' vb', Rest w w0.heap.size w.heap.size W l (kk + 1) (flt D (lvl W l kk) false j) (flt D (lvl W l kk) true j) (.slice A0 (zeros D (lvl W l kk)) c0) p1 lv' vb' wx)
                case first =>
                  go_region_law (first | (refine step_of rfl ?_ HOf.out ?_; (focus go_simp); intro vn w1 hBV hB1; have hR1 := HRest.out.below hB1; have hct1 : w1.cell? ⟨w.heap.size, 1, none⟩ = some lv := (cell_blk hR1.tree 1).trans rfl; have hcp1 : w1.cell? ⟨w0.heap.size, 0, none⟩ = some (.slice A0 (zeros D (lvl W l kk)) c0) := (cell_blk hR1.blk 0).trans rfl; have hRA := hR1.below (below_new w1 (.cells #[.pointer (some ⟨vn, 0, none⟩), .int .i64 ((zeros D (lvl W l kk) : Nat) : Int)] 164)); have hct2 : (w1.alloc (.cells #[.pointer (some ⟨vn, 0, none⟩), .int .i64 ((zeros D (lvl W l kk) : Nat) : Int)] 164)).cell? ⟨w.heap.size, 1, none⟩ = some lv := (cell_blk hRA.tree 1).trans rfl; have hcp2 : (w1.alloc (.cells #[.pointer (some ⟨vn, 0, none⟩), .int .i64 ((zeros D (lvl W l kk) : Nat) : Int)] 164)).cell? ⟨w0.heap.size, 0, none⟩ = some (.slice A0 (zeros D (lvl W l kk)) c0) := (cell_blk hRA.blk 0).trans rfl; have Hnew := Lib.hid (sl_blk (xs := [.pointer (some ⟨vn, 0, none⟩), .int .i64 ((zeros D (lvl W l kk) : Nat) : Int)]) (heap_alloc_new w1 (.cells #[.pointer (some ⟨vn, 0, none⟩), .int .i64 ((zeros D (lvl W l kk) : Nat) : Int)] 164))); have HVA := Lib.hid (new_named hBV Hp0.out HRest.out.bel.size (.cells #[.pointer (some ⟨vn, 0, none⟩), .int .i64 ((zeros D (lvl W l kk) : Nat) : Int)] 164)); have HRA := Lib.hid hRA; clear hBV hB1 hR1 hRA) | (refine wp_app_lev rfl _ _ rfl w.heap.size lv kk (lvc vb W l kk) rfl HRA.out.lev ⟨w1.heap.size, 0, none⟩ 1 vn (zeros D (lvl W l kk)) rfl Hnew.out hkk2 HRA.out.bel.size ?_; intro v2 w2 hown2 hg2; obtain ⟨hR2, hct3, hfz3⟩ := HRA.out.push (by rw [HD.out]; exact HVA.out) (Nat.le_refl _) (by rw [HD.out]; exact hown2) hg2; obtain ⟨g2, cp2, rfl⟩ := own_lev_form hown2; have HR2 := Lib.hid hR2; clear hR2 hown2 hg2))
                  all_goals go_wp2_with fail
                  all_goals go_meet
                  all_goals exact ⟨rfl, _, _, HR2.out⟩
                case rest =>
                  obtain ⟨rfl, lv', vb', hR⟩ := hcut
                  obtain ⟨A1, c1, rfl, hs1, hl1, hc1⟩ := own_sl2 hR.o1
                  have hc0 : wc.cell? ⟨w0.heap.size, 0, none⟩ = some (.slice A0 (zeros D (lvl W l kk)) c0) := (cell_blk hR.blk 0).trans rfl
                  have hc1' : wc.cell? ⟨w0.heap.size, 1, none⟩ = some (.slice A1 (IL (flt D (lvl W l kk) true j)).length c1) := (cell_blk hR.blk 1).trans rfl
                  have HR := Lib.hid hR
                  have Hs1 := Lib.hid hs1
                  have Hc1 := Lib.hid hc1
                  have hf0 : (IL (flt D (lvl W l kk) false j)).length ≤ j := by rw [IL_length]; exact flt_le _ _ _ _
                  have hf1 : (IL (flt D (lvl W l kk) true j)).length ≤ j := by rw [IL_length]; exact flt_le _ _ _ _
                  have Hz := Lib.hid (zeros_flt D (lvl W l kk) j Hrl.out)
                  clear hR hs1 hl1 hc1 HOf hct hcp HRest Hp0 hzz
                  go_wp2_with (at_builtin; refine app_int rfl _ _ rfl w.heap.size _ (IL (flt D (lvl W l kk) false j)) rfl HR.out.o0 A1 _ c1 (IL (flt D (lvl W l kk) true j)) rfl Hc1.out rfl Hs1.out (by omega) HR.out.bel.size ?_; intro v5 w5 hown5 hg5 hn5; have hO5 := HR.out.join hown5 hg5 (by rw [HD.out]; exact prt_flt D (lvl W l kk) j Hrl.out); have HO5 := Lib.hid hO5; clear hown5 hg5 hn5 hO5)
                  refine ⟨⟨D, by omega, rfl, by rw [show W - D = kk + 1 by have := Hkk.out; omega]; exact HO5.out⟩, ?_⟩
                  show ((D : Int) - 1 + 1).toNat < ((D : Int) + 1).toNat
                  omega
end Go.Proofs.YtphccomhggnccaaGreat
namespace Go.Proofs.YtphccomhggnccaaGreat
set_option maxRecDepth 100000
set_option linter.unusedVariables false
set_option linter.unusedSimpArgs false
open Go.RowKit PkMath Pop Rank BtMath Wv
end Go.Proofs.YtphccomhggnccaaGreat
namespace Go.Proofs.YtphccomhggnccaaGreat
set_option maxRecDepth 100000
set_option linter.unusedVariables false
set_option linter.unusedSimpArgs false
open Go.RowKit PkMath Pop Rank BtMath Wv
theorem rk_none {l : List Nat} {c : Nat} (h : ∀ x ∈ l, x < c) (i : Nat) : rk l c i = 0 := by
  unfold rk
  rw [List.count_eq_zero]
  intro hm
  have := h c (List.mem_of_mem_take hm)
  omega
theorem trankZ {w : World} {base b W : Nat} {l : List Nat} (h : TM w base b W l) (c i : Int) :
    Calls Tryz.prog 110 #[.pointer (some ⟨b, 0, none⟩), .int .i64 c, .int .i64 i] w (IntBelow ((rk (IL l) c i.toNat : Nat) : Int) w) := by
  by_cases h0 : c < 0
  · rw [rk_IL_neg l c h0]
    exact trank_out h c (.inl h0) i
  · obtain ⟨d, rfl⟩ : ∃ d : Nat, c = (d : Int) := ⟨c.toNat, by omega⟩
    rw [rk_IL]
    by_cases h1 : d < 2 ^ W
    · exact trank_any h d h1 i
    · rw [rk_none (fun x hx => Nat.lt_of_lt_of_le (h.lt x hx) (by omega))]
      refine trank_out h d (.inr ?_) i
      have : ((2 ^ W : Nat) : Int) ≤ (d : Int) := by omega
      rwa [Int.natCast_pow] at this
def atZ (l : List Int) (i : Int) : Int := if 0 ≤ i ∧ i < (l.length : Int) then l.getD i.toNat 0 else -1
theorem atZ_in {l : List Int} {i : Nat} (h : i < l.length) : atZ l (i : Int) = l.getD i 0 := by
  unfold atZ; rw [if_pos ⟨by omega, by omega⟩, Int.toNat_natCast]
theorem atZ_out {l : List Int} {i : Int} (h : i < 0 ∨ (l.length : Int) ≤ i) : atZ l i = -1 := by
  unfold atZ; rw [if_neg (by omega)]
theorem tgetZ {w : World} {base b W : Nat} {l : List Nat} (h : TM w base b W l) (i : Int) :
    Calls Tryz.prog 67 #[.pointer (some ⟨b, 0, none⟩), .int .i64 i] w (IntBelow (atZ (IL l) i) w) := by
  by_cases h0 : i < 0 ∨ (l.length : Int) ≤ i
  · rw [atZ_out (by rw [IL_length]; exact h0)]
    exact (tget_out b l.length i w h.c0 h0).mono fun e w' ⟨he, hw⟩ => ⟨he, by subst hw; exact Below.refl _ _⟩
  · obtain ⟨d, rfl⟩ : ∃ d : Nat, i = (d : Int) := ⟨i.toNat, by omega⟩
    rw [atZ_in (by rw [IL_length]; omega), IL_getD _ _ (by omega)]
    exact tget_any h d (by omega)

end Go.Proofs.YtphccomhggnccaaGreat
namespace Go.Proofs.YtphccomhggnccaaGreat
set_option maxRecDepth 100000
set_option linter.unusedVariables false
set_option linter.unusedSimpArgs false
open Go.RowKit PkMath Pop Rank BtMath Wv
end Go.Proofs.YtphccomhggnccaaGreat
