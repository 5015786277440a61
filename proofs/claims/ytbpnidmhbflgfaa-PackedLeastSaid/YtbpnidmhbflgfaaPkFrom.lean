/- packed: From; haystackref3: New, Set. -/
import Derived.Test.YtbpnidmhbflgfaaPkLawB
import Derived.Test.YtbpnidmhbflgfaaPkMathB
import Derived.Laws.CopyOwn
namespace Go.Proofs.Ytbpnidmhbflgfaa
set_option linter.unusedVariables false
set_option linter.unusedSimpArgs false
open Go.RowKit PkMath

def FailBelow (r : Int) (w : World) (e : Ending) (w' : World) : Prop := e = .returned (.tuple #[.pointer none, .int .i64 r]) ∧ Below w.heap.size w w'

theorem from_arg (k n : Int) (v : Value) (w : World) (h : k < 1 ∨ 64 < k ∨ n < 0) :
    Calls Try.prog 21 #[.int .i64 k, .int .i64 n, v] w (FailBelow 1 w) := by
  go_enter Try.func21, Try.ntmps21
  go_wp2_with fail
  refine (new_arg k n _ h).mono ?_
  rintro e w' ⟨rfl, rfl⟩
  go_wp2_with fail
  go_ret2
  exact ⟨rfl, Below.refl _ _⟩
theorem from_long (k n : Int) (v : Value) (w : World) (h1 : 1 ≤ k) (h2 : k ≤ 64) (h3 : 1048576 < n) :
    Calls Try.prog 21 #[.int .i64 k, .int .i64 n, v] w (FailBelow 5 w) := by
  go_enter Try.func21, Try.ntmps21
  go_wp2_with fail
  refine (new_long k n _ h1 h2 h3).mono ?_
  rintro e w' ⟨rfl, rfl⟩
  go_wp2_with fail
  go_ret2
  exact ⟨rfl, Below.refl _ _⟩

theorem from_len (k n s M : Nat) (A : Option Addr) (m c : Nat) (w : World) (h1 : 1 ≤ k) (h2 : k ≤ 64) (h3 : n ≤ 1048576) (hs : k * n = s) (hM : (s + 63) / 64 = M) (hm : m ≠ M) (hmb : m ≤ 1099511627776) :
    Calls Try.prog 21 #[.int .i64 (k : Int), .int .i64 (n : Int), .slice A m c] w (FailBelow 3 w) := by
  have hsb : k * n ≤ 64 * 1048576 := Nat.mul_le_mul h2 h3
  have hne : ((m : Int) != (M : Int)) = true := by rw [bne_iff_ne]; omega
  have Hs := Lib.hid hs
  have HM := Lib.hid hM
  clear hs hM hm hsb
  go_enter Try.func21, Try.ntmps21
  go_wp2_with fail
  refine (new_in k n _ h1 h2 h3).mono ?_
  rintro e w1 ⟨rfl, hP, hB, hsz⟩
  clear hsz
  have hc2 := hP.c2
  rw [canon_length, List.length_replicate, Hs.out, HM.out] at hc2
  go_wp2_with fail
  go_ret2
  exact ⟨rfl, hB⟩
theorem from_rest (k n s L : Nat) (A : Option Addr) (c : Nat) (W : List Nat) (w : World) (hA : Sl w A (V W)) (h1 : 1 ≤ k) (h2 : k ≤ 64) (h3 : n ≤ 1048576) (hs : k * n = s) (hM : (s + 63) / 64 = L + 1) (hl : W.length = L + 1)
    (hr : 0 < s % 64) (hb : ¬ W.getD L 0 / 2 ^ (s % 64) = 0) (hW : ∀ x ∈ W, x < 2 ^ 64) :
    Calls Try.prog 21 #[.int .i64 (k : Int), .int .i64 (n : Int), .slice A (L + 1) c] w (FailBelow 3 w) := by
  have hsb : k * n ≤ 64 * 1048576 := Nat.mul_le_mul h2 h3
  have hsi : (k : Int) * (n : Int) = (s : Int) := by rw [← hs, Int.natCast_mul]
  have hsb2 : s ≤ 67108864 := by omega
  have hLb : L ≤ 1048576 := by omega
  obtain ⟨a, rfl, hca⟩ := hA.some (j := L) (by rw [V_length, hl]; omega)
  rw [V_get _ _ (by rw [hl]; omega)] at hca
  have hbi : (((W.getD L 0 : Nat) : Int) / 2 ^ (s % 64) != 0) = true := by rw [shr_nat, bne_iff_ne]; omega
  have Hs := Lib.hid hs
  have HM := Lib.hid hM
  have hablk : a.block < w.heap.size := hA.lt a rfl (by intro e; rw [← List.length_eq_zero_iff, V_length, hl] at e; omega)
  generalize W.getD L 0 = x at *
  clear hs hM hl hb hsb hW hA
  have hr2 : (0 : Int) < (s : Int) % 64 := by omega
  go_enter Try.func21, Try.ntmps21
  go_wp2_with fail
  refine (new_in k n _ h1 h2 h3).mono ?_
  rintro e w1 ⟨rfl, hP, hB, hsz⟩
  clear hsz
  have hc2 := hP.c2
  rw [canon_length, List.length_replicate, Hs.out, HM.out] at hc2
  have hca1 : w1.cell? (a.add L) = some (.int .u64 (x : Int)) := by
    rw [World.cell?_of_block (w := w) (hB.block _ (by rw [show (a.add L).block = a.block by unfold Addr.add; split <;> rfl]; exact hablk))]; exact hca
  clear hca
  go_wp2_with fail
  go_ret2
  exact ⟨rfl, hB⟩

/-- what Go's text hands back where a row is made -/
def MadeOk (k : Nat) (l : List Nat) (w : World) (e : Ending) (w' : World) : Prop :=
  ∃ b g, e = .returned (.tuple #[.pointer (some ⟨b, 0, none⟩), .int .i64 0]) ∧ PArr w' b g k l ∧ w.heap.size ≤ b ∧ w.heap.size ≤ g ∧ Below w.heap.size w w'

theorem setRow_V {w : World} {g : Nat} {cur : Array Value} (h : w.heap[g]? = some (.cells cur 25 (0, 0))) (cs : Array Value) : (w.setRow g cs).heap[g]? = some (.cells cs 25 (0, 0)) :=
  setRow_heap w g cur cs _ _ h
theorem below_setRow {B : Nat} {w w' : World} (h : Below B w w') {g : Nat} (hg : B ≤ g) (cs : Array Value) : Below B w (w'.setRow g cs) :=
  h.trans ⟨rfl, rfl, rfl, by simp, fun k hk => setRow_other w' g k _ (fun e => by omega)⟩

theorem from_zero (k : Nat) (A : Option Addr) (c : Nat) (w : World) (h1 : 1 ≤ k) (h2 : k ≤ 64) :
    Calls Try.prog 21 #[.int .i64 (k : Int), .int .i64 0, .slice A 0 c] w (MadeOk k [] w) := by
  go_enter Try.func21, Try.ntmps21
  go_wp2_with fail
  refine (new_in k 0 _ h1 h2 (by omega)).mono ?_
  rintro e w1 ⟨rfl, hP, hB, hsz⟩
  have hc2 := hP.c2
  clear hsz
  rw [canon_length, List.length_replicate, show (k * 0 + 63) / 64 = 0 by omega] at hc2
  go_wp2_with (with_reducible refine wpList_copy_nothing rfl _ _ _ _ rfl 25 Try.underlying22 (by kernel_rfl) _ _ _ _ _ _ rfl rfl rfl ?_)
  go_ret2
  exact ⟨_, _, rfl, hP, by omega, Nat.le_refl _, hB⟩

theorem from_full (k n s L : Nat) (A : Option Addr) (c : Nat) (W : List Nat) (w : World) (hA : Sl w A (V W)) (h1 : 1 ≤ k) (h2 : k ≤ 64) (h3 : n ≤ 1048576) (hs : k * n = s) (hM : (s + 63) / 64 = L + 1) (hl : W.length = L + 1)
    (hr : s % 64 = 0) (hW : ∀ x ∈ W, x < 2 ^ 64) :
    Calls Try.prog 21 #[.int .i64 (k : Int), .int .i64 (n : Int), .slice A (L + 1) c] w (MadeOk k (dec k n W) w) := by
  have hsb : k * n ≤ 64 * 1048576 := Nat.mul_le_mul h2 h3
  have hsi : (k : Int) * (n : Int) = (s : Int) := by rw [← hs, Int.natCast_mul]
  have hsb2 : s ≤ 67108864 := by omega
  have hLb : L ≤ 1048576 := by omega
  obtain ⟨a, rfl, hca⟩ := hA.some (j := L) (by rw [V_length, hl]; omega)
  rw [V_get _ _ (by rw [hl]; omega)] at hca
  have hz : canon k (dec k n W) = W := canon_dec h1 (by rw [hl, hs, hM]) hW (spare_none (by rw [hl, hs, hM]) (by rw [hs]; exact hr))
  have hr2 : ((s : Int) % 64) = 0 := by omega
  have Hz := Lib.hid hz
  have Hs := Lib.hid hs
  have HM := Lib.hid hM
  have Hl := Lib.hid hl
  have hablk : a.block < w.heap.size := hA.lt a rfl (by intro e; rw [← List.length_eq_zero_iff, V_length, hl] at e; omega)
  generalize W.getD L 0 = x at *
  clear hs hM hl hsb hW hz
  go_enter Try.func21, Try.ntmps21
  go_wp2_with fail
  refine (new_in k n _ h1 h2 h3).mono ?_
  rintro e w1 ⟨rfl, hP, hB, hsz⟩
  clear hsz
  have hc2 := hP.c2
  rw [canon_length, List.length_replicate, Hs.out, HM.out] at hc2
  have hca1 : w1.cell? (a.add L) = some (.int .u64 (x : Int)) := by
    rw [World.cell?_of_block (w := w) (hB.block _ (by rw [show (a.add L).block = a.block by unfold Addr.add; split <;> rfl]; exact hablk))]; exact hca
  clear hca
  have hA1 := hA.below hB
  have hcs : (U (canon k (List.replicate n 0))).size = L + 1 := by rw [U_size, canon_length, List.length_replicate, Hs.out, HM.out]
  have Hcs := Lib.hid hcs
  clear hcs
  go_wp2_with (with_reducible refine wpList_copy_own rfl _ _ _ _ rfl 25 Try.underlying22 (by kernel_rfl) w.heap.size 0 (L + 1) (L + 1) a (L + 1) c rfl rfl _ 25 hP.ws (V W) (by rw [V_length, Hl.out]; exact (Nat.min_self _).symm) (hA1.cell a rfl) (by rw [V_length, Hl.out, Hcs.out]; omega) (V_one W) ?_)
  go_ret2
  have hblk := setRow_V hP.ws (V W ++ List.drop (V W).length (U (canon k (List.replicate n 0))).toList).toArray
  have hne : ¬ (w.heap.size + 1 = w.heap.size) := by omega
  refine ⟨w.heap.size + 1, w.heap.size, rfl, ⟨?_, ?_, h1, h2, by rw [dec_length]; exact h3, dec_lt _ _ _⟩, by omega, Nat.le_refl _, below_setRow hB (Nat.le_refl _) _⟩
  · rw [dec_length, Hz.out, Hl.out]
    have hd := hP.hd
    rw [List.length_replicate, canon_length, List.length_replicate, Hs.out, HM.out] at hd
    rw [setRow_other _ _ _ _ (by omega)]
    exact hd
  · rw [Hz.out]
    have e : (V W ++ List.drop (V W).length (U (canon k (List.replicate n 0))).toList).toArray = U W := by
      have h5 : (U (canon k (List.replicate n 0))).toList.length = L + 1 := by rw [Array.length_toList, Hcs.out]
      rw [List.drop_eq_nil_of_le (by rw [h5, V_length, Hl.out]; omega), List.append_nil]
      rfl
    rw [e] at hblk ⊢
    exact hblk

theorem from_part (k n s L : Nat) (A : Option Addr) (c : Nat) (W : List Nat) (w : World) (hA : Sl w A (V W)) (h1 : 1 ≤ k) (h2 : k ≤ 64) (h3 : n ≤ 1048576) (hs : k * n = s) (hM : (s + 63) / 64 = L + 1) (hl : W.length = L + 1)
    (hr : 0 < s % 64) (hb : W.getD L 0 / 2 ^ (s % 64) = 0) (hW : ∀ x ∈ W, x < 2 ^ 64) :
    Calls Try.prog 21 #[.int .i64 (k : Int), .int .i64 (n : Int), .slice A (L + 1) c] w (MadeOk k (dec k n W) w) := by
  have hsb : k * n ≤ 64 * 1048576 := Nat.mul_le_mul h2 h3
  have hsi : (k : Int) * (n : Int) = (s : Int) := by rw [← hs, Int.natCast_mul]
  have hsb2 : s ≤ 67108864 := by omega
  have hLb : L ≤ 1048576 := by omega
  obtain ⟨a, rfl, hca⟩ := hA.some (j := L) (by rw [V_length, hl]; omega)
  rw [V_get _ _ (by rw [hl]; omega)] at hca
  have hz : canon k (dec k n W) = W := canon_dec h1 (by rw [hl, hs, hM]) hW ((spare_iff (by rw [hl, hs, hM]) hW (by rw [hs]; exact hr)).1 (by rw [hs, hl]; exact hb))
  have hbi : (((W.getD L 0 : Nat) : Int) / 2 ^ (s % 64) != 0) = false := by rw [shr_nat, bne_eq_false_iff_eq]; omega
  have hr2 : (0 : Int) < (s : Int) % 64 := by omega
  have Hz := Lib.hid hz
  have Hs := Lib.hid hs
  have HM := Lib.hid hM
  have Hl := Lib.hid hl
  have hablk : a.block < w.heap.size := hA.lt a rfl (by intro e; rw [← List.length_eq_zero_iff, V_length, hl] at e; omega)
  generalize W.getD L 0 = x at *
  clear hs hM hl hsb hW hz
  go_enter Try.func21, Try.ntmps21
  go_wp2_with fail
  refine (new_in k n _ h1 h2 h3).mono ?_
  rintro e w1 ⟨rfl, hP, hB, hsz⟩
  clear hsz
  have hc2 := hP.c2
  rw [canon_length, List.length_replicate, Hs.out, HM.out] at hc2
  have hca1 : w1.cell? (a.add L) = some (.int .u64 (x : Int)) := by
    rw [World.cell?_of_block (w := w) (hB.block _ (by rw [show (a.add L).block = a.block by unfold Addr.add; split <;> rfl]; exact hablk))]; exact hca
  clear hca
  have hA1 := hA.below hB
  have hcs : (U (canon k (List.replicate n 0))).size = L + 1 := by rw [U_size, canon_length, List.length_replicate, Hs.out, HM.out]
  have Hcs := Lib.hid hcs
  clear hcs
  go_wp2_with (with_reducible refine wpList_copy_own rfl _ _ _ _ rfl 25 Try.underlying22 (by kernel_rfl) w.heap.size 0 (L + 1) (L + 1) a (L + 1) c rfl rfl _ 25 hP.ws (V W) (by rw [V_length, Hl.out]; exact (Nat.min_self _).symm) (hA1.cell a rfl) (by rw [V_length, Hl.out, Hcs.out]; omega) (V_one W) ?_)
  go_ret2
  have hblk := setRow_V hP.ws (V W ++ List.drop (V W).length (U (canon k (List.replicate n 0))).toList).toArray
  have hne : ¬ (w.heap.size + 1 = w.heap.size) := by omega
  refine ⟨w.heap.size + 1, w.heap.size, rfl, ⟨?_, ?_, h1, h2, by rw [dec_length]; exact h3, dec_lt _ _ _⟩, by omega, Nat.le_refl _, below_setRow hB (Nat.le_refl _) _⟩
  · rw [dec_length, Hz.out, Hl.out]
    have hd := hP.hd
    rw [List.length_replicate, canon_length, List.length_replicate, Hs.out, HM.out] at hd
    rw [setRow_other _ _ _ _ (by omega)]
    exact hd
  · rw [Hz.out]
    have e : (V W ++ List.drop (V W).length (U (canon k (List.replicate n 0))).toList).toArray = U W := by
      have h5 : (U (canon k (List.replicate n 0))).toList.length = L + 1 := by rw [Array.length_toList, Hcs.out]
      rw [List.drop_eq_nil_of_le (by rw [h5, V_length, Hl.out]; omega), List.append_nil]
      rfl
    rw [e] at hblk ⊢
    exact hblk

end Go.Proofs.Ytbpnidmhbflgfaa
