/- packed: New, Clone, Words. -/
import Derived.Test.YtbpnidmhbflgfaaPkSet
import Derived.Test.YtbpnidmhbflgfaaApp
import Derived.WalkSpells
namespace Go.Proofs.Ytbpnidmhbflgfaa
set_option linter.unusedVariables false
set_option linter.unusedSimpArgs false
open Go.RowKit PkMath

theorem info_u64 : (Try.prog.info? 25).map (fun i => (i.zero, i.size, i.bytes)) = some (some (.int .u64 0), 1, 8) := by kernel_rfl
theorem make_u64 (c : Nat) (hc : c ≤ 1099511627776) (w : World) :
    (Instr.makeSlice 22 (.int .i64 (c : Int)) (.int .i64 (c : Int))).run Try.prog w = .ok (.slice (some ⟨w.heap.size, 0, none⟩) c c) (w.alloc (.cells (U (List.replicate c 0)) 25)) := by
  obtain ⟨i0, hi, hz0, hz1, hz2⟩ := info_parts info_u64
  have h := run_make (P := Try.prog) w 22 25 i0 (.int .u64 0) Try.underlying22 hi hz0 .i64 .i64 (c : Int) (c : Int) (by omega) (by omega) (by rw [hz2]; omega) (by omega)
  rw [h]
  have e : madeCells (Value.int .u64 0).cells (c * i0.size) = U (List.replicate c 0) := by
    rw [hz1, Nat.mul_one, madeCells_one _ rfl]
    simp [U]
  simp only [Int.toNat_natCast]
  rw [e]

theorem new_arg (k n : Int) (w : World) (h : k < 1 ∨ 64 < k ∨ n < 0) :
    Calls Try.prog 13 #[.int .i64 k, .int .i64 n] w fun e w' => e = .returned (.tuple #[.pointer none, .int .i64 1]) ∧ w = w' := by
  by_cases h1 : k < 1
  · go_enter Try.func13, Try.ntmps13
    go_wp2
    go_ret2
    exact ⟨rfl, rfl⟩
  · by_cases h2 : 64 < k
    · go_enter Try.func13, Try.ntmps13
      go_wp2
      go_ret2
      exact ⟨rfl, rfl⟩
    · have h3 : n < 0 := by omega
      clear h
      go_enter Try.func13, Try.ntmps13
      go_wp2
      go_ret2
      exact ⟨rfl, rfl⟩
theorem new_long (k n : Int) (w : World) (h1 : 1 ≤ k) (h2 : k ≤ 64) (h3 : 1048576 < n) :
    Calls Try.prog 13 #[.int .i64 k, .int .i64 n] w fun e w' => e = .returned (.tuple #[.pointer none, .int .i64 5]) ∧ w = w' := by
  go_enter Try.func13, Try.ntmps13
  go_wp2
  go_ret2
  exact ⟨rfl, rfl⟩

theorem canon_zero (k n : Nat) (hk : 1 ≤ k) : canon k (List.replicate n 0) = List.replicate ((k * n + 63) / 64) 0 := by
  symm
  apply canon_ext
  · rw [List.length_replicate, List.length_replicate]
  · intro x hx; rw [(List.mem_replicate.1 hx).2]; exact Nat.two_pow_pos _
  · intro p _
    have h0 : ∀ m j : Nat, (List.replicate m 0).getD j 0 = 0 := fun m j => by
      simp only [List.getD, List.getElem?_replicate]; split <;> rfl
    unfold bt
    rw [h0, h0]
    simp

theorem new_raw (k n s c : Nat) (w : World) (h1 : 1 ≤ k) (h2 : k ≤ 64) (h3 : n ≤ 1048576) (hs : (k : Int) * (n : Int) = (s : Int)) (hc : ((s : Int) + 64 - 1) / 64 = (c : Int)) (hsb : s ≤ 67108864) (hcb : c ≤ 1048577) :
    Calls Try.prog 13 #[.int .i64 (k : Int), .int .i64 (n : Int)] w fun e w' => e = .returned (.tuple #[.pointer (some ⟨w.heap.size + 1, 0, none⟩), .int .i64 0]) ∧
      w' = (w.alloc (.cells (U (List.replicate c 0)) 25)).alloc (.cells #[.int .i64 (k : Int), .int .i64 (n : Int), .slice (some ⟨w.heap.size, 0, none⟩) c c] 55) := by
  have hmk := make_u64 c (by omega)
  go_enter Try.func13, Try.ntmps13
  go_wp2
  go_ret2
  exact ⟨rfl, rfl⟩

/-- New: a row of noughts -/
theorem new_in (k n : Nat) (w : World) (h1 : 1 ≤ k) (h2 : k ≤ 64) (h3 : n ≤ 1048576) :
    Calls Try.prog 13 #[.int .i64 (k : Int), .int .i64 (n : Int)] w fun e w' => e = .returned (.tuple #[.pointer (some ⟨w.heap.size + 1, 0, none⟩), .int .i64 0]) ∧
      PArr w' (w.heap.size + 1) w.heap.size k (List.replicate n 0) ∧ Below w.heap.size w w' ∧ w'.heap.size = w.heap.size + 2 := by
  have hm : k * n ≤ 64 * 1048576 := Nat.mul_le_mul h2 h3
  refine (new_raw k n (k * n) ((k * n + 63) / 64) w h1 h2 h3 (by rw [Int.natCast_mul]) (by omega) (by omega) (by omega)).mono ?_
  rintro e w' ⟨he, rfl⟩
  have hcz := canon_zero k n h1
  refine ⟨he, ⟨?_, ?_, h1, h2, by simpa using h3, fun x hx => by rw [(List.mem_replicate.1 hx).2]; exact Nat.two_pow_pos _⟩, ((Below.refl _ _).alloc (Nat.le_refl _) _).alloc (by simp) _, by simp⟩
  · rw [hcz, List.length_replicate, List.length_replicate]
    simpa using heap_alloc_new (w.alloc (.cells (U (List.replicate ((k * n + 63) / 64) 0)) 25)) _
  · rw [hcz]
    exact blk_alloc (heap_alloc_new w _) _

end Go.Proofs.Ytbpnidmhbflgfaa
