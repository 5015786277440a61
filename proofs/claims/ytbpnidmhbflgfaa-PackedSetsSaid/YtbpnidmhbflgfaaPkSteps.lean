/- A slice of steps, as it is read. -/
import Derived.Test.YtbpnidmhbflgfaaPkLawD
import Derived.Test.YtbpnidmhbflgfaaStructs
namespace Go.Proofs.Ytbpnidmhbflgfaa
set_option linter.unusedVariables false
set_option linter.unusedSimpArgs false
open Go.ChangeShapes Go.WideShapes Go.Deep Go.RowKit

theorem listOf {α : Type} (d : α) (n : Nat) (P : Nat → α → Prop) (h : ∀ i, i < n → ∃ x, P i x) : ∃ l : List α, l.length = n ∧ ∀ i, i < n → P i (l.getD i d) := by
  induction n with
  | zero => exact ⟨[], rfl, fun i hi => absurd hi (Nat.not_lt_zero _)⟩
  | succ n ih =>
    obtain ⟨l, hl, hp⟩ := ih fun i hi => h i (by omega)
    obtain ⟨x, hx⟩ := h n (by omega)
    refine ⟨l ++ [x], by simp [hl], fun i hi => ?_⟩
    by_cases e : i < n
    · have : (l ++ [x]).getD i d = l.getD i d := by
        simp only [List.getD, List.getElem?_append_left (by omega : i < l.length)]
      rw [this]; exact hp i e
    · obtain rfl : i = n := by omega
      have : (l ++ [x]).getD i d = x := by
        simp only [List.getD]
        rw [List.getElem?_append_right (by omega), hl, Nat.sub_self]
        rfl
      rw [this]; exact hx

theorem steps_of_trod {H : Type} {enc : TypeId × Value → H} {w : World} {A : Option Addr} {len cap : Nat} {d : DataW H} {ps : List MemPlace}
    (h : DataW.Trod enc Try.prog w 0 (fun _ => true) true 31 (.slice A len cap) d ps) (hlt : ∀ x ∈ ps, x.block < w.heap.size) : ∃ l, Steps2 w A l ∧ l.length = len := by
  obtain ⟨fuel, hf⟩ := h
  rcases open_slice_fields Try.underlying31 Try.underlying39 (by kernel_rfl) (by kernel_rfl) hf with ⟨hcs, _⟩ | ⟨a, l, c, m, D, Pl, hcs, _, hl, hm, hmm, hx, hi⟩
  · simp [Value.cells] at hcs
    obtain ⟨rfl, rfl, rfl⟩ := hcs
    exact ⟨[], ⟨fun _ => rfl, fun x hx => (by cases hx), fun a ha => (by cases ha), fun a ha => (by cases ha), fun a ha => (by cases ha)⟩, rfl⟩
  · simp [Value.cells] at hcs
    obtain ⟨rfl, rfl, rfl⟩ := hcs
    simp only [if_true] at hmm
    subst hmm
    have hcells : ∀ i, i < len → ∃ x : Int × Nat, x.2 < 2 ^ 64 ∧ w.cell? (a.add (i * 2)) = some (.int .i64 x.1) ∧ w.cell? (a.add (i * 2 + 1)) = some (.int .u64 (x.2 : Int)) := by
      intro i hil
      obtain ⟨ys, n, _, _, _, hy⟩ := hi i (by omega)
      obtain ⟨v0, y0, hc0, _, ht0⟩ := hy 0 _ rfl
      obtain ⟨v1, y1, hc1, _, ht1⟩ := hy 1 _ rfl
      obtain ⟨n0, e0, _, _⟩ := DataW.trod_int Try.underlying3 ht0
      obtain ⟨n1, e1, _, w1⟩ := DataW.trod_int Try.underlying25 ht1
      injection e0 with e0 _
      injection e1 with e1 _
      subst e0
      subst e1
      have hb : 0 ≤ n1 ∧ n1 < 18446744073709551616 := by
        simp [Lit.wf, IntKind.min, IntKind.max, IntKind.signed, IntKind.bits] at w1
        omega
      refine ⟨(n0, n1.toNat), by omega, hc0, ?_⟩
      rw [Int.toNat_of_nonneg hb.1]
      exact hc1
    obtain ⟨L, hL, hP⟩ := listOf (0, 0) len _ hcells
    refine ⟨L, ⟨fun e => (by cases e), fun x hx => ?_, fun b hb hne => ?_, fun b hb j hj => ?_, fun b hb j hj => ?_⟩, hL⟩
    · obtain ⟨j, hj, rfl⟩ := List.getElem_of_mem hx
      have := (hP j (by omega)).1
      simpa [List.getD, List.getElem?_eq_getElem hj] using this
    · cases hb
      have hpos : 0 < len := by rw [← hL]; exact List.length_pos_iff.2 hne
      have h0 := (hP 0 hpos).2.1
      have hb := World.block_lt_of_cell? w _ h0
      rw [add_block] at hb
      refine ⟨hb, ?_⟩
      have := World.cell?_spot h0
      simpa [Addr.add] using this
    all_goals
      cases hb
      have h0 := (hP 0 (by omega)).2.1
      have hsp : a.spot = none := by
        have := World.cell?_spot h0
        simpa [Addr.add] using this
      have hadd : ∀ q, a.add q = ⟨a.block, a.off + q, none⟩ := by
        intro q
        unfold Addr.add
        split
        · rename_i e; subst e; cases a; simp_all
        · rfl
    · have := (hP j (by omega)).2.1
      rw [hadd] at this
      exact this
    · have := (hP j (by omega)).2.2
      rw [hadd] at this
      exact this

end Go.Proofs.Ytbpnidmhbflgfaa
