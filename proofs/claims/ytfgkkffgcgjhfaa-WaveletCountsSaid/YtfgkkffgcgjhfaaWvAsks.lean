/- A slice of asks, as it is read. -/
import Derived.Test.YtfgkkffgcgjhfaaWvLawA
import Derived.Test.YtfgkkffgcgjhfaaStructs
namespace Go.Proofs.Ytfgkkffgcgjhfaa
set_option linter.unusedVariables false
set_option linter.unusedSimpArgs false
open Go.ChangeShapes Go.WideShapes Go.Deep Go.RowKit

theorem listOf {α : Type} (d : α) (n : Nat) (P : Nat → α → Prop) (h : ∀ i, i < n → ∃ x, P i x) : ∃ l : List α, l.length = n ∧ ∀ i, i < n → P i (l.getD i d) := by
  induction n with
  | zero => exact ⟨[], rfl, fun i hi => absurd hi (Nat.not_lt_zero _)⟩
  | succ n ih =>
    obtain ⟨l, hl, hp⟩ := ih fun i hi => h i (by omega)
    obtain ⟨x, hx⟩ := h n (by omega)
    refine ⟨l ++ [x], by simp [hl], fun i hi => ?_⟩
    by_cases e : i < n
    · have : (l ++ [x]).getD i d = l.getD i d := by
        simp only [List.getD, List.getElem?_append_left (by omega : i < l.length)]
      rw [this]; exact hp i e
    · obtain rfl : i = n := by omega
      have : (l ++ [x]).getD i d = x := by
        simp only [List.getD]
        rw [List.getElem?_append_right (by omega), hl, Nat.sub_self]
        rfl
      rw [this]; exact hx
/-- an ask's three numbers, in memory -/
def AskAt (w : World) (b o : Nat) (x : Int × Int × Int) : Prop :=
  w.cell? ⟨b, o, none⟩ = some (.int .i64 x.1) ∧ w.cell? ⟨b, o + 1, none⟩ = some (.int .i64 x.2.1) ∧ w.cell? ⟨b, o + 2, none⟩ = some (.int .i64 x.2.2) ∧ -9223372036854775808 ≤ x.2.2 ∧ x.2.2 < 9223372036854775808
/-- a slice of asks that came in -/
structure Asks (w : World) (A : Option Addr) (l : List (Int × Int × Int)) : Prop where
  nil : A = none → l = []
  ask : l ≠ [] → ∃ b off, A = some ⟨b, off, none⟩ ∧ b < w.heap.size ∧ ∀ j, j < l.length → AskAt w b (off + j * 3) (l.getD j (0, 0, 0))
theorem Asks.below {w w' : World} {A : Option Addr} {l : List (Int × Int × Int)} (h : Asks w A l) (hb : Below w.heap.size w w') : Asks w' A l := by
  refine ⟨h.nil, fun hne => ?_⟩
  obtain ⟨b, off, rfl, hlt, hj⟩ := h.ask hne
  refine ⟨b, off, rfl, Nat.lt_of_lt_of_le hlt hb.size, fun j hjl => ?_⟩
  obtain ⟨h1, h2, h3, r⟩ := hj j hjl
  have e : ∀ o, w'.cell? ⟨b, o, none⟩ = w.cell? ⟨b, o, none⟩ := fun o => World.cell?_of_block (w := w) (a := ⟨b, o, none⟩) (hb.block _ hlt)
  exact ⟨by rw [e]; exact h1, by rw [e]; exact h2, by rw [e]; exact h3, r⟩
theorem asks_of_trod {H : Type} {enc : TypeId × Value → H} {w : World} {A : Option Addr} {len cap : Nat} {d : DataW H} {ps : List MemPlace}
    (h : DataW.Trod enc Try.prog w 0 (fun _ => true) true 49 (.slice A len cap) d ps) : ∃ l, Asks w A l ∧ l.length = len := by
  obtain ⟨fuel, hf⟩ := h
  rcases open_slice_fields Try.underlying49 Try.underlying54 (by kernel_rfl) (by kernel_rfl) hf with ⟨hcs, _⟩ | ⟨a, l, c, m, D, Pl, hcs, _, hl, hm, hmm, hx, hi⟩
  · simp [Value.cells] at hcs
    obtain ⟨rfl, rfl, rfl⟩ := hcs
    exact ⟨[], ⟨fun _ => rfl, fun h => absurd rfl h⟩, rfl⟩
  · simp [Value.cells] at hcs
    obtain ⟨rfl, rfl, rfl⟩ := hcs
    simp only [if_true] at hmm
    subst hmm
    have hcells : ∀ i, i < len → ∃ x : Int × Int × Int, w.cell? (a.add (i * 3)) = some (.int .i64 x.1) ∧ w.cell? (a.add (i * 3 + 1)) = some (.int .i64 x.2.1) ∧ w.cell? (a.add (i * 3 + 2)) = some (.int .i64 x.2.2) ∧ -9223372036854775808 ≤ x.2.2 ∧ x.2.2 < 9223372036854775808 := by
      intro i hil
      obtain ⟨ys, n, _, _, _, hy⟩ := hi i (by omega)
      obtain ⟨v0, y0, hc0, _, ht0⟩ := hy 0 _ rfl
      obtain ⟨v1, y1, hc1, _, ht1⟩ := hy 1 _ rfl
      obtain ⟨v2, y2, hc2, _, ht2⟩ := hy 2 _ rfl
      obtain ⟨n0, e0, _, _⟩ := DataW.trod_int Try.underlying3 ht0
      obtain ⟨n1, e1, _, _⟩ := DataW.trod_int Try.underlying3 ht1
      obtain ⟨n2, e2, _, w2⟩ := DataW.trod_int Try.underlying3 ht2
      injection e0 with e0 _
      injection e1 with e1 _
      injection e2 with e2 _
      subst e0
      subst e1
      subst e2
      have hb : -9223372036854775808 ≤ n2 ∧ n2 < 9223372036854775808 := by
        simp [Lit.wf, IntKind.min, IntKind.max, IntKind.signed, IntKind.bits] at w2
        omega
      exact ⟨(n0, n1, n2), hc0, hc1, hc2, hb.1, hb.2⟩
    obtain ⟨L, hL, hP⟩ := listOf (0, 0, 0) len _ hcells
    refine ⟨L, ⟨fun e => (by cases e), fun hne => ?_⟩, hL⟩
    have hpos : 0 < len := by rw [← hL]; exact List.length_pos_iff.2 hne
    have h0 := (hP 0 hpos).1
    have hsp : a.spot = none := by
      have := World.cell?_spot h0
      simpa [Addr.add] using this
    obtain ⟨b, off, sp⟩ := a
    obtain rfl : sp = none := hsp
    have hadd : ∀ q, (⟨b, off, none⟩ : Addr).add q = ⟨b, off + q, none⟩ := fun q => by unfold Addr.add; split <;> simp_all
    have hlt := World.block_lt_of_cell? w _ h0
    rw [hadd] at hlt
    refine ⟨b, off, rfl, hlt, fun j hj => ?_⟩
    obtain ⟨c0, c1, c2, r⟩ := hP j (by omega)
    rw [hadd] at c0 c1 c2
    exact ⟨c0, c1, c2, r⟩
end Go.Proofs.Ytfgkkffgcgjhfaa
