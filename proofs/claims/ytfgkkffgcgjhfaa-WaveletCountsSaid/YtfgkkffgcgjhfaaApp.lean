/- Slices that are read, slices that the call owns, append, any program. -/
import Derived.Test.YtfgkkffgcgjhfaaBase
import Derived.Laws.AppendOwnNone
import Derived.Laws.OwnMore
import Derived.Laws.MakeOwn
namespace Go.Proofs.Ytfgkkffgcgjhfaa
set_option linter.unusedVariables false
set_option linter.unusedSimpArgs false
open Go.RowKit

/-- what a slice at A reads as -/
structure Sl (w : World) (A : Option Addr) (xs : List Value) : Prop where
  nil : A = none → xs = []
  cell : ∀ a, A = some a → ∀ j u, xs[j]? = some u → w.cell? (a.add j) = some u

theorem Sl.kept {w w' : World} {A : Option Addr} {xs : List Value} (h : Sl w A xs) (hb : ∀ a, A = some a → xs ≠ [] → w'.heap[a.block]? = w.heap[a.block]?) : Sl w' A xs :=
  ⟨h.nil, fun a ha j u hu => by
    have hne : xs ≠ [] := fun e => by simp [e] at hu
    have hblk : (a.add j).block = a.block := by unfold Addr.add; split <;> rfl
    rw [World.cell?_of_block (w := w) (by rw [hblk]; exact hb a ha hne)]
    exact h.cell a ha j u hu⟩
theorem Sl.lt {w : World} {A : Option Addr} {xs : List Value} (h : Sl w A xs) : ∀ a, A = some a → xs ≠ [] → a.block < w.heap.size := by
  intro a ha hne
  obtain ⟨x, r, rfl⟩ := List.exists_cons_of_ne_nil hne
  have := h.cell a ha 0 x rfl
  have hlt := World.block_lt_of_cell? w _ this
  simpa [Addr.add] using hlt
theorem Sl.below {w w' : World} {A : Option Addr} {xs : List Value} (h : Sl w A xs) (hb : Below w.heap.size w w') : Sl w' A xs :=
  h.kept fun a ha hne => hb.block _ (h.lt a ha hne)
theorem Sl.drewN {w : World} {A : Option Addr} {xs : List Value} (h : Sl w A xs) (n : Nat) : Sl (w.drewN n) A xs := ⟨h.nil, h.cell⟩
theorem Sl.drew {w : World} {A : Option Addr} {xs : List Value} (h : Sl w A xs) : Sl w.drew A xs := ⟨h.nil, h.cell⟩
theorem Sl.grown {w w' : World} {A : Option Addr} {xs : List Value} (h : Sl w A xs) {r : Option Nat} (hb : w.grownBy w' r) (hne : ∀ a, A = some a → xs ≠ [] → some a.block ≠ r) : Sl w' A xs :=
  h.kept fun a ha hx => hb.block _ (h.lt a ha hx) (hne a ha hx)
/-- a place of a slice that is read, behind an index -/
theorem Sl.some {w : World} {A : Option Addr} {xs : List Value} (h : Sl w A xs) {j : Nat} (hj : j < xs.length) : ∃ a, A = Option.some a ∧ w.cell? (a.add j) = xs[j]? := by
  cases A with
  | none => rw [h.nil rfl] at hj; exact absurd hj (Nat.not_lt_zero _)
  | some a => exact ⟨a, rfl, by rw [List.getElem?_eq_getElem hj]; exact h.cell a rfl j _ (List.getElem?_eq_getElem hj)⟩
theorem own_sl {w : World} {base : Nat} {e : TypeId} {v : Value} {n : Nat} {xs : List Value} (h : w.ownsRow base e 1 v n xs) : ∃ A c, v = .slice A n c ∧ Sl w A xs ∧ xs.length = n ∧ ∀ a, A = some a → base ≤ a.block := by
  have hl := h.1
  rw [Nat.mul_one] at hl
  rcases h.2 with ⟨rfl, rfl⟩ | ⟨g, cap, cur, rfl, hg, hb, hn, hm, hs, ht⟩
  · exact ⟨none, 0, rfl, ⟨fun _ => List.eq_nil_of_length_eq_zero hl, fun a ha => by cases ha⟩, hl, fun a ha => by cases ha⟩
  · refine ⟨_, _, rfl, ⟨fun he => (by cases he), fun a ha j u hu => ?_⟩, hl, fun a ha => by cases ha; exact hg⟩
    cases ha
    exact h.cells (g := g) rfl j u hu
theorem sl_nil (w : World) : Sl w none [] := ⟨fun _ => rfl, fun a ha => by cases ha⟩
theorem sl_blk {w : World} {b : Nat} {xs : List Value} {t : TypeId} {fr : Nat × Nat} (h : w.heap[b]? = some (.cells xs.toArray t fr)) : Sl w (some ⟨b, 0, none⟩) xs :=
  ⟨fun h => (by cases h), fun a ha j u hu => by cases ha; rw [show (⟨b, 0, none⟩ : Addr).add j = ⟨b, j, none⟩ by unfold Addr.add; split <;> simp_all, cell_blk h]; simpa using hu⟩

section
variable {P : Program}
theorem wpList_append_sl {w : World} {ops : Array Oper} {rest : List Oper} {o : Oper} {a : Act} {Q : Exit → Act → World → Prop} (hgd : o.guard = none) (s x : Operand) (t : TypeId)
    (ho : o.op = .call { callee := .builtin .append, args := #[s, x], argTypes := #[t, t] })
    (base : Nat) (e : TypeId) (i : TypeInfo) (z : Value) (bytes : Nat) (ht : P.underlying t = some (.slice e)) (hi : P.info? e = some i) (hz : i.zero = some z)
    (hsize : i.size = 1) (hby : i.bytes = bytes) (hzs : z.cells.size = 1)
    (v : Value) (n : Nat) (xs : List Value) (hs : a.eval s = v) (hown : w.ownsRow base e 1 v n xs)
    (A : Option Addr) (m c : Nat) (news : List Value) (hx : a.eval x = .slice A m c) (hc : A = none → c = 0) (hl : news.length = m) (hnews : Sl w A news) (h1 : ∀ u ∈ news, u.oneCell' = true)
    (h63 : n + m ≤ maxLen) (hbytes : (n + m) * bytes ≤ 140737488355328) (hbase : base ≤ w.heap.size)
    (h : ∀ v' w', w'.ownsRow base e 1 v' (n + m) (xs ++ news) → w.grownBy w' v.ownBlock → (v' = .slice none 0 0 ↔ v = .slice none 0 0 ∧ m = 0) → wpList P ops Q rest (a.put o.dst v') w') : wpList P ops Q (o :: rest) a w := by
  cases A with
  | some ad =>
    exact wpList_append_own w hgd s x t ho base e i z 1 bytes ht hi hz hsize hby hzs (by decide) v n xs hs hown ad m c news hx (by omega) (hnews.cell ad rfl) h1 h63 hbytes hbase h
  | none =>
    have h0 := hnews.nil rfl
    subst h0
    have hm : m = 0 := by simpa using hl.symm
    subst hm
    rw [hc rfl] at hx
    refine wpList_append_own_none hgd s x t ho base e i 1 ht hi v n xs hs hown hx ?_
    have := h v w (by simpa using hown) ⟨rfl, rfl, rfl, Nat.le_refl _, fun _ _ _ => rfl⟩ (by simp)
    exact this
end

theorem madeCells_one (z : Value) (hz : z.cells = #[z]) (n : Nat) : madeCells z.cells n = (List.replicate n z).toArray := by
  apply Array.ext
  · simp [madeCells]
  · intro i h1 h2
    simp [madeCells, hz, Nat.mod_one]
end Go.Proofs.Ytfgkkffgcgjhfaa
