/- Rows of numbers of the kind uint64: made, appended to, read, owned. -/
import Derived.Test.YtfgkkffgcgjhfaaApp
import Derived.WalkSpells
namespace Go.Proofs.Ytfgkkffgcgjhfaa
set_option linter.unusedVariables false
set_option linter.unusedSimpArgs false
open Go.RowKit

theorem info_u64 : (Try.prog.info? 67).map (fun i => (i.zero, i.size, i.bytes)) = some (some (.int .u64 0), 1, 8) := by kernel_rfl
theorem make_u64 (c : Nat) (hc : c ≤ 1099511627776) (w : World) :
    (Instr.makeSlice 63 (.int .i64 (c : Int)) (.int .i64 (c : Int))).run Try.prog w = .ok (.slice (some ⟨w.heap.size, 0, none⟩) c c) (w.alloc (.cells (U (List.replicate c 0)) 67)) := by
  obtain ⟨i0, hi, hz0, hz1, hz2⟩ := info_parts info_u64
  have h := run_make (P := Try.prog) w 63 67 i0 (.int .u64 0) Try.underlying63 hi hz0 .i64 .i64 (c : Int) (c : Int) (by omega) (by omega) (by rw [hz2]; omega) (by omega)
  rw [h]
  have e : madeCells (Value.int .u64 0).cells (c * i0.size) = U (List.replicate c 0) := by
    rw [hz1, Nat.mul_one, madeCells_one _ rfl]
    simp [U]
  simp only [Int.toNat_natCast]
  rw [e]

/-- numbers of the kind uint64, as values -/
def V (xs : List Nat) : List Value := xs.map fun x : Nat => Value.int .u64 (x : Int)
theorem V_length (xs : List Nat) : (V xs).length = xs.length := by simp [V]
theorem V_get (xs : List Nat) (j : Nat) (h : j < xs.length) : (V xs)[j]? = some (.int .u64 ((xs.getD j 0 : Nat) : Int)) := by
  simp [V, List.getElem?_eq_getElem h]
theorem V_one (xs : List Nat) : ∀ u ∈ V xs, u.oneCell' = true := by
  intro u hu
  obtain ⟨x, _, rfl⟩ := List.mem_map.1 hu
  rfl
theorem app_u64 {w : World} {ops : Array Oper} {rest : List Oper} {o : Oper} {a : Act} {Q : Exit → Act → World → Prop} (hgd : o.guard = none) (s x : Operand)
    (ho : o.op = .call { callee := .builtin .append, args := #[s, x], argTypes := #[63, 63] })
    (base : Nat) (v : Value) (xs : List Nat) (hs : a.eval s = v) (hown : w.ownsRow base 67 1 v xs.length (V xs))
    (A : Option Addr) (m c : Nat) (news : List Nat) (hx : a.eval x = .slice A m c) (hc : A = none → c = 0) (hl : news.length = m) (hnews : Sl w A (V news))
    (h63 : xs.length + m ≤ 1099511627776) (hbase : base ≤ w.heap.size)
    (h : ∀ v' w', w'.ownsRow base 67 1 v' (xs ++ news).length (V (xs ++ news)) → w.grownBy w' v.ownBlock → (v' = .slice none 0 0 ↔ v = .slice none 0 0 ∧ m = 0) → wpList Try.prog ops Q rest (a.put o.dst v') w') : wpList Try.prog ops Q (o :: rest) a w := by
  obtain ⟨i0, hi, hz0, hz1, hz2⟩ := info_parts info_u64
  refine wpList_append_sl hgd s x 63 ho base 67 i0 (.int .u64 0) 8 Try.underlying63 hi hz0 hz1 hz2 rfl v xs.length (V xs) hs hown A m c (V news) hx hc (by rw [V_length]; exact hl) hnews (V_one _) (by unfold maxLen; omega) (by omega) hbase ?_
  intro v' w' h1 h2 h3
  refine h v' w' ?_ h2 h3
  rw [List.length_append, hl]
  simpa [V] using h1

/-- a slice of numbers of the kind uint64 that came in -/
structure Arg (w : World) (A : Option Addr) (n c : Nat) (l : List Nat) : Prop where
  sl : Sl w A (V l)
  len : l.length = n
  cap : n ≤ c
  nil : A = none → c = 0
  lt : ∀ x ∈ l, x < 2 ^ 64
theorem arg_of_row {w : World} {a : Option Addr} {len cap : Nat} {zs : List Int}
    (h : (a = none ∧ len = 0 ∧ cap = 0 ∧ zs = []) ∨
      ∃ x, a = some x ∧ len ≤ cap ∧ cap ≤ maxLen ∧ zs.length = cap ∧ (∀ i, i < zs.length → w.cell? (x.add i) = some (.int .u64 (zs.getD i 0))) ∧ ∀ n ∈ zs, (Lit.int .u64 n).wf = true) :
    ∃ l, Arg w a len cap l := by
  rcases h with ⟨rfl, rfl, rfl, rfl⟩ | ⟨x, rfl, hlen, _, hz, hc, hw⟩
  · exact ⟨[], sl_nil w, rfl, Nat.le_refl _, fun _ => rfl, fun x hx => by cases hx⟩
  · have hb : ∀ n ∈ zs, 0 ≤ n ∧ n < 18446744073709551616 := fun n hn => by
      have := hw n hn
      simp [Lit.wf, IntKind.min, IntKind.max, IntKind.signed, IntKind.bits] at this
      omega
    refine ⟨(zs.take len).map Int.toNat, ⟨fun e => (by cases e), fun a ha j u hu => ?_⟩, by simp; omega, hlen, fun e => (by cases e), fun y hy => ?_⟩
    · cases ha
      simp only [V, List.map_map] at hu
      rw [List.getElem?_map, List.getElem?_take] at hu
      split at hu
      · rename_i hj
        have hjz : j < zs.length := by omega
        rw [List.getElem?_eq_getElem hjz] at hu
        simp only [Option.map_some, Option.some.injEq, Function.comp] at hu
        rw [hc j hjz, ← hu]
        simp only [List.getD, List.getElem?_eq_getElem hjz, Option.getD_some]
        rw [Int.toNat_of_nonneg (hb _ (List.getElem_mem hjz)).1]
      · simp at hu
    · obtain ⟨n, hn, rfl⟩ := List.mem_map.1 hy
      have := hb n (List.mem_of_mem_take hn)
      omega

/-- a row of the call's own that is no nil -/
theorem own_blk {w : World} {base : Nat} {e : TypeId} {v : Value} {n : Nat} {xs : List Value} (h : w.ownsRow base e 1 v n xs) (hv : v ≠ .slice none 0 0) :
    ∃ g cap cur, v = .slice (some ⟨g, 0, none⟩) n cap ∧ base ≤ g ∧ w.heap[g]? = some (.cells cur e (0, 0)) ∧ n ≤ cap ∧ n ≤ cur.size ∧ cur.toList.take n = xs := by
  rcases h.2 with ⟨rfl, _⟩ | ⟨g, cap, cur, rfl, hg, hb, hn, _, hs, ht⟩
  · exact absurd rfl hv
  · rw [Nat.mul_one] at ht
    exact ⟨g, cap, cur, rfl, hg, hb, hn, by omega, ht⟩
theorem sl_take {w : World} {g n : Nat} {cur : Array Value} {xs : List Value} {t : TypeId} {fr : Nat × Nat} (hb : w.heap[g]? = some (.cells cur t fr)) (ht : cur.toList.take n = xs) : Sl w (some ⟨g, 0, none⟩) xs :=
  ⟨fun h => (by cases h), fun a ha j u hu => by
    cases ha
    rw [show (⟨g, 0, none⟩ : Addr).add j = ⟨g, j, none⟩ by unfold Addr.add; split <;> simp_all, cell_blk hb]
    rw [← ht, List.getElem?_take] at hu
    split at hu
    · simpa using hu
    · cases hu⟩
/-- a block whose first n cells are numbers -/
def NumBlk (w : World) (g n : Nat) : Prop := ∃ cur : Array Value, w.heap[g]? = some (.cells cur 67 (0, 0)) ∧ ∀ i, i < n → ∃ x : Int, cur[i]? = some (.int .u64 x)
theorem NumBlk.set {w : World} {g n : Nat} (h : NumBlk w g n) (j : Nat) (x : Int) : NumBlk (w.setCell ⟨g, j, none⟩ (.int .u64 x)) g n := by
  obtain ⟨cur, hb, hc⟩ := h
  refine ⟨_, blk_set hb j _, fun i hi => ?_⟩
  obtain ⟨y, hy⟩ := hc i hi
  have hlt : i < cur.size := (Array.getElem?_eq_some_iff.1 hy).1
  rw [Array.getElem?_setIfInBounds]
  by_cases he : j = i
  · subst he; exact ⟨x, by simp [hlt]⟩
  · exact ⟨y, by simp [he, hy]⟩
theorem NumBlk.of_take {w : World} {g n : Nat} {cur : Array Value} {l : List Nat} (hb : w.heap[g]? = some (.cells cur 67 (0, 0))) (ht : cur.toList.take n = V l) (hl : l.length = n) : NumBlk w g n := by
  refine ⟨cur, hb, fun i hi => ?_⟩
  have h := V_get l i (by omega)
  rw [← ht, List.getElem?_take, if_pos hi] at h
  exact ⟨_, by simpa using h⟩
theorem NumBlk.cell {w : World} {g n : Nat} (h : NumBlk w g n) {i : Nat} (hi : i < n) : ∃ x : Int, w.cell? ⟨g, i, none⟩ = some (.int .u64 x) ∧ w.frozen? ⟨g, i, none⟩ = false := by
  obtain ⟨cur, hb, hc⟩ := h
  obtain ⟨x, hx⟩ := hc i hi
  exact ⟨x, by rw [cell_blk hb, hx], frozen_blk hb _⟩

end Go.Proofs.Ytfgkkffgcgjhfaa
