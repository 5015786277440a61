/- Small laws on blocks of cells, any program. -/
import Derived.Test.YtphccomhggnccaaGreatRows
import Derived.WalkKit
import Derived.Deep.QuietTactic
import Derived.BigQuiet
import Derived.Outline
import Derived.IntWalk
import Derived.Lib.Hide
import Derived.Laws.AppendOwnNone
import Derived.Laws.OwnMore
import Derived.Laws.MakeOwn
import Derived.WalkSpells
import Derived.SizedLaws
import Derived.ChangeArms
import Derived.Laws.BitsAllLaws
import Derived.StillTailTactics
import Derived.Deep.RegionHeld3
import Derived.Deep.DeepCutAuto
import Derived.Deep.CutBlock
import Derived.Deep.RegionLaw
import Derived.Deep.Grids
namespace Go.Proofs.YtphccomhggnccaaGreat
set_option maxRecDepth 100000
set_option linter.unusedVariables false
set_option linter.unusedSimpArgs false
open Go.RowKit
theorem ret_val {a b : Value} (h : a = b) : Ending.returned a = .returned b := by rw [h]
theorem ret_int {k : IntKind} {a b : Int} (h : a = b) : Ending.returned (.int k a) = .returned (.int k b) := by rw [h]
theorem ret_bool {a b : Bool} (h : a = b) : Ending.returned (.bool a) = .returned (.bool b) := by rw [h]

theorem cell_blk {w : World} {b : Nat} {cs : Array Value} {t : TypeId} {fr : Nat × Nat} (h : w.heap[b]? = some (.cells cs t fr)) (j : Nat) : w.cell? ⟨b, j, none⟩ = cs[j]? := by
  simp [World.cell?, h]
theorem frozen_blk {w : World} {b : Nat} {cs : Array Value} {t : TypeId} (h : w.heap[b]? = some (.cells cs t (0, 0))) (j : Nat) : w.frozen? ⟨b, j, none⟩ = false := by
  simp [World.frozen?, h]
theorem blk_set {w : World} {b : Nat} {cs : Array Value} {t : TypeId} {fr : Nat × Nat} (h : w.heap[b]? = some (.cells cs t fr)) (j : Nat) (v : Value) :
    (w.setCell ⟨b, j, none⟩ v).heap[b]? = some (.cells (cs.setIfInBounds j v) t fr) := by
  simp [World.setCell, Array.getElem?_modify, h]
theorem blk_other {w : World} {b c : Nat} {o : Option Obj} (h : w.heap[b]? = o) (hne : b ≠ c) (j : Nat) (v : Value) :
    (w.setCell ⟨c, j, none⟩ v).heap[b]? = o := by
  rw [Below.heap_setCell _ _ _ _ hne]; exact h
theorem cell_set_blk {w : World} {b c : Nat} (hne : ¬ b = c) (j o : Nat) (v : Value) : (w.setCell ⟨c, j, none⟩ v).cell? ⟨b, o, none⟩ = w.cell? ⟨b, o, none⟩ :=
  World.cell?_of_block (Below.heap_setCell w ⟨c, j, none⟩ v b hne)
theorem cell_set_off {w : World} {b j o : Nat} (hne : ¬ j = o) (v : Value) : (w.setCell ⟨b, j, none⟩ v).cell? ⟨b, o, none⟩ = w.cell? ⟨b, o, none⟩ := by
  simp only [World.setCell, World.cell?, Array.getElem?_modify, if_true]
  cases w.heap[b]? with
  | none => rfl
  | some x => cases x <;> simp [Array.getElem?_setIfInBounds, hne]
theorem blk_lt {w : World} {b : Nat} {o : Obj} (h : w.heap[b]? = some o) : b < w.heap.size := (Array.getElem?_eq_some_iff.1 h).1
theorem blk_alloc {w : World} {b : Nat} {o : Obj} (h : w.heap[b]? = some o) (p : Obj) : (w.alloc p).heap[b]? = some o := by
  rw [Below.heap_alloc _ _ _ (blk_lt h)]; exact h
theorem grown_set (w : World) (b j : Nat) (v : Value) : w.grownBy (w.setCell ⟨b, j, none⟩ v) (some b) :=
  ⟨rfl, rfl, rfl, by simp [World.setCell], fun k _ hne => Below.heap_setCell _ _ _ _ (fun e => hne (by rw [e]))⟩
theorem grown_refl (w : World) (r : Option Nat) : w.grownBy w r := ⟨rfl, rfl, rfl, Nat.le_refl _, fun _ _ _ => rfl⟩
theorem grown_drewN (w : World) (n : Nat) (r : Option Nat) : w.grownBy (w.drewN n) r := ⟨rfl, rfl, rfl, Nat.le_refl _, fun _ _ _ => rfl⟩
theorem grown_drew (w : World) (r : Option Nat) : w.grownBy w.drew r := ⟨rfl, rfl, rfl, Nat.le_refl _, fun _ _ _ => rfl⟩
theorem grown_trans {a b c : World} {r : Option Nat} (h : a.grownBy b r) (k : b.grownBy c r) : a.grownBy c r :=
  ⟨k.os.trans h.os, k.tape.trans h.tape, k.output.trans h.output, Nat.le_trans h.size k.size,
    fun i hi hne => (k.block i (Nat.lt_of_lt_of_le hi h.size) hne).trans (h.block i hi hne)⟩
theorem grown_below {w w' : World} {r : Option Nat} (h : w.grownBy w' r) {B : Nat} (hB : ∀ g, r = some g → B ≤ g) (hs : B ≤ w.heap.size) : Below B w w' :=
  (Below.refl B w).grown h hs hB
theorem below_grown {w w' : World} {B : Nat} (h : Below B w w') (hs : w.heap.size ≤ B) (r : Option Nat) : w.grownBy w' r :=
  ⟨h.os, h.tape, h.output, h.size, fun k hk _ => h.block k (by omega)⟩
theorem below_drewN (B : Nat) (w : World) (n : Nat) : Below B w (w.drewN n) := ⟨rfl, rfl, rfl, Nat.le_refl _, fun _ _ => rfl⟩
theorem grown_blk {w w' : World} {r : Option Nat} (h : w.grownBy w' r) {b : Nat} {o : Obj} (hb : w.heap[b]? = some o) (hne : some b ≠ r) : w'.heap[b]? = some o :=
  (h.block b (blk_lt hb) hne).trans hb

def U (l : List Nat) : Array Value := (l.map fun x : Nat => Value.int .u64 (x : Int)).toArray
theorem U_get (l : List Nat) (j : Nat) (h : j < l.length) : (U l)[j]? = some (.int .u64 ((l.getD j 0 : Nat) : Int)) := by
  simp [U, List.getElem?_eq_getElem h]
theorem U_set (l : List Nat) (j x : Nat) : (U l).setIfInBounds j (.int .u64 (x : Int)) = U (l.set j x) := by
  simp [U, List.map_set]
def I (l : List Int) : Array Value := (l.map fun x : Int => Value.int .i64 x).toArray
theorem I_get (l : List Int) (j : Nat) (h : j < l.length) : (I l)[j]? = some (.int .i64 (l.getD j 0)) := by
  simp [I, List.getElem?_eq_getElem h]
theorem I_set (l : List Int) (j : Nat) (x : Int) : (I l).setIfInBounds j (.int .i64 x) = I (l.set j x) := by
  simp [I, List.map_set]

end Go.Proofs.YtphccomhggnccaaGreat
namespace Go.Proofs.YtphccomhggnccaaGreat
set_option maxRecDepth 100000
set_option linter.unusedVariables false
set_option linter.unusedSimpArgs false
open Go.RowKit
structure Sl (w : World) (A : Option Addr) (xs : List Value) : Prop where
  nil : A = none → xs = []
  cell : ∀ a, A = some a → ∀ j u, xs[j]? = some u → w.cell? (a.add j) = some u

theorem Sl.kept {w w' : World} {A : Option Addr} {xs : List Value} (h : Sl w A xs) (hb : ∀ a, A = some a → xs ≠ [] → w'.heap[a.block]? = w.heap[a.block]?) : Sl w' A xs :=
  ⟨h.nil, fun a ha j u hu => by
    have hne : xs ≠ [] := fun e => by simp [e] at hu
    have hblk : (a.add j).block = a.block := by unfold Addr.add; split <;> rfl
    rw [World.cell?_of_block (w := w) (by rw [hblk]; exact hb a ha hne)]
    exact h.cell a ha j u hu⟩
theorem Sl.lt {w : World} {A : Option Addr} {xs : List Value} (h : Sl w A xs) : ∀ a, A = some a → xs ≠ [] → a.block < w.heap.size := by
  intro a ha hne
  obtain ⟨x, r, rfl⟩ := List.exists_cons_of_ne_nil hne
  have := h.cell a ha 0 x rfl
  have hlt := World.block_lt_of_cell? w _ this
  simpa [Addr.add] using hlt
theorem Sl.below {w w' : World} {A : Option Addr} {xs : List Value} (h : Sl w A xs) (hb : Below w.heap.size w w') : Sl w' A xs :=
  h.kept fun a ha hne => hb.block _ (h.lt a ha hne)
theorem Sl.drewN {w : World} {A : Option Addr} {xs : List Value} (h : Sl w A xs) (n : Nat) : Sl (w.drewN n) A xs := ⟨h.nil, h.cell⟩
theorem Sl.drew {w : World} {A : Option Addr} {xs : List Value} (h : Sl w A xs) : Sl w.drew A xs := ⟨h.nil, h.cell⟩
theorem Sl.grown {w w' : World} {A : Option Addr} {xs : List Value} (h : Sl w A xs) {r : Option Nat} (hb : w.grownBy w' r) (hne : ∀ a, A = some a → xs ≠ [] → some a.block ≠ r) : Sl w' A xs :=
  h.kept fun a ha hx => hb.block _ (h.lt a ha hx) (hne a ha hx)
theorem Sl.some {w : World} {A : Option Addr} {xs : List Value} (h : Sl w A xs) {j : Nat} (hj : j < xs.length) : ∃ a, A = Option.some a ∧ w.cell? (a.add j) = xs[j]? := by
  cases A with
  | none => rw [h.nil rfl] at hj; exact absurd hj (Nat.not_lt_zero _)
  | some a => exact ⟨a, rfl, by rw [List.getElem?_eq_getElem hj]; exact h.cell a rfl j _ (List.getElem?_eq_getElem hj)⟩
theorem own_sl {w : World} {base : Nat} {e : TypeId} {v : Value} {n : Nat} {xs : List Value} (h : w.ownsRow base e 1 v n xs) : ∃ A c, v = .slice A n c ∧ Sl w A xs ∧ xs.length = n ∧ ∀ a, A = some a → base ≤ a.block := by
  have hl := h.1
  rw [Nat.mul_one] at hl
  rcases h.2 with ⟨rfl, rfl⟩ | ⟨g, cap, cur, rfl, hg, hb, hn, hm, hs, ht⟩
  · exact ⟨none, 0, rfl, ⟨fun _ => List.eq_nil_of_length_eq_zero hl, fun a ha => by cases ha⟩, hl, fun a ha => by cases ha⟩
  · refine ⟨_, _, rfl, ⟨fun he => (by cases he), fun a ha j u hu => ?_⟩, hl, fun a ha => by cases ha; exact hg⟩
    cases ha
    exact h.cells (g := g) rfl j u hu
theorem sl_nil (w : World) : Sl w none [] := ⟨fun _ => rfl, fun a ha => by cases ha⟩
theorem sl_blk {w : World} {b : Nat} {xs : List Value} {t : TypeId} {fr : Nat × Nat} (h : w.heap[b]? = some (.cells xs.toArray t fr)) : Sl w (some ⟨b, 0, none⟩) xs :=
  ⟨fun h => (by cases h), fun a ha j u hu => by cases ha; rw [show (⟨b, 0, none⟩ : Addr).add j = ⟨b, j, none⟩ by unfold Addr.add; split <;> simp_all, cell_blk h]; simpa using hu⟩

section
variable {P : Program}
theorem wpList_append_sl {w : World} {ops : Array Oper} {rest : List Oper} {o : Oper} {a : Act} {Q : Exit → Act → World → Prop} (hgd : o.guard = none) (s x : Operand) (t : TypeId)
    (ho : o.op = .call { callee := .builtin .append, args := #[s, x], argTypes := #[t, t] })
    (base : Nat) (e : TypeId) (i : TypeInfo) (z : Value) (bytes : Nat) (ht : P.underlying t = some (.slice e)) (hi : P.info? e = some i) (hz : i.zero = some z)
    (hsize : i.size = 1) (hby : i.bytes = bytes) (hzs : z.cells.size = 1)
    (v : Value) (n : Nat) (xs : List Value) (hs : a.eval s = v) (hown : w.ownsRow base e 1 v n xs)
    (A : Option Addr) (m c : Nat) (news : List Value) (hx : a.eval x = .slice A m c) (hc : A = none → c = 0) (hl : news.length = m) (hnews : Sl w A news) (h1 : ∀ u ∈ news, u.oneCell' = true)
    (h63 : n + m ≤ maxLen) (hbytes : (n + m) * bytes ≤ 140737488355328) (hbase : base ≤ w.heap.size)
    (h : ∀ v' w', w'.ownsRow base e 1 v' (n + m) (xs ++ news) → w.grownBy w' v.ownBlock → (v' = .slice none 0 0 ↔ v = .slice none 0 0 ∧ m = 0) → wpList P ops Q rest (a.put o.dst v') w') : wpList P ops Q (o :: rest) a w := by
  cases A with
  | some ad =>
    exact wpList_append_own w hgd s x t ho base e i z 1 bytes ht hi hz hsize hby hzs (by decide) v n xs hs hown ad m c news hx (by omega) (hnews.cell ad rfl) h1 h63 hbytes hbase h
  | none =>
    have h0 := hnews.nil rfl
    subst h0
    have hm : m = 0 := by simpa using hl.symm
    subst hm
    rw [hc rfl] at hx
    refine wpList_append_own_none hgd s x t ho base e i 1 ht hi v n xs hs hown hx ?_
    have := h v w (by simpa using hown) ⟨rfl, rfl, rfl, Nat.le_refl _, fun _ _ _ => rfl⟩ (by simp)
    exact this
end
theorem madeCells_one (z : Value) (hz : z.cells = #[z]) (n : Nat) : madeCells z.cells n = (List.replicate n z).toArray := by
  apply Array.ext
  · simp [madeCells]
  · intro i h1 h2
    simp [madeCells, hz, Nat.mod_one]
end Go.Proofs.YtphccomhggnccaaGreat
namespace Go.Proofs.YtphccomhggnccaaGreat
set_option maxRecDepth 100000
set_option linter.unusedVariables false
set_option linter.unusedSimpArgs false
open Go.RowKit
theorem info_u64 : (Tryz.prog.info? 154).map (fun i => (i.zero, i.size, i.bytes)) = some (some (.int .u64 0), 1, 8) := by kernel_rfl
theorem make_u64 (c : Nat) (hc : c ≤ 1099511627776) (w : World) :
    (Instr.makeSlice 183 (.int .i64 (c : Int)) (.int .i64 (c : Int))).run Tryz.prog w = .ok (.slice (some ⟨w.heap.size, 0, none⟩) c c) (w.alloc (.cells (U (List.replicate c 0)) 154)) := by
  obtain ⟨i0, hi, hz0, hz1, hz2⟩ := info_parts info_u64
  have h := run_make (P := Tryz.prog) w 183 154 i0 (.int .u64 0) Tryz.underlying183 hi hz0 .i64 .i64 (c : Int) (c : Int) (by omega) (by omega) (by rw [hz2]; omega) (by omega)
  rw [h]
  have e : madeCells (Value.int .u64 0).cells (c * i0.size) = U (List.replicate c 0) := by
    rw [hz1, Nat.mul_one, madeCells_one _ rfl]
    simp [U]
  simp only [Int.toNat_natCast]
  rw [e]

def V (xs : List Nat) : List Value := xs.map fun x : Nat => Value.int .u64 (x : Int)
theorem V_length (xs : List Nat) : (V xs).length = xs.length := by simp [V]
theorem V_get (xs : List Nat) (j : Nat) (h : j < xs.length) : (V xs)[j]? = some (.int .u64 ((xs.getD j 0 : Nat) : Int)) := by
  simp [V, List.getElem?_eq_getElem h]
theorem V_one (xs : List Nat) : ∀ u ∈ V xs, u.oneCell' = true := by
  intro u hu
  obtain ⟨x, _, rfl⟩ := List.mem_map.1 hu
  rfl
theorem own_blk {w : World} {base : Nat} {e : TypeId} {v : Value} {n : Nat} {xs : List Value} (h : w.ownsRow base e 1 v n xs) (hv : v ≠ .slice none 0 0) :
    ∃ g cap cur, v = .slice (some ⟨g, 0, none⟩) n cap ∧ base ≤ g ∧ w.heap[g]? = some (.cells cur e (0, 0)) ∧ n ≤ cap ∧ n ≤ cur.size ∧ cur.toList.take n = xs := by
  rcases h.2 with ⟨rfl, _⟩ | ⟨g, cap, cur, rfl, hg, hb, hn, _, hs, ht⟩
  · exact absurd rfl hv
  · rw [Nat.mul_one] at ht
    exact ⟨g, cap, cur, rfl, hg, hb, hn, by omega, ht⟩
theorem sl_take {w : World} {g n : Nat} {cur : Array Value} {xs : List Value} {t : TypeId} {fr : Nat × Nat} (hb : w.heap[g]? = some (.cells cur t fr)) (ht : cur.toList.take n = xs) : Sl w (some ⟨g, 0, none⟩) xs :=
  ⟨fun h => (by cases h), fun a ha j u hu => by
    cases ha
    rw [show (⟨g, 0, none⟩ : Addr).add j = ⟨g, j, none⟩ by unfold Addr.add; split <;> simp_all, cell_blk hb]
    rw [← ht, List.getElem?_take] at hu
    split at hu
    · simpa using hu
    · cases hu⟩
def NumBlk (w : World) (g n : Nat) : Prop := ∃ cur : Array Value, w.heap[g]? = some (.cells cur 154 (0, 0)) ∧ ∀ i, i < n → ∃ x : Int, cur[i]? = some (.int .u64 x)
theorem NumBlk.set {w : World} {g n : Nat} (h : NumBlk w g n) (j : Nat) (x : Int) : NumBlk (w.setCell ⟨g, j, none⟩ (.int .u64 x)) g n := by
  obtain ⟨cur, hb, hc⟩ := h
  refine ⟨_, blk_set hb j _, fun i hi => ?_⟩
  obtain ⟨y, hy⟩ := hc i hi
  have hlt : i < cur.size := (Array.getElem?_eq_some_iff.1 hy).1
  rw [Array.getElem?_setIfInBounds]
  by_cases he : j = i
  · subst he; exact ⟨x, by simp [hlt]⟩
  · exact ⟨y, by simp [he, hy]⟩
theorem NumBlk.cell {w : World} {g n : Nat} (h : NumBlk w g n) {i : Nat} (hi : i < n) : ∃ x : Int, w.cell? ⟨g, i, none⟩ = some (.int .u64 x) ∧ w.frozen? ⟨g, i, none⟩ = false := by
  obtain ⟨cur, hb, hc⟩ := h
  obtain ⟨x, hx⟩ := hc i hi
  exact ⟨x, by rw [cell_blk hb, hx], frozen_blk hb _⟩

end Go.Proofs.YtphccomhggnccaaGreat
namespace Go.Proofs.YtphccomhggnccaaGreat
set_option maxRecDepth 100000
set_option linter.unusedVariables false
set_option linter.unusedSimpArgs false
open Go.RowKit
theorem info_int : (Tryz.prog.info? 3).map (fun i => (i.zero, i.size, i.bytes)) = some (some (.int .i64 0), 1, 8) := by kernel_rfl
def VI (xs : List Int) : List Value := xs.map fun x : Int => Value.int .i64 x
theorem VI_length (xs : List Int) : (VI xs).length = xs.length := by simp [VI]
theorem VI_get (xs : List Int) (j : Nat) (h : j < xs.length) : (VI xs)[j]? = some (.int .i64 (xs.getD j 0)) := by
  simp [VI, List.getElem?_eq_getElem h]
theorem VI_one (xs : List Int) : ∀ u ∈ VI xs, u.oneCell' = true := by
  intro u hu
  obtain ⟨x, _, rfl⟩ := List.mem_map.1 hu
  rfl
theorem VI_append (xs ys : List Int) : VI (xs ++ ys) = VI xs ++ VI ys := by simp [VI]
theorem app_int {w : World} {ops : Array Oper} {rest : List Oper} {o : Oper} {a : Act} {Q : Exit → Act → World → Prop} (hgd : o.guard = none) (s x : Operand)
    (ho : o.op = .call { callee := .builtin .append, args := #[s, x], argTypes := #[26, 26] })
    (base : Nat) (v : Value) (xs : List Int) (hs : a.eval s = v) (hown : w.ownsRow base 3 1 v xs.length (VI xs))
    (A : Option Addr) (m c : Nat) (news : List Int) (hx : a.eval x = .slice A m c) (hc : A = none → c = 0) (hl : news.length = m) (hnews : Sl w A (VI news))
    (h63 : xs.length + m ≤ 1099511627776) (hbase : base ≤ w.heap.size)
    (h : ∀ v' w', w'.ownsRow base 3 1 v' (xs ++ news).length (VI (xs ++ news)) → w.grownBy w' v.ownBlock → (v' = .slice none 0 0 ↔ v = .slice none 0 0 ∧ m = 0) → wpList Tryz.prog ops Q rest (a.put o.dst v') w') : wpList Tryz.prog ops Q (o :: rest) a w := by
  obtain ⟨i0, hi, hz0, hz1, hz2⟩ := info_parts info_int
  refine wpList_append_sl hgd s x 26 ho base 3 i0 (.int .i64 0) 8 Tryz.underlying26 hi hz0 hz1 hz2 rfl v xs.length (VI xs) hs hown A m c (VI news) hx hc (by rw [VI_length]; exact hl) hnews (VI_one _) (by unfold maxLen; omega) (by omega) hbase ?_
  intro v' w' h1 h2 h3
  refine h v' w' ?_ h2 h3
  rw [List.length_append, hl, VI_append]
  exact h1
theorem wp_app_int {w : World} {o : Oper} {a : Act} {K : Act → World → Prop} {Q : Exit → Act → World → Prop} {E : Prop} {ys : Nat → Option Bool} (hgd : o.guard = none) (s x : Operand)
    (ho : o.op = .call { callee := .builtin .append, args := #[s, x], argTypes := #[26, 26] })
    (base : Nat) (v : Value) (xs : List Int) (hs : a.eval s = v) (hown : w.ownsRow base 3 1 v xs.length (VI xs))
    (ad : Addr) (m c : Nat) (news : List Int) (hx : a.eval x = .slice (some ad) m c) (hl : news.length = m) (hnews : Sl w (some ad) (VI news))
    (h63 : xs.length + m ≤ 1099511627776) (hbase : base ≤ w.heap.size)
    (h : ∀ v' w', w'.ownsRow base 3 1 v' (xs ++ news).length (VI (xs ++ news)) → w.grownBy w' v.ownBlock → (v' = .slice none 0 0 ↔ v = .slice none 0 0 ∧ m = 0) → K (a.put o.dst v') w') :
    if Region.wanted o ys = true then Oper.wp Tryz.prog o a w K Q else E := by
  have hw : Region.wanted o ys = true := by simp [Region.wanted, hgd]
  rw [if_pos hw]
  obtain ⟨i0, hi, hz0, hz1, hz2⟩ := info_parts info_int
  refine wp_append_own w s x 26 ho base 3 i0 (.int .i64 0) 1 8 Tryz.underlying26 hi hz0 hz1 hz2 rfl (by decide) v xs.length (VI xs) hs hown ad m c (VI news) hx (by rw [VI_length]; omega) (hnews.cell ad rfl) (VI_one _) (by unfold maxLen; omega) (by omega) hbase ?_
  intro v' w' h1 h2 h3
  refine h v' w' ?_ h2 h3
  rw [List.length_append, hl, VI_append]
  exact h1
end Go.Proofs.YtphccomhggnccaaGreat
namespace Go.Proofs.YtphccomhggnccaaGreat
set_option maxRecDepth 100000
set_option linter.unusedVariables false
set_option linter.unusedSimpArgs false
open Go.ChangeShapes Go.WideShapes
end Go.Proofs.YtphccomhggnccaaGreat
namespace Go.Proofs.YtphccomhggnccaaGreat.PkMath
set_option maxRecDepth 100000
set_option linter.unusedVariables false
set_option linter.unusedSimpArgs false
def mkbits (f : Nat → Bool) : Nat → Nat
  | 0 => 0
  | n + 1 => mkbits f n ||| (if f n then 2 ^ n else 0)

theorem testBit_mkbits (f : Nat → Bool) (n t : Nat) : (mkbits f n).testBit t = (decide (t < n) && f t) := by
  induction n with
  | zero => simp [mkbits]
  | succ n ih =>
    simp only [mkbits, Nat.testBit_or, ih]
    by_cases e : t = n
    · subst e
      cases hf : f t <;> simp [Nat.testBit_two_pow_self]
    · have h1 : (if f n = true then 2 ^ n else 0).testBit t = false := by
        split
        · exact Nat.testBit_two_pow_of_ne (by omega)
        · simp
      rw [h1, Bool.or_false]
      by_cases h : t < n
      · simp [h, Nat.lt_succ_of_lt h]
      · have : ¬ t < n + 1 := by omega
        simp [h, this]

theorem mkbits_lt (f : Nat → Bool) (n : Nat) : mkbits f n < 2 ^ n :=
  Nat.lt_pow_two_of_testBit _ fun i hi => by
    rw [testBit_mkbits]
    have : ¬ i < n := by omega
    simp [this]

def bt (W : List Nat) (p : Nat) : Bool := (W.getD (p / 64) 0).testBit (p % 64)

def cw (k : Nat) (l : List Nat) (j : Nat) : Nat :=
  mkbits (fun t => decide (64 * j + t < k * l.length) && (l.getD ((64 * j + t) / k) 0).testBit ((64 * j + t) % k)) 64
def canon (k : Nat) (l : List Nat) : List Nat := (List.range ((k * l.length + 63) / 64)).map (cw k l)

theorem canon_length (k : Nat) (l : List Nat) : (canon k l).length = (k * l.length + 63) / 64 := by simp [canon]
theorem canon_getD (k : Nat) (l : List Nat) (j : Nat) (h : j < (k * l.length + 63) / 64) : (canon k l).getD j 0 = cw k l j := by
  simp [canon, List.getD, List.getElem?_map, List.getElem?_range h]
theorem cw_lt (k : Nat) (l : List Nat) (j : Nat) : cw k l j < 2 ^ 64 := mkbits_lt _ _
theorem canon_ok (k : Nat) (l : List Nat) : ∀ x ∈ canon k l, x < 2 ^ 64 := by
  intro x hx
  obtain ⟨j, _, rfl⟩ := List.mem_map.1 hx
  exact cw_lt k l j
theorem getD_lt {W : List Nat} (h : ∀ x ∈ W, x < 2 ^ 64) (j : Nat) : W.getD j 0 < 2 ^ 64 := by
  by_cases hj : j < W.length
  · rw [List.getD, List.getElem?_eq_getElem hj]; exact h _ (List.getElem_mem hj)
  · rw [List.getD, List.getElem?_eq_none (by omega)]; exact Nat.two_pow_pos _
theorem bt_canon (k : Nat) (l : List Nat) (p : Nat) : bt (canon k l) p = (decide (p < k * l.length) && (l.getD (p / k) 0).testBit (p % k)) := by
  unfold bt
  have e : 64 * (p / 64) + p % 64 = p := by omega
  by_cases h : p / 64 < (k * l.length + 63) / 64
  · rw [canon_getD _ _ _ h, cw, testBit_mkbits, e]
    have : p % 64 < 64 := by omega
    simp [this]
  · rw [List.getD, List.getElem?_eq_none (by rw [canon_length]; omega)]
    have : ¬ p < k * l.length := by omega
    simp [this]
theorem words_ext {W V : List Nat} (hl : W.length = V.length) (hW : ∀ x ∈ W, x < 2 ^ 64) (hV : ∀ x ∈ V, x < 2 ^ 64) (h : ∀ p, p < 64 * W.length → bt W p = bt V p) : W = V := by
  apply List.ext_getElem hl
  intro j h1 h2
  apply Nat.eq_of_testBit_eq
  intro t
  by_cases ht : t < 64
  · have := h (64 * j + t) (by omega)
    unfold bt at this
    rw [show (64 * j + t) / 64 = j by omega, show (64 * j + t) % 64 = t by omega] at this
    simpa [List.getD, List.getElem?_eq_getElem h1, List.getElem?_eq_getElem h2] using this
  · have a1 : W[j].testBit t = false := Nat.testBit_lt_two_pow (Nat.lt_of_lt_of_le (hW _ (List.getElem_mem h1)) (Nat.pow_le_pow_right (by decide) (by omega)))
    have a2 : V[j].testBit t = false := Nat.testBit_lt_two_pow (Nat.lt_of_lt_of_le (hV _ (List.getElem_mem h2)) (Nat.pow_le_pow_right (by decide) (by omega)))
    rw [a1, a2]
theorem canon_ext {k : Nat} {l : List Nat} {W : List Nat} (hl : W.length = (k * l.length + 63) / 64) (hW : ∀ x ∈ W, x < 2 ^ 64)
    (h : ∀ p, p < 64 * W.length → bt W p = (decide (p < k * l.length) && (l.getD (p / k) 0).testBit (p % k))) : W = canon k l :=
  words_ext (by rw [hl, canon_length]) hW (canon_ok k l) fun p hp => by rw [h p hp, bt_canon]

def gw (k x y off : Nat) : Nat := (if 64 < off + k then (x >>> off ||| (y <<< (64 - off)) % 2 ^ 64) else x >>> off) &&& (2 ^ k - 1)

theorem bt_split (W : List Nat) (s t : Nat) (ht : t < 64) : bt W (s + t) = if s % 64 + t < 64 then (W.getD (s / 64) 0).testBit (s % 64 + t) else (W.getD (s / 64 + 1) 0).testBit (s % 64 + t - 64) := by
  unfold bt
  split
  · rw [show (s + t) / 64 = s / 64 by omega, show (s + t) % 64 = s % 64 + t by omega]
  · rw [show (s + t) / 64 = s / 64 + 1 by omega, show (s + t) % 64 = s % 64 + t - 64 by omega]

theorem testBit_gw (W : List Nat) (hW : ∀ x ∈ W, x < 2 ^ 64) (k s t : Nat) (hk : k ≤ 64) :
    (gw k (W.getD (s / 64) 0) (W.getD (s / 64 + 1) 0) (s % 64)).testBit t = (decide (t < k) && bt W (s + t)) := by
  unfold gw
  rw [Nat.testBit_and, Nat.testBit_two_pow_sub_one]
  by_cases htk : t < k
  · have ht : t < 64 := by omega
    rw [bt_split W s t ht]
    simp only [htk, decide_true, Bool.and_true, Bool.true_and]
    split
    · rename_i hov
      rw [Nat.testBit_or, Nat.testBit_shiftRight, Nat.testBit_mod_two_pow, Nat.testBit_shiftLeft]
      split
      · rename_i hin
        have : ¬ t ≥ 64 - s % 64 := by omega
        simp [this]
      · rename_i hout
        have h1 : (W.getD (s / 64) 0).testBit (s % 64 + t) = false :=
          Nat.testBit_lt_two_pow (Nat.lt_of_lt_of_le (getD_lt hW _) (Nat.pow_le_pow_right (by decide) (by omega)))
        have h2 : t ≥ 64 - s % 64 := by omega
        rw [h1]
        simp only [ht, h2, decide_true, Bool.true_and, Bool.false_or]
        rw [show t - (64 - s % 64) = s % 64 + t - 64 by omega]
    · rename_i hov
      rw [Nat.testBit_shiftRight, if_pos (by omega)]
  · simp [htk]

theorem gw_canon {k : Nat} {l : List Nat} (hk1 : 1 ≤ k) (hk : k ≤ 64) (hl : ∀ x ∈ l, x < 2 ^ k) {i : Nat} (hi : i < l.length) :
    gw k ((canon k l).getD (i * k / 64) 0) ((canon k l).getD (i * k / 64 + 1) 0) (i * k % 64) = l.getD i 0 := by
  apply Nat.eq_of_testBit_eq
  intro t
  rw [testBit_gw _ (canon_ok k l) k (i * k) t hk, bt_canon]
  have hx : l.getD i 0 < 2 ^ k := by rw [List.getD, List.getElem?_eq_getElem hi]; exact hl _ (List.getElem_mem hi)
  by_cases ht : t < k
  · have h1 : i * k + t < k * l.length := by
      calc i * k + t < i * k + k := by omega
        _ = (i + 1) * k := by rw [Nat.add_mul, Nat.one_mul]
        _ ≤ l.length * k := Nat.mul_le_mul_right k hi
        _ = k * l.length := Nat.mul_comm _ _
    have h2 : (i * k + t) / k = i := by rw [Nat.mul_comm, Nat.mul_add_div (by omega), Nat.div_eq_of_lt ht, Nat.add_zero]
    have h3 : (i * k + t) % k = t := by rw [Nat.mul_comm, Nat.mul_add_mod, Nat.mod_eq_of_lt ht]
    simp [ht, h1, h2, h3]
  · have : (l.getD i 0).testBit t = false := Nat.testBit_lt_two_pow (Nat.lt_of_lt_of_le hx (Nat.pow_le_pow_right (by decide) (by omega)))
    simp [ht]
    simpa [List.getD] using this

def s1 (k x v off : Nat) : Nat := (x &&& (2 ^ 64 - 1 - (2 ^ k - 1) * 2 ^ off % 2 ^ 64)) ||| (v * 2 ^ off % 2 ^ 64)
def s2 (k y v off : Nat) : Nat := (y &&& (2 ^ 64 - 1 - (2 ^ k - 1) / 2 ^ (64 - off))) ||| (v / 2 ^ (64 - off))
def setW (k : Nat) (W : List Nat) (i v : Nat) : List Nat :=
  if 64 < i * k % 64 + k then (W.set (i * k / 64) (s1 k (W.getD (i * k / 64) 0) v (i * k % 64))).set (i * k / 64 + 1) (s2 k (W.getD (i * k / 64 + 1) 0) v (i * k % 64))
  else W.set (i * k / 64) (s1 k (W.getD (i * k / 64) 0) v (i * k % 64))

theorem testBit_not64 {y : Nat} (hy : y < 2 ^ 64) (t : Nat) : (2 ^ 64 - 1 - y).testBit t = (decide (t < 64) && !y.testBit t) := by
  rw [show 2 ^ 64 - 1 - y = 2 ^ 64 - (y + 1) by omega, Nat.testBit_two_pow_sub_succ hy]

theorem testBit_s1 (k x v off : Nat) (hx : x < 2 ^ 64) (hv : v < 2 ^ k) (ho : off < 64) (t : Nat) (ht : t < 64) :
    (s1 k x v off).testBit t = if off ≤ t ∧ t < off + k then v.testBit (t - off) else x.testBit t := by
  unfold s1
  rw [Nat.testBit_or, Nat.testBit_and, testBit_not64 (Nat.mod_lt _ (by decide)), Nat.testBit_mod_two_pow, Nat.testBit_mod_two_pow, Nat.testBit_mul_two_pow, Nat.testBit_mul_two_pow, Nat.testBit_two_pow_sub_one]
  simp only [ht, decide_true, Bool.true_and]
  by_cases h1 : off ≤ t
  · by_cases h2 : t < off + k
    · have : t - off < k := by omega
      simp [h1, h2, this]
    · have h3 : ¬ t - off < k := by omega
      have h4 : v.testBit (t - off) = false := Nat.testBit_lt_two_pow (Nat.lt_of_lt_of_le hv (Nat.pow_le_pow_right (by decide) (by omega)))
      simp [h1, h2, h3, h4]
  · simp [h1]
theorem testBit_s2 (k y v off : Nat) (hy : y < 2 ^ 64) (hv : v < 2 ^ k) (hk : k ≤ 64) (hov : 64 < off + k) (ho : off < 64) (t : Nat) (ht : t < 64) :
    (s2 k y v off).testBit t = if t < off + k - 64 then v.testBit (t + (64 - off)) else y.testBit t := by
  unfold s2
  have hm : (2 ^ k - 1) / 2 ^ (64 - off) < 2 ^ 64 := Nat.lt_of_le_of_lt (Nat.div_le_self _ _) (by
    have : 2 ^ k ≤ 2 ^ 64 := Nat.pow_le_pow_right (by decide) hk
    have := Nat.two_pow_pos k
    omega)
  rw [Nat.testBit_or, Nat.testBit_and, testBit_not64 hm, Nat.testBit_div_two_pow, Nat.testBit_div_two_pow, Nat.testBit_two_pow_sub_one]
  simp only [ht, decide_true, Bool.true_and]
  by_cases h : t < off + k - 64
  · have : t + (64 - off) < k := by omega
    simp [h, this]
  · have h3 : ¬ t + (64 - off) < k := by omega
    have h4 : v.testBit (t + (64 - off)) = false := Nat.testBit_lt_two_pow (Nat.lt_of_lt_of_le hv (Nat.pow_le_pow_right (by decide) (by omega)))
    simp [h, h3, h4]
theorem s1_lt (k x v off : Nat) (hx : x < 2 ^ 64) : s1 k x v off < 2 ^ 64 :=
  Nat.or_lt_two_pow (Nat.lt_of_le_of_lt Nat.and_le_left hx) (Nat.mod_lt _ (by decide))
theorem s2_lt (k y v off : Nat) (hy : y < 2 ^ 64) (hv : v < 2 ^ k) (hk : k ≤ 64) : s2 k y v off < 2 ^ 64 :=
  Nat.or_lt_two_pow (Nat.lt_of_le_of_lt Nat.and_le_left hy) (Nat.lt_of_le_of_lt (Nat.div_le_self _ _) (Nat.lt_of_lt_of_le hv (Nat.pow_le_pow_right (by decide) hk)))

theorem length_setW (k : Nat) (W : List Nat) (i v : Nat) : (setW k W i v).length = W.length := by unfold setW; split <;> simp
theorem setW_ok {k : Nat} {W : List Nat} (hW : ∀ x ∈ W, x < 2 ^ 64) (i : Nat) {v : Nat} (hv : v < 2 ^ k) (hk : k ≤ 64) : ∀ x ∈ setW k W i v, x < 2 ^ 64 := by
  intro x hx
  unfold setW at hx
  have a1 := s1_lt k (W.getD (i * k / 64) 0) v (i * k % 64) (getD_lt hW _)
  have a2 := s2_lt k (W.getD (i * k / 64 + 1) 0) v (i * k % 64) (getD_lt hW _) hv hk
  split at hx
  · rcases List.mem_or_eq_of_mem_set hx with hx | rfl
    · rcases List.mem_or_eq_of_mem_set hx with hx | rfl
      · exact hW _ hx
      · exact a1
    · exact a2
  · rcases List.mem_or_eq_of_mem_set hx with hx | rfl
    · exact hW _ hx
    · exact a1

theorem getD_set (W : List Nat) (a j x : Nat) (ha : a < W.length) : (W.set a x).getD j 0 = if j = a then x else W.getD j 0 := by
  simp only [List.getD, List.getElem?_set]
  by_cases h : j = a
  · subst h; simp [ha]
  · have : ¬ a = j := fun e => h e.symm
    simp [h, this]

theorem bt_setW {k : Nat} {W : List Nat} (hW : ∀ x ∈ W, x < 2 ^ 64) (i : Nat) {v : Nat} (hv : v < 2 ^ k) (hk1 : 1 ≤ k) (hk : k ≤ 64) (hlen : (i * k + k + 63) / 64 ≤ W.length) (p : Nat) :
    bt (setW k W i v) p = if i * k ≤ p ∧ p < i * k + k then v.testBit (p - i * k) else bt W p := by
  have hp : p % 64 < 64 := by omega
  have ho : i * k % 64 < 64 := by omega
  unfold bt setW
  generalize hs : i * k = s at *
  by_cases hov : 64 < s % 64 + k
  · rw [if_pos hov, getD_set _ _ _ _ (by simp; omega), getD_set _ _ _ _ (by omega)]
    by_cases h1 : p / 64 = s / 64 + 1
    · rw [if_pos h1, h1, testBit_s2 _ _ _ _ (getD_lt hW _) hv hk hov ho _ hp]
      by_cases h2 : p % 64 < s % 64 + k - 64
      · rw [if_pos h2, if_pos (by omega)]; congr 1; omega
      · rw [if_neg h2, if_neg (by omega)]
    · rw [if_neg h1]
      by_cases h0 : p / 64 = s / 64
      · rw [if_pos h0, h0, testBit_s1 _ _ _ _ (getD_lt hW _) hv ho _ hp]
        by_cases h2 : s % 64 ≤ p % 64 ∧ p % 64 < s % 64 + k
        · rw [if_pos h2, if_pos (by omega)]; congr 1; omega
        · rw [if_neg h2, if_neg (by omega)]
      · rw [if_neg h0, if_neg (by omega)]
  · rw [if_neg hov, getD_set _ _ _ _ (by omega)]
    by_cases h0 : p / 64 = s / 64
    · rw [if_pos h0, h0, testBit_s1 _ _ _ _ (getD_lt hW _) hv ho _ hp]
      by_cases h2 : s % 64 ≤ p % 64 ∧ p % 64 < s % 64 + k
      · rw [if_pos h2, if_pos (by omega)]; congr 1; omega
      · rw [if_neg h2, if_neg (by omega)]
    · rw [if_neg h0, if_neg (by omega)]

theorem mul_fits {k i n : Nat} (hi : i < n) : i * k + k ≤ k * n := by
  calc i * k + k = (i + 1) * k := by rw [Nat.add_mul, Nat.one_mul]
    _ ≤ n * k := Nat.mul_le_mul_right k hi
    _ = k * n := Nat.mul_comm _ _

theorem setW_canon {k : Nat} {l : List Nat} (hk1 : 1 ≤ k) (hk : k ≤ 64) {i : Nat} (hi : i < l.length) {v : Nat} (hv : v < 2 ^ k) :
    setW k (canon k l) i v = canon k (l.set i v) := by
  have hf := mul_fits (k := k) hi
  apply canon_ext
  · rw [length_setW, canon_length, List.length_set]
  · exact setW_ok (canon_ok k l) i hv hk
  · intro p hp
    rw [length_setW, canon_length] at hp
    rw [bt_setW (canon_ok k l) i hv hk1 hk (by rw [canon_length]; omega), bt_canon, List.length_set, getD_set _ _ _ _ hi]
    by_cases hin : i * k ≤ p ∧ p < i * k + k
    · have h2 : p / k = i := by
        have e : p = k * i + (p - i * k) := by rw [Nat.mul_comm]; omega
        rw [e, Nat.mul_add_div (by omega), Nat.div_eq_of_lt (by omega), Nat.add_zero]
      have h3 : p % k = p - i * k := by
        have e : p = k * i + (p - i * k) := by rw [Nat.mul_comm]; omega
        rw [e, Nat.mul_add_mod, Nat.mod_eq_of_lt (by omega)]
        rw [Nat.mul_comm]; omega
      have h4 : p < k * l.length := by omega
      simp [hin, h2, h3, h4]
    · rw [if_neg hin]
      have h2 : p / k ≠ i := by
        intro e
        apply hin
        have h5 := Nat.div_add_mod p k
        have h6 := Nat.mod_lt p (show 0 < k by omega)
        rw [e] at h5
        rw [Nat.mul_comm] at h5
        omega
      simp [h2]

end Go.Proofs.YtphccomhggnccaaGreat.PkMath
namespace Go.Proofs.YtphccomhggnccaaGreat.Pop
set_option maxRecDepth 100000
set_option linter.unusedVariables false
set_option linter.unusedSimpArgs false
def pc (x : Nat) : Nat → Nat
  | 0 => 0
  | n + 1 => pc x n + (x.testBit n).toNat

theorem and_split (s h l M m : Nat) (hl : l < 256) (hs : s ≤ 8) (hm : m < 2 ^ (8 - s)) :
    ((256 * h + l) >>> s) &&& (256 * M + m) = 256 * ((h >>> s) &&& M) + ((l >>> s) &&& m) := by
  have hm8 : m < 2 ^ 8 := Nat.lt_of_lt_of_le hm (Nat.pow_le_pow_right (by decide) (by omega))
  have hlt : (l >>> s) &&& m < 2 ^ 8 := Nat.lt_of_le_of_lt Nat.and_le_right hm8
  apply Nat.eq_of_testBit_eq
  intro i
  have e1 : 256 * h + l = 2 ^ 8 * h + l := rfl
  have e2 : 256 * M + m = 2 ^ 8 * M + m := rfl
  have e3 : 256 * ((h >>> s) &&& M) + ((l >>> s) &&& m) = 2 ^ 8 * ((h >>> s) &&& M) + ((l >>> s) &&& m) := rfl
  rw [e1, e2, e3, Nat.testBit_and, Nat.testBit_shiftRight, Nat.testBit_two_pow_mul_add _ (show l < 2 ^ 8 from hl), Nat.testBit_two_pow_mul_add _ hm8, Nat.testBit_two_pow_mul_add _ hlt]
  by_cases hi : i < 8
  · rw [if_pos hi, if_pos hi]
    by_cases h2 : s + i < 8
    · rw [if_pos h2, Nat.testBit_and, Nat.testBit_shiftRight]
    · have hz : m.testBit i = false := Nat.testBit_lt_two_pow (Nat.lt_of_lt_of_le hm (Nat.pow_le_pow_right (by decide) (by omega)))
      rw [hz, Nat.testBit_and, hz]; simp
  · rw [if_neg hi, if_neg hi, if_neg (by omega), Nat.testBit_and, Nat.testBit_shiftRight, show s + i - 8 = s + (i - 8) by omega]
theorem and_split0 (h l M m : Nat) (hl : l < 256) (hm : m < 256) : (256 * h + l) &&& (256 * M + m) = 256 * (h &&& M) + (l &&& m) := by
  have := and_split 0 h l M m hl (by decide) hm
  simpa using this

def mask (m : Nat) : Nat → Nat
  | 0 => 0
  | n + 1 => 256 * mask m n + m
def f1 (n x : Nat) : Nat := ((x >>> 1) &&& mask 85 n) + (x &&& mask 85 n)
def f2 (n x : Nat) : Nat := ((x >>> 2) &&& mask 51 n) + (x &&& mask 51 n)
def f3 (n x : Nat) : Nat := ((x >>> 4) + x) &&& mask 15 n
def g1 (y : Nat) : Nat := ((y >>> 1) &&& 85) + (y &&& 85)
def g2 (y : Nat) : Nat := ((y >>> 2) &&& 51) + (y &&& 51)
def g3 (y : Nat) : Nat := ((y >>> 4) + y) % 16

theorem f1_split (n h l : Nat) (hl : l < 256) : f1 (n + 1) (256 * h + l) = 256 * f1 n h + g1 l := by
  unfold f1 g1
  simp only [mask]
  rw [and_split 1 h l _ 85 hl (by decide) (by decide), and_split0 h l _ 85 hl (by decide)]
  omega
theorem f2_split (n h l : Nat) (hl : l < 256) : f2 (n + 1) (256 * h + l) = 256 * f2 n h + g2 l := by
  unfold f2 g2
  simp only [mask]
  rw [and_split 2 h l _ 51 hl (by decide) (by decide), and_split0 h l _ 51 hl (by decide)]
  omega
theorem f3_split (n h l : Nat) (hl : l < 256) (h0 : l % 16 ≤ 4) (h1 : l / 16 ≤ 4) (h2 : h % 16 ≤ 4) : f3 (n + 1) (256 * h + l) = 256 * f3 n h + g3 l := by
  unfold f3 g3
  simp only [mask]
  have e : ((256 * h + l) >>> 4) + (256 * h + l) = 256 * ((h >>> 4) + h) + (l + l / 16 + 16 * (h % 16)) := by
    rw [Nat.shiftRight_eq_div_pow, Nat.shiftRight_eq_div_pow]
    omega
  rw [e, and_split0 _ _ _ 15 (by omega) (by decide)]
  congr 1
  rw [show (15 : Nat) = 2 ^ 4 - 1 from rfl, Nat.and_two_pow_sub_one_eq_mod, Nat.shiftRight_eq_div_pow]
  omega
def g (y : Nat) : Nat := g3 (g2 (g1 y))
theorem byte_ok : ∀ y : Fin 256, g y.val = pc y.val 8 ∧ g1 y.val < 256 ∧ g2 (g1 y.val) < 256 ∧ g2 (g1 y.val) % 16 ≤ 4 ∧ g2 (g1 y.val) / 16 ≤ 4 ∧ g y.val ≤ 8 := by decide +kernel
theorem f12_low : ∀ n x, f2 n (f1 n x) % 16 ≤ 4 := by
  intro n
  cases n with
  | zero => intro x; simp [f2, mask]
  | succ n =>
    intro x
    have e : x = 256 * (x / 256) + x % 256 := by omega
    have hb := byte_ok ⟨x % 256, Nat.mod_lt _ (by decide)⟩
    rw [e, f1_split n _ _ (Nat.mod_lt _ (by decide)), f2_split n _ _ hb.2.1]
    have := hb.2.2.2.1
    simp only at this
    omega
def sums : Nat → Nat → Nat
  | 0, _ => 0
  | n + 1, x => 256 * sums n (x / 256) + pc (x % 256) 8
theorem f_sums : ∀ n x, f3 n (f2 n (f1 n x)) = sums n x := by
  intro n
  induction n with
  | zero => intro x; simp [f3, mask, sums]
  | succ n ih =>
    intro x
    have e : x = 256 * (x / 256) + x % 256 := by omega
    have hb := byte_ok ⟨x % 256, Nat.mod_lt _ (by decide)⟩
    simp only at hb
    have hl : f2 n (f1 n (x / 256)) % 16 ≤ 4 := f12_low n (x / 256)
    conv => lhs; rw [e]
    rw [f1_split n _ _ (Nat.mod_lt _ (by decide)), f2_split n _ _ hb.2.1, f3_split n _ _ hb.2.2.1 hb.2.2.2.1 hb.2.2.2.2.1 hl, ih, sums]
    have h5 : g3 (g2 (g1 (x % 256))) = pc (x % 256) 8 := hb.1
    rw [h5]
theorem pc_le (x n : Nat) : pc x n ≤ n := by
  induction n with
  | zero => simp [pc]
  | succ n ih => simp only [pc]; cases x.testBit n <;> simp <;> omega
theorem pc_mod (x : Nat) : pc (x % 256) 8 = pc x 8 := by
  simp only [pc, show (256 : Nat) = 2 ^ 8 from rfl, Nat.testBit_mod_two_pow]
  simp
theorem pc_add (x m n : Nat) : pc x (m + n) = pc x m + pc (x / 2 ^ m) n := by
  induction n with
  | zero => simp [pc]
  | succ n ih =>
    rw [← Nat.add_assoc]
    simp only [pc, ih, Nat.testBit_div_two_pow]
    rw [Nat.add_comm m n]; omega
theorem pc_bytes (x n : Nat) : pc x (8 * n + 8) = pc (x % 256) 8 + pc (x / 256) (8 * n) := by
  rw [Nat.add_comm, pc_add, pc_mod]

def pop (x : Nat) : Nat :=
  let x1 := ((x >>> 1) &&& 6148914691236517205) + (x &&& 6148914691236517205)
  let x2 := ((x1 >>> 2) &&& 3689348814741910323) + (x1 &&& 3689348814741910323)
  let x3 := ((x2 >>> 4) + x2) &&& 1085102592571150095
  let x4 := x3 + x3 >>> 8
  let x5 := x4 + x4 >>> 16
  let x6 := x5 + x5 >>> 32
  x6 % 128
theorem mask1 : mask 85 8 = 6148914691236517205 := by decide
theorem mask2 : mask 51 8 = 3689348814741910323 := by decide
theorem mask3 : mask 15 8 = 1085102592571150095 := by decide
theorem x3_eq (x : Nat) : ((((((x >>> 1) &&& 6148914691236517205) + (x &&& 6148914691236517205)) >>> 2) &&& 3689348814741910323) + ((((x >>> 1) &&& 6148914691236517205) + (x &&& 6148914691236517205)) &&& 3689348814741910323)) = f2 8 (f1 8 x) := by
  unfold f2 f1
  rw [mask1, mask2]
theorem fold1 (p q : Nat) (hp : p < 256) : (256 * q + p) / 256 = q := by omega
theorem fold2 (a b q : Nat) (ha : a < 256) (hb : b < 256) : (256 * (256 * q + b) + a) / 65536 = q := by omega
theorem fold4 (a b c d q : Nat) (ha : a < 256) (hb : b < 256) (hc : c < 256) (hd : d < 256) : (256 * (256 * (256 * (256 * q + d) + c) + b) + a) / 4294967296 = q := by omega
def H (p7 p6 p5 p4 p3 p2 p1 p0 : Nat) : Nat := 256 * (256 * (256 * (256 * (256 * (256 * (256 * (256 * 0 + p7) + p6) + p5) + p4) + p3) + p2) + p1) + p0
theorem H1 (p0 p1 p2 p3 p4 p5 p6 p7 : Nat) (h0 : p0 ≤ 8) : H p7 p6 p5 p4 p3 p2 p1 p0 + H p7 p6 p5 p4 p3 p2 p1 p0 / 256 = H p7 (p6 + p7) (p5 + p6) (p4 + p5) (p3 + p4) (p2 + p3) (p1 + p2) (p0 + p1) := by
  unfold H
  rw [fold1 p0 _ (by omega)]
  omega
theorem H2 (p0 p1 p2 p3 p4 p5 p6 p7 : Nat) (h0 : p0 ≤ 16) (h1 : p1 ≤ 16) : H p7 p6 p5 p4 p3 p2 p1 p0 + H p7 p6 p5 p4 p3 p2 p1 p0 / 65536 = H p7 p6 (p5 + p7) (p4 + p6) (p3 + p5) (p2 + p4) (p1 + p3) (p0 + p2) := by
  unfold H
  rw [fold2 p0 p1 _ (by omega) (by omega)]
  omega
theorem H4 (p0 p1 p2 p3 p4 p5 p6 p7 : Nat) (h0 : p0 ≤ 32) (h1 : p1 ≤ 32) (h2 : p2 ≤ 32) (h3 : p3 ≤ 32) : H p7 p6 p5 p4 p3 p2 p1 p0 + H p7 p6 p5 p4 p3 p2 p1 p0 / 4294967296 = H p7 p6 p5 p4 (p3 + p7) (p2 + p6) (p1 + p5) (p0 + p4) := by
  unfold H
  rw [fold4 p0 p1 p2 p3 _ (by omega) (by omega) (by omega) (by omega)]
  omega
theorem H_lt (p0 p1 p2 p3 p4 p5 p6 p7 : Nat) (h0 : p0 ≤ 64) (h1 : p1 ≤ 64) (h2 : p2 ≤ 64) (h3 : p3 ≤ 64) (h4 : p4 ≤ 64) (h5 : p5 ≤ 64) (h6 : p6 ≤ 64) (h7 : p7 ≤ 64) : H p7 p6 p5 p4 p3 p2 p1 p0 < 9223372036854775808 := by
  unfold H; omega
theorem H_mod (p0 p1 p2 p3 p4 p5 p6 p7 : Nat) (h0 : p0 < 128) : H p7 p6 p5 p4 p3 p2 p1 p0 % 128 = p0 := by
  unfold H; omega
theorem fold_eq (p0 p1 p2 p3 p4 p5 p6 p7 : Nat) (h0 : p0 ≤ 8) (h1 : p1 ≤ 8) (h2 : p2 ≤ 8) (h3 : p3 ≤ 8) (h4 : p4 ≤ 8) (h5 : p5 ≤ 8) (h6 : p6 ≤ 8) (h7 : p7 ≤ 8) :
    ∃ x4 x5 x6 : Nat, x4 = H p7 p6 p5 p4 p3 p2 p1 p0 + H p7 p6 p5 p4 p3 p2 p1 p0 / 256 ∧
      x5 = x4 + x4 / 65536 ∧ x6 = x5 + x5 / 4294967296 ∧ x6 % 128 = p0 + (p1 + (p2 + (p3 + (p4 + (p5 + (p6 + p7)))))) ∧ x4 < 9223372036854775808 ∧ x5 < 9223372036854775808 ∧ x6 < 9223372036854775808 := by
  refine ⟨_, _, _, rfl, rfl, rfl, ?_⟩
  rw [H1 _ _ _ _ _ _ _ _ h0, H2 _ _ _ _ _ _ _ _ (by omega) (by omega), H4 _ _ _ _ _ _ _ _ (by omega) (by omega) (by omega) (by omega)]
  exact ⟨by rw [H_mod _ _ _ _ _ _ _ _ (by omega)]; omega, H_lt _ _ _ _ _ _ _ _ (by omega) (by omega) (by omega) (by omega) (by omega) (by omega) (by omega) (by omega),
    H_lt _ _ _ _ _ _ _ _ (by omega) (by omega) (by omega) (by omega) (by omega) (by omega) (by omega) (by omega), H_lt _ _ _ _ _ _ _ _ (by omega) (by omega) (by omega) (by omega) (by omega) (by omega) (by omega) (by omega)⟩
theorem pop_eq (x : Nat) (hx : x < 2 ^ 64) : pop x = pc x 64 := by
  have hs := f_sums 8 x
  have hb : ∀ y, pc y 8 ≤ 8 := fun y => pc_le y 8
  obtain ⟨x4, x5, x6, e4, e5, e6, hr, _⟩ := fold_eq _ _ _ _ _ _ _ _ (hb (x % 256)) (hb (x / 256 % 256)) (hb (x / 256 / 256 % 256)) (hb (x / 256 / 256 / 256 % 256)) (hb (x / 256 / 256 / 256 / 256 % 256)) (hb (x / 256 / 256 / 256 / 256 / 256 % 256)) (hb (x / 256 / 256 / 256 / 256 / 256 / 256 % 256)) (hb (x / 256 / 256 / 256 / 256 / 256 / 256 / 256 % 256))
  unfold pop
  simp only [x3_eq]
  simp only [Nat.shiftRight_eq_div_pow]
  have h3 : (f2 8 (f1 8 x) / 2 ^ 4 + f2 8 (f1 8 x)) &&& 1085102592571150095 = sums 8 x := by
    rw [← hs]; unfold f3; rw [mask3, Nat.shiftRight_eq_div_pow]
  rw [h3]
  have hH : sums 8 x = H (pc (x / 256 / 256 / 256 / 256 / 256 / 256 / 256 % 256) 8) (pc (x / 256 / 256 / 256 / 256 / 256 / 256 % 256) 8) (pc (x / 256 / 256 / 256 / 256 / 256 % 256) 8) (pc (x / 256 / 256 / 256 / 256 % 256) 8) (pc (x / 256 / 256 / 256 % 256) 8) (pc (x / 256 / 256 % 256) 8) (pc (x / 256 % 256) 8) (pc (x % 256) 8) := rfl
  rw [hH, show (2 ^ 8 : Nat) = 256 from rfl, show (2 ^ 16 : Nat) = 65536 from rfl, show (2 ^ 32 : Nat) = 4294967296 from rfl, ← e4, ← e5, ← e6, hr]
  have b1 := pc_bytes x 7
  have b2 := pc_bytes (x / 256) 6
  have b3 := pc_bytes (x / 256 / 256) 5
  have b4 := pc_bytes (x / 256 / 256 / 256) 4
  have b5 := pc_bytes (x / 256 / 256 / 256 / 256) 3
  have b6 := pc_bytes (x / 256 / 256 / 256 / 256 / 256) 2
  have b7 := pc_bytes (x / 256 / 256 / 256 / 256 / 256 / 256) 1
  have b8 := pc_bytes (x / 256 / 256 / 256 / 256 / 256 / 256 / 256) 0
  have b9 : pc (x / 256 / 256 / 256 / 256 / 256 / 256 / 256 / 256) (8 * 0) = 0 := rfl
  rw [show (8 * 7 + 8 : Nat) = 64 from rfl] at b1
  simp only [show (8 * 6 + 8 : Nat) = 8 * 7 from rfl, show (8 * 5 + 8 : Nat) = 8 * 6 from rfl, show (8 * 4 + 8 : Nat) = 8 * 5 from rfl, show (8 * 3 + 8 : Nat) = 8 * 4 from rfl, show (8 * 2 + 8 : Nat) = 8 * 3 from rfl, show (8 * 1 + 8 : Nat) = 8 * 2 from rfl, show (8 * 0 + 8 : Nat) = 8 * 1 from rfl] at b2 b3 b4 b5 b6 b7 b8
  omega

end Go.Proofs.YtphccomhggnccaaGreat.Pop
namespace Go.Proofs.YtphccomhggnccaaGreat.Rank
set_option maxRecDepth 100000
set_option linter.unusedVariables false
set_option linter.unusedSimpArgs false
variable {α : Type} [DecidableEq α]
def rk (l : List α) (c : α) (i : Nat) : Nat := (l.take i).count c
theorem rk_zero (l : List α) (c : α) : rk l c 0 = 0 := by simp [rk]
theorem rk_succ (l : List α) (c : α) (i : Nat) (h : i < l.length) : rk l c (i + 1) = rk l c i + if l[i] = c then 1 else 0 := by
  unfold rk
  rw [List.take_succ_eq_append_getElem h, List.count_append, List.count_singleton]
  simp [beq_iff_eq]
theorem rk_big (l : List α) (c : α) (i : Nat) (h : l.length ≤ i) : rk l c i = rk l c l.length := by
  unfold rk; rw [List.take_of_length_le h, List.take_length]
theorem rk_le (l : List α) (c : α) (i : Nat) : rk l c i ≤ i := by
  unfold rk
  exact Nat.le_trans List.count_le_length (by rw [List.length_take]; omega)
theorem rk_step (l : List α) (c : α) (i : Nat) : rk l c i ≤ rk l c (i + 1) ∧ rk l c (i + 1) ≤ rk l c i + 1 := by
  by_cases h : i < l.length
  · rw [rk_succ l c i h]; split <;> omega
  · rw [rk_big l c i (by omega), rk_big l c (i + 1) (by omega)]; omega
theorem rk_mono (l : List α) (c : α) {i j : Nat} (h : i ≤ j) : rk l c i ≤ rk l c j := by
  induction j with
  | zero => obtain rfl : i = 0 := by omega
            exact Nat.le_refl _
  | succ j ih =>
    by_cases e : i = j + 1
    · subst e; exact Nat.le_refl _
    · exact Nat.le_trans (ih (by omega)) (rk_step l c j).1
def sl (l : List α) (c : α) (k : Nat) : Option Nat := (List.range l.length).find? fun p => decide (k < rk l c (p + 1))
end Go.Proofs.YtphccomhggnccaaGreat.Rank
namespace Go.Proofs.YtphccomhggnccaaGreat.BtMath
set_option maxRecDepth 100000
set_option linter.unusedVariables false
set_option linter.unusedSimpArgs false
open PkMath Pop Rank
def bword (l : List Bool) (j : Nat) : Nat := mkbits (fun t => l.getD (64 * j + t) false) 64
def bwords (l : List Bool) : List Nat := (List.range ((l.length + 63) / 64)).map (bword l)
theorem bwords_length (l : List Bool) : (bwords l).length = (l.length + 63) / 64 := by simp [bwords]
theorem bwords_ok (l : List Bool) : ∀ x ∈ bwords l, x < 2 ^ 64 := by
  intro x hx
  obtain ⟨j, _, rfl⟩ := List.mem_map.1 hx
  exact mkbits_lt _ _
theorem bwords_getD (l : List Bool) (j : Nat) (h : j < (l.length + 63) / 64) : (bwords l).getD j 0 = bword l j := by
  simp [bwords, List.getD, List.getElem?_map, List.getElem?_range h]
theorem bt_bwords (l : List Bool) (p : Nat) : bt (bwords l) p = l.getD p false := by
  unfold bt
  have e : 64 * (p / 64) + p % 64 = p := by omega
  by_cases h : p / 64 < (l.length + 63) / 64
  · rw [bwords_getD _ _ h, bword, testBit_mkbits, e]
    have : p % 64 < 64 := by omega
    simp [this]
  · rw [List.getD, List.getElem?_eq_none (by rw [bwords_length]; omega)]
    have : ¬ p < l.length := by omega
    simp [List.getD, List.getElem?_eq_none (show l.length ≤ p by omega)]
theorem bwords_none (n : Nat) : bwords (List.replicate n false) = List.replicate ((n + 63) / 64) 0 := by
  apply words_ext
  · rw [bwords_length, List.length_replicate, List.length_replicate]
  · exact bwords_ok _
  · intro x hx; rw [(List.mem_replicate.1 hx).2]; exact Nat.two_pow_pos _
  · intro p _
    have h0 : ∀ m j : Nat, (List.replicate m 0).getD j 0 = 0 := fun m j => by
      simp only [List.getD, List.getElem?_replicate]; split <;> rfl
    have h1 : (List.replicate n false).getD p false = false := by
      simp only [List.getD, List.getElem?_replicate]; split <;> rfl
    rw [bt_bwords, h1]
    unfold bt
    rw [h0]
    simp
theorem getD_setB (l : List Bool) (i j : Nat) (h : i < l.length) : (l.set i true).getD j false = if j = i then true else l.getD j false := by
  simp only [List.getD, List.getElem?_set]
  by_cases e : j = i
  · subst e; simp [h]
  · have : ¬ i = j := fun x => e x.symm
    simp [e, this]
theorem bwords_set (l : List Bool) (i : Nat) (h : i < l.length) : bwords (l.set i true) = (bwords l).set (i / 64) ((bwords l).getD (i / 64) 0 ||| 2 ^ (i % 64)) := by
  have hlt : i / 64 < (bwords l).length := by rw [bwords_length]; omega
  have hp : 2 ^ (i % 64) < 2 ^ 64 := Nat.pow_lt_pow_right (by decide) (by omega)
  apply words_ext
  · simp [bwords_length]
  · exact bwords_ok _
  · intro x hx
    rcases List.mem_or_eq_of_mem_set hx with hx | rfl
    · exact bwords_ok l _ hx
    · exact Nat.or_lt_two_pow (getD_lt (bwords_ok l) _) hp
  · intro p _
    rw [bt_bwords, getD_setB _ _ _ h]
    have h2 := bt_bwords l p
    unfold bt at h2 ⊢
    rw [getD_set _ _ _ _ hlt]
    by_cases he : p / 64 = i / 64
    · rw [if_pos he, Nat.testBit_or, ← he, h2, Nat.testBit_two_pow]
      by_cases hpi : p = i
      · subst hpi; simp
      · have : ¬ i % 64 = p % 64 := by omega
        simp [hpi, this]
    · rw [if_neg he, h2]
      have : ¬ p = i := fun e => he (by rw [e])
      simp [this]

theorem rk_add (l : List Bool) (s n : Nat) (x : Nat) (h : ∀ t, t < n → x.testBit t = l.getD (s + t) false) (hl : s + n ≤ l.length) : rk l true (s + n) = rk l true s + pc x n := by
  induction n with
  | zero => simp [pc]
  | succ n ih =>
    have := ih (fun t ht => h t (by omega)) (by omega)
    rw [← Nat.add_assoc, rk_succ l true (s + n) (by omega), this]
    simp only [pc]
    have hb := h n (by omega)
    rw [List.getD, List.getElem?_eq_getElem (show s + n < l.length by omega)] at hb
    rw [hb]
    simp only [Option.getD_some]
    cases l[s + n]'(by omega) <;> simp <;> omega
theorem pc_zero (n : Nat) : pc 0 n = 0 := by
  induction n with
  | zero => rfl
  | succ n ih => simp [pc, ih]
def aheadN (l : List Bool) (j : Nat) : Nat := rk l true (64 * j)
theorem pc_over (x m n : Nat) (h : ∀ t, m ≤ t → x.testBit t = false) (hm : m ≤ n) : pc x n = pc x m := by
  obtain ⟨d, rfl⟩ : ∃ d, n = m + d := ⟨n - m, by omega⟩
  rw [pc_add]
  have : x / 2 ^ m = 0 := by
    apply Nat.eq_of_testBit_eq
    intro t
    rw [Nat.testBit_div_two_pow, h _ (by omega)]
    simp
  rw [this, pc_zero, Nat.add_zero]
theorem aheadN_succ (l : List Bool) (j : Nat) (h : j < (l.length + 63) / 64) : aheadN l (j + 1) = aheadN l j + pc ((bwords l).getD j 0) 64 := by
  unfold aheadN
  rw [bwords_getD _ _ h]
  have hb : ∀ t, (bword l j).testBit t = (decide (t < 64) && l.getD (64 * j + t) false) := fun t => by rw [bword, testBit_mkbits]
  by_cases hf : 64 * (j + 1) ≤ l.length
  · rw [show 64 * (j + 1) = 64 * j + 64 by omega]
    exact rk_add l _ 64 _ (fun t ht => by rw [hb]; simp [ht]) (by omega)
  · rw [rk_big l true (64 * (j + 1)) (by omega)]
    have h1 := rk_add l (64 * j) (l.length - 64 * j) (bword l j) (fun t ht => by
      rw [hb]
      have : t < 64 := by omega
      simp [this]) (by omega)
    rw [show 64 * j + (l.length - 64 * j) = l.length by omega] at h1
    rw [h1]
    congr 1
    symm
    apply pc_over
    · intro t ht
      rw [hb]
      have : l.getD (64 * j + t) false = false := by rw [List.getD, List.getElem?_eq_none (by omega)]; rfl
      rw [this]; simp
    · omega
theorem aheadN_zero (l : List Bool) : aheadN l 0 = 0 := by simp [aheadN, rk_zero]
theorem rank_word (l : List Bool) (i : Nat) (h : i ≤ l.length) : rk l true i = aheadN l (i / 64) + (if 0 < i % 64 then pc ((bwords l).getD (i / 64) 0 &&& (2 ^ (i % 64) - 1)) 64 else 0) := by
  unfold aheadN
  split
  · rename_i hr
    have hlt : i / 64 < (l.length + 63) / 64 := by omega
    rw [bwords_getD _ _ hlt]
    have hb : ∀ t, (bword l (i / 64) &&& (2 ^ (i % 64) - 1)).testBit t = ((decide (t < 64) && l.getD (64 * (i / 64) + t) false) && decide (t < i % 64)) := fun t => by
      rw [Nat.testBit_and, Nat.testBit_two_pow_sub_one, bword, testBit_mkbits]
    have h1 := rk_add l (64 * (i / 64)) (i % 64) (bword l (i / 64) &&& (2 ^ (i % 64) - 1)) (fun t ht => by
      rw [hb]
      have : t < 64 := by omega
      simp [this, ht]) (by omega)
    rw [show 64 * (i / 64) + i % 64 = i by omega] at h1
    rw [h1]
    congr 1
    symm
    apply pc_over
    · intro t ht
      rw [hb]
      have : ¬ t < i % 64 := by omega
      simp [this]
    · omega
  · rename_i hr
    rw [show 64 * (i / 64) = i by omega]; omega
theorem rk_false (l : List Bool) (i : Nat) (h : i ≤ l.length) : rk l true i + rk l false i = i := by
  induction i with
  | zero => simp [rk_zero]
  | succ i ih =>
    have := ih (by omega)
    rw [rk_succ l true i (by omega), rk_succ l false i (by omega)]
    cases l[i]'(by omega) <;> simp <;> omega
end Go.Proofs.YtphccomhggnccaaGreat.BtMath
namespace Go.Proofs.YtphccomhggnccaaGreat
set_option maxRecDepth 100000
set_option linter.unusedVariables false
set_option linter.unusedSimpArgs false
open Go.RowKit PkMath Pop Rank BtMath
theorem wrap_nat {a : Nat} (h : a < 18446744073709551616) : IntKind.u64.wrap (a : Int) = (a : Int) := by rw [IntKind.wrap_u64]; omega
theorem step_and (x d M : Nat) (hx : x < 18446744073709551616) (hM : 2 * M < 18446744073709551616) :
    IntKind.u64.wrap (bits .and .u64 ((x : Int) / (d : Int)) (M : Int) + bits .and .u64 (x : Int) (M : Int)) = (((x / d &&& M) + (x &&& M) : Nat) : Int) := by
  have h1 : x / d < 18446744073709551616 := Nat.lt_of_le_of_lt (Nat.div_le_self _ _) hx
  have h2 : x / d &&& M ≤ M := Nat.and_le_right
  have h3 : x &&& M ≤ M := Nat.and_le_right
  rw [show (x : Int) / (d : Int) = ((x / d : Nat) : Int) from (Int.natCast_ediv x d).symm, u64_and_nat _ _ h1 (by omega), u64_and_nat _ _ hx (by omega), ← Int.natCast_add]
  exact wrap_nat (by omega)
theorem step_add (x d : Nat) (hs : x + x / d < 18446744073709551616) : IntKind.u64.wrap ((x : Int) + (x : Int) / (d : Int)) = ((x + x / d : Nat) : Int) := by
  rw [show (x : Int) / (d : Int) = ((x / d : Nat) : Int) from (Int.natCast_ediv x d).symm, ← Int.natCast_add]
  exact wrap_nat hs
theorem step_add' (x d : Nat) (hs : x / d + x < 18446744073709551616) : IntKind.u64.wrap ((x : Int) / (d : Int) + (x : Int)) = ((x / d + x : Nat) : Int) := by
  rw [show (x : Int) / (d : Int) = ((x / d : Nat) : Int) from (Int.natCast_ediv x d).symm, ← Int.natCast_add]
  exact wrap_nat hs
theorem last_and (x : Nat) (hx : x < 9223372036854775808) : bits .and .i64 (wrap64 (x : Int)) 127 = ((x % 128 : Nat) : Int) := by
  have hw : wrap64 (x : Int) = (x : Int) := by unfold wrap64; omega
  rw [hw]
  have h := (bits_nat .i64 63 (by decide) (fun n h0 h1 => by rw [IntKind.wrap_i64]; have : (2 : Int) ^ 63 = 9223372036854775808 := by decide
                                                             omega) x 127 (by have : 2 ^ 63 = 9223372036854775808 := by decide
                                                                              omega) (by decide)).1
  rw [show (127 : Int) = ((127 : Nat) : Int) from rfl, h, show (127 : Nat) = 2 ^ 7 - 1 from rfl, Nat.and_two_pow_sub_one_eq_mod]

theorem pop_steps (x : Nat) (hx : x < 18446744073709551616) : ∃ x1 x2 x3 x4 x5 x6 : Nat,
    x1 = (x / 2 &&& 6148914691236517205) + (x &&& 6148914691236517205) ∧ x2 = (x1 / 4 &&& 3689348814741910323) + (x1 &&& 3689348814741910323) ∧ x3 = (x2 / 16 + x2) &&& 1085102592571150095 ∧
    x4 = x3 + x3 / 256 ∧ x5 = x4 + x4 / 65536 ∧ x6 = x5 + x5 / 4294967296 ∧ x6 % 128 = pc x 64 ∧ x6 < 9223372036854775808 := by
  refine ⟨_, _, _, _, _, _, rfl, rfl, rfl, rfl, rfl, rfl, ?_, ?_⟩
  · rw [← pop_eq x hx]
    unfold pop
    simp only [Nat.shiftRight_eq_div_pow]
  · have hle : ∀ a : Nat, (a &&& 1085102592571150095) ≤ 1085102592571150095 := fun a => Nat.and_le_right
    have h := hle (((((x / 2 &&& 6148914691236517205) + (x &&& 6148914691236517205)) / 4 &&& 3689348814741910323) + ((x / 2 &&& 6148914691236517205) + (x &&& 6148914691236517205) &&& 3689348814741910323)) / 16 + ((((x / 2 &&& 6148914691236517205) + (x &&& 6148914691236517205)) / 4 &&& 3689348814741910323) + ((x / 2 &&& 6148914691236517205) + (x &&& 6148914691236517205) &&& 3689348814741910323)))
    omega

set_option maxHeartbeats 1000000 in
theorem ones_any (x : Nat) (w : World) (hx : x < 2 ^ 64) :
    Calls Tryz.prog 154 #[.int .u64 (x : Int)] w fun e w' => e = .returned (.int .i64 ((pc x 64 : Nat) : Int)) ∧ w = w' := by
  have Hx := Lib.hid hx
  clear hx
  go_enter Tryz.func154, Tryz.ntmps154
  go_wp2_with fail
  go_ret
  refine ⟨ret_int ?_, rfl⟩
  obtain ⟨x1, x2, x3, x4, x5, x6, h1, h2, h3, h4, h5, h6, hr, hb⟩ := pop_steps x Hx.out
  have a1 := step_and x 2 6148914691236517205 Hx.out (by decide)
  rw [← h1] at a1
  have b1 : x1 ≤ 2 * 6148914691236517205 := by
    have : (x / 2 &&& 6148914691236517205) ≤ 6148914691236517205 := Nat.and_le_right
    have : (x &&& 6148914691236517205) ≤ 6148914691236517205 := Nat.and_le_right
    omega
  have a2 := step_and x1 4 3689348814741910323 (by omega) (by decide)
  rw [← h2] at a2
  have b2 : x2 ≤ 2 * 3689348814741910323 := by
    have : (x1 / 4 &&& 3689348814741910323) ≤ 3689348814741910323 := Nat.and_le_right
    have : (x1 &&& 3689348814741910323) ≤ 3689348814741910323 := Nat.and_le_right
    omega
  have a3 := step_add' x2 16 (by omega)
  have a3' := u64_and_nat (x2 / 16 + x2) 1085102592571150095 (by omega) (by decide)
  rw [← h3] at a3'
  have b3 : x3 ≤ 1085102592571150095 := by rw [h3]; exact Nat.and_le_right
  have a4 := step_add x3 256 (by omega)
  rw [← h4] at a4
  have a5 := step_add x4 65536 (by omega)
  rw [← h5] at a5
  have a6 := step_add x5 4294967296 (by omega)
  rw [← h6] at a6
  have a7 := last_and x6 hb
  rw [hr] at a7
  simp only [Int.cast_ofNat_Int] at a1 a2 a3 a3' a4 a5 a6
  rw [a1, a2, a3, a3', a4, a5, a6, a7]

def aheads (l : List Bool) (m : Nat) : List Int := (List.range m).map fun j => ((aheadN l j : Nat) : Int)
theorem aheads_length (l : List Bool) (m : Nat) : (aheads l m).length = m := by simp [aheads]
theorem aheads_getD (l : List Bool) (m j : Nat) (h : j < m) : (aheads l m).getD j 0 = ((aheadN l j : Nat) : Int) := by
  simp [aheads, List.getD, List.getElem?_map, List.getElem?_range h]
theorem aheads_succ (l : List Bool) (m : Nat) : aheads l (m + 1) = aheads l m ++ [((aheadN l m : Nat) : Int)] := by
  simp [aheads, List.range_succ]

structure BVec (w : World) (base b : Nat) (l : List Bool) : Prop where
  len : l.length ≤ 1048576
  ge : base ≤ b
  blk : ∃ g h cap cur, base ≤ g ∧ base ≤ h ∧
    w.heap[b]? = some (.cells #[.int .i64 (l.length : Int), .slice (some ⟨g, 0, none⟩) (bwords l).length (bwords l).length, .slice (some ⟨h, 0, none⟩) ((bwords l).length + 1) cap] 193 (0, 0)) ∧
    w.heap[g]? = some (.cells (U (bwords l)) 154 (0, 0)) ∧
    w.heap[h]? = some (.cells cur 3 (0, 0)) ∧ cur.toList.take ((bwords l).length + 1) = VI (aheads l ((bwords l).length + 1))
theorem BVec.keep {w w' : World} {base b : Nat} {l : List Bool} (h : BVec w base b l) (hk : ∀ k, base ≤ k → k < w.heap.size → w'.heap[k]? = w.heap[k]?) : BVec w' base b l := by
  obtain ⟨h1, h2, g, hh, cap, cur, hg, hhh, hb, hw, ha, ht⟩ := h
  exact ⟨h1, h2, g, hh, cap, cur, hg, hhh, (hk b h2 (blk_lt hb)).trans hb, (hk g hg (blk_lt hw)).trans hw, (hk hh hhh (blk_lt ha)).trans ha, ht⟩
theorem BVec.below {w w' : World} {base b : Nat} {l : List Bool} (h : BVec w base b l) (hb : Below w.heap.size w w') : BVec w' base b l :=
  h.keep fun k _ hk => hb.block k hk
theorem BVec.drewN {w : World} {base b : Nat} {l : List Bool} (h : BVec w base b l) (n : Nat) : BVec (w.drewN n) base b l := h.keep fun _ _ _ => rfl
theorem BVec.drew {w : World} {base b : Nat} {l : List Bool} (h : BVec w base b l) : BVec w.drew base b l := h.keep fun _ _ _ => rfl
theorem BVec.mono {w : World} {base base' b : Nat} {l : List Bool} (h : BVec w base b l) (hb : base' ≤ base) : BVec w base' b l := by
  obtain ⟨h1, h2, g, hh, cap, cur, hg, hhh, r⟩ := h
  exact ⟨h1, by omega, g, hh, cap, cur, by omega, by omega, r⟩
theorem BVec.lt {w : World} {base b : Nat} {l : List Bool} (h : BVec w base b l) : b < w.heap.size := by
  obtain ⟨h1, h2, g, hh, cap, cur, hg, hhh, hb, r⟩ := h
  exact blk_lt hb
theorem BVec.c0 {w : World} {base b : Nat} {l : List Bool} (h : BVec w base b l) : w.cell? ⟨b, 0, none⟩ = some (.int .i64 (l.length : Int)) := by
  obtain ⟨h1, h2, g, hh, cap, cur, hg, hhh, hb, r⟩ := h
  rw [cell_blk hb]; rfl

theorem blen_cell (b : Nat) (n : Int) (w : World) (h1 : w.cell? ⟨b, 0, none⟩ = some (.int .i64 n)) :
    Calls Tryz.prog 151 #[.pointer (some ⟨b, 0, none⟩)] w fun e w' => e = .returned (.int .i64 n) ∧ w = w' := by
  go_enter Tryz.func151, Tryz.ntmps151
  go_wp2
  go_ret
  exact ⟨rfl, rfl⟩

theorem bit_get (x t : Nat) (hx : x < 2 ^ 64) : bits BinOp.and IntKind.u64 ((x : Int) / 2 ^ t) 1 = (((x.testBit t).toNat : Nat) : Int) := by
  have hs : (x : Int) / 2 ^ t = ((x / 2 ^ t : Nat) : Int) := by rw [Int.natCast_ediv, Int.natCast_pow]; rfl
  rw [hs]
  have := u64_and_nat (x / 2 ^ t) 1 (Nat.lt_of_le_of_lt (Nat.div_le_self _ _) hx) (by decide)
  rw [show ((1 : Int)) = ((1 : Nat) : Int) from rfl, this]
  congr 1
  rw [Nat.and_one_is_mod, Nat.toNat_testBit]

theorem bget_any {w : World} {base b : Nat} {l : List Bool} (h : BVec w base b l) (i : Int) :
    Calls Tryz.prog 111 #[.pointer (some ⟨b, 0, none⟩), .int .i64 i] w fun e w' => e = .returned (.bool (decide (0 ≤ i) && l.getD i.toNat false)) ∧ w = w' := by
  have hc0 := h.c0
  have hlen := h.len
  by_cases hneg : i < 0
  · have hd : decide (0 ≤ i) = false := by simp; omega
    rw [hd]
    go_enter Tryz.func111, Tryz.ntmps111
    go_wp2_with (go_at_call 151; refine (blen_cell _ _ _ hc0).mono ?_; rintro e w' ⟨rfl, rfl⟩)
    go_ret
    exact ⟨rfl, rfl⟩
  · obtain ⟨j, rfl⟩ : ∃ j : Nat, i = (j : Int) := ⟨i.toNat, by omega⟩
    have hd : decide ((0 : Int) ≤ (j : Int)) = true := by simp
    rw [hd, Int.toNat_natCast, Bool.true_and]
    by_cases hout : l.length ≤ j
    · have hf : l.getD j false = false := by rw [List.getD, List.getElem?_eq_none hout]; rfl
      rw [hf]
      clear hd
      go_enter Tryz.func111, Tryz.ntmps111
      go_wp2_with (go_at_call 151; refine (blen_cell _ _ _ hc0).mono ?_; rintro e w' ⟨rfl, rfl⟩)
      go_ret
      exact ⟨rfl, rfl⟩
    · obtain ⟨_, h2, g, hh, cap, cur, hg, hhh, hb, hw, ha, ht⟩ := h
      have hc1 : w.cell? ⟨b, 1, none⟩ = some (.slice (some ⟨g, 0, none⟩) (bwords l).length (bwords l).length) := by rw [cell_blk hb]; rfl
      have hWl := bwords_length l
      have hjW : j / 64 < (bwords l).length := by omega
      have hcw : w.cell? ⟨g, j / 64, none⟩ = some (.int .u64 (((bwords l).getD (j / 64) 0 : Nat) : Int)) := by rw [cell_blk hw, U_get _ _ hjW]
      have hx := getD_lt (bwords_ok l) (j / 64)
      have hbt := bt_bwords l j
      unfold bt at hbt
      have hbg := bit_get _ (j % 64) hx
      rw [hbt] at hbg
      generalize (bwords l).getD (j / 64) 0 = x at *
      generalize (bwords l).length = W at *
      generalize hn : l.length = n at *
      have hbe : (bits BinOp.and IntKind.u64 ((x : Int) / 2 ^ (j % 64)) 1 == 1) = l.getD j false := by
        rw [hbg]; cases l.getD j false <;> rfl
      have Hbe := Lib.hid hbe
      have hmin : min (j % 64) 64 = j % 64 := by omega
      clear hbg hbt hx hWl hb hw ha ht hd hn hbe
      go_enter Tryz.func111, Tryz.ntmps111
      go_wp2_with (go_at_call 151; refine (blen_cell _ _ _ hc0).mono ?_; rintro e w' ⟨rfl, rfl⟩)
      go_ret
      exact ⟨ret_bool Hbe.out, rfl⟩

theorem ones_still (x : Nat) (w : World) (hx : x < 2 ^ 64) :
    Calls Tryz.prog 154 #[.int .u64 (x : Int)] w fun e w' => e = .returned (.int .i64 ((pc x 64 : Nat) : Int)) ∧ w' = w :=
  (ones_any x w hx).mono fun _ _ ⟨h, h'⟩ => ⟨h, h'.symm⟩
theorem low_and (x t : Nat) (hx : x < 2 ^ 64) (ht : t < 64) : bits BinOp.and IntKind.u64 (x : Int) (IntKind.u64.wrap ((2 : Int) ^ t - 1)) = ((x &&& (2 ^ t - 1) : Nat) : Int) := by
  have h1 : 2 ^ t < 2 ^ 64 := Nat.pow_lt_pow_right (by decide) ht
  have h2 := Nat.two_pow_pos t
  have e : ((2 : Int) ^ t - 1) = ((2 ^ t - 1 : Nat) : Int) := by
    rw [Int.natCast_sub h2, Int.natCast_pow]; rfl
  rw [e, wrap_nat (by omega), u64_and_nat _ _ hx (by omega)]

set_option maxHeartbeats 1000000 in
theorem rank_at {w : World} {base b : Nat} {l : List Bool} (h : BVec w base b l) (c : Bool) (i : Int) (j : Nat) (hj1 : 1 ≤ j) (hjn : j ≤ l.length) (hi : (i = (j : Int) ∧ j < l.length) ∨ ((l.length : Int) ≤ i ∧ j = l.length)) :
    Calls Tryz.prog 113 #[.pointer (some ⟨b, 0, none⟩), .bool c, .int .i64 i] w fun e w' => e = .returned (.int .i64 ((rk l c j : Nat) : Int)) ∧ ∃ n, w' = w.drewN n := by
  have hc0 := h.c0
  have hlen := h.len
  obtain ⟨_, h2, g, hh, cap, cur, hg, hhh, hb, hw, ha, ht⟩ := h
  have hc1 : w.cell? ⟨b, 1, none⟩ = some (.slice (some ⟨g, 0, none⟩) (bwords l).length (bwords l).length) := by rw [cell_blk hb]; rfl
  have hc2 : w.cell? ⟨b, 2, none⟩ = some (.slice (some ⟨hh, 0, none⟩) ((bwords l).length + 1) cap) := by rw [cell_blk hb]; rfl
  have hWl := bwords_length l
  have hjW : j / 64 < (bwords l).length + 1 := by omega
  have hca : w.cell? ⟨hh, j / 64, none⟩ = some (.int .i64 ((aheadN l (j / 64) : Nat) : Int)) := by
    rw [cell_blk ha]
    have h5 := VI_get (aheads l ((bwords l).length + 1)) (j / 64) (by rw [aheads_length]; exact hjW)
    rw [← ht, List.getElem?_take, if_pos hjW, aheads_getD _ _ _ hjW] at h5
    simpa using h5
  have hrw := rank_word l j hjn
  have hrf := rk_false l j hjn
  have hal : aheadN l (j / 64) ≤ j := Nat.le_trans (rk_le l true (64 * (j / 64))) (by omega)
  have hjb : ((j : Int) == 0) = false := by rw [beq_eq_false_iff_ne]; omega
  have hmx : max (j : Int) 0 = (j : Int) := by omega
  by_cases hr : 0 < j % 64
  · rw [if_pos hr] at hrw
    have hjW2 : j / 64 < (bwords l).length := by omega
    have hcw : w.cell? ⟨g, j / 64, none⟩ = some (.int .u64 (((bwords l).getD (j / 64) 0 : Nat) : Int)) := by rw [cell_blk hw, U_get _ _ hjW2]
    have hx := getD_lt (bwords_ok l) (j / 64)
    have hand := low_and ((bwords l).getD (j / 64) 0) (j % 64) hx (by omega)
    have hxa : ((bwords l).getD (j / 64) 0 &&& (2 ^ (j % 64) - 1)) < 2 ^ 64 := Nat.lt_of_le_of_lt Nat.and_le_left hx
    have hpc := pc_le ((bwords l).getD (j / 64) 0 &&& (2 ^ (j % 64) - 1)) 64
    generalize ((bwords l).getD (j / 64) 0 &&& (2 ^ (j % 64) - 1)) = y at *
    generalize (bwords l).getD (j / 64) 0 = x at *
    generalize (bwords l).length = W at *
    generalize l.length = n at *
    generalize aheadN l (j / 64) = A at *
    have Hrw := Lib.hid hrw
    have Hrf := Lib.hid hrf
    have Hxa := Lib.hid hxa
    have e1 : ((j : Int) / 64).toNat = j / 64 := by omega
    have e2 : ((j : Int) % 64).toNat = j % 64 := by omega
    have e3 : (0 : Int) ≤ (j : Int) / 64 := by omega
    have e4 : (j : Int) / 64 < (W : Int) := by omega
    have e5 : ¬ ((j : Int) % 64 < 0) := by omega
    have e6 : min (j % 64) 64 = j % 64 := by omega
    have f1 : ((j : Int)).tdiv 64 = (j : Int) / 64 := Int.tdiv_eq_ediv_of_nonneg (by omega)
    have f2 : ((j : Int)).tmod 64 = (j : Int) % 64 := Int.tmod_eq_emod_of_nonneg (by omega)
    have f3 : IntKind.i64.wrap ((j : Int) / 64) = (j : Int) / 64 := IntWalk.i64_in _ (by omega)
    have f4 : IntKind.u64.wrap ((2 : Int) ^ (j % 64)) = (2 : Int) ^ (j % 64) := by
      have h1 : 2 ^ (j % 64) < 2 ^ 64 := Nat.pow_lt_pow_right (by decide) (by omega)
      have e : ((2 : Int) ^ (j % 64)) = ((2 ^ (j % 64) : Nat) : Int) := by rw [Int.natCast_pow]; rfl
      rw [e]; exact wrap_nat (by omega)
    have Hr := Lib.hid hr
    clear hrw hrf hxa hb hw ha ht hx hWl
    rcases hi with ⟨rfl, hi⟩ | ⟨hi, rfl⟩
    all_goals cases c
    all_goals
      go_enter Tryz.func113, Tryz.ntmps113
      go_wp2_with (go_at_call 151; refine (blen_cell _ _ _ hc0).mono ?_; rintro e w' ⟨rfl, rfl⟩)
      go_quiet ((go_at_call 154; exact Calls.quiet_of_same (ones_still y _ Hxa.out)))
      go_wp2_with fail
      go_ret
      refine ⟨ret_int ?_, _, rfl⟩
      have := Hrw.out
      have := Hrf.out
      omega
  · rw [if_neg hr, Nat.add_zero] at hrw
    generalize (bwords l).length = W at *
    generalize l.length = n at *
    generalize aheadN l (j / 64) = A at *
    have Hrw := Lib.hid hrw
    have Hrf := Lib.hid hrf
    clear hrw hrf hb hw ha ht hWl
    rcases hi with ⟨rfl, hi⟩ | ⟨hi, rfl⟩
    all_goals cases c
    all_goals
      go_enter Tryz.func113, Tryz.ntmps113
      go_wp2_with (go_at_call 151; refine (blen_cell _ _ _ hc0).mono ?_; rintro e w' ⟨rfl, rfl⟩)
      go_ret
      refine ⟨ret_int ?_, 0, rfl⟩
      have := Hrw.out
      have := Hrf.out
      omega

end Go.Proofs.YtphccomhggnccaaGreat
namespace Go.Proofs.YtphccomhggnccaaGreat
set_option maxRecDepth 100000
set_option linter.unusedVariables false
set_option linter.unusedSimpArgs false
open Go.RowKit PkMath Pop Rank BtMath
theorem rank_low {w : World} {base b : Nat} {l : List Bool} (h : BVec w base b l) (c : Bool) (i : Int) (hi : i ≤ 0 ∨ l.length = 0) :
    Calls Tryz.prog 113 #[.pointer (some ⟨b, 0, none⟩), .bool c, .int .i64 i] w fun e w' => e = .returned (.int .i64 0) ∧ ∃ n, w' = w.drewN n := by
  have hc0 := h.c0
  generalize l.length = n at *
  by_cases h1 : i < 0
  · clear hi
    by_cases hn : n = 0
    all_goals
      go_enter Tryz.func113, Tryz.ntmps113
      go_wp2_with (go_at_call 151; refine (blen_cell _ _ _ hc0).mono ?_; rintro e w' ⟨rfl, rfl⟩)
      go_ret
      exact ⟨rfl, 0, rfl⟩
  · by_cases h2 : i = 0
    · subst h2
      clear hi
      by_cases hn : 0 < n
      · go_enter Tryz.func113, Tryz.ntmps113
        go_wp2_with (go_at_call 151; refine (blen_cell _ _ _ hc0).mono ?_; rintro e w' ⟨rfl, rfl⟩)
        go_ret
        exact ⟨rfl, 0, rfl⟩
      · obtain rfl : n = 0 := by omega
        go_enter Tryz.func113, Tryz.ntmps113
        go_wp2_with (go_at_call 151; refine (blen_cell _ _ _ hc0).mono ?_; rintro e w' ⟨rfl, rfl⟩)
        go_ret
        exact ⟨rfl, 0, rfl⟩
    · obtain rfl : n = 0 := by omega
      have h3 : 0 < i := by omega
      clear hi h1 h2
      go_enter Tryz.func113, Tryz.ntmps113
      go_wp2_with (go_at_call 151; refine (blen_cell _ _ _ hc0).mono ?_; rintro e w' ⟨rfl, rfl⟩)
      go_ret
      exact ⟨rfl, 0, rfl⟩
theorem rank_any {w : World} {base b : Nat} {l : List Bool} (h : BVec w base b l) (c : Bool) (i : Int) :
    Calls Tryz.prog 113 #[.pointer (some ⟨b, 0, none⟩), .bool c, .int .i64 i] w fun e w' => e = .returned (.int .i64 ((rk l c i.toNat : Nat) : Int)) ∧ ∃ n, w' = w.drewN n := by
  by_cases hlow : i ≤ 0 ∨ l.length = 0
  · refine (rank_low h c i hlow).mono fun e w' ⟨he, hw⟩ => ⟨?_, hw⟩
    rw [he]
    refine ret_int ?_
    rcases hlow with h1 | h1
    · rw [show i.toNat = 0 by omega, rk_zero]; rfl
    · rw [rk_big l c i.toNat (by omega), h1, rk_zero]; rfl
  · obtain ⟨j, rfl⟩ : ∃ j : Nat, i = (j : Int) := ⟨i.toNat, by omega⟩
    by_cases hj : j < l.length
    · exact rank_at h c (j : Int) j (by omega) (by omega) (.inl ⟨rfl, hj⟩)
    · have := rank_at h c (j : Int) l.length (by omega) (Nat.le_refl _) (.inr ⟨by omega, rfl⟩)
      rw [Int.toNat_natCast, rk_big l c j (by omega)]
      exact this
end Go.Proofs.YtphccomhggnccaaGreat
namespace Go.Proofs.YtphccomhggnccaaGreat
set_option maxRecDepth 100000
set_option linter.unusedVariables false
set_option linter.unusedSimpArgs false
open Go.RowKit PkMath Pop Rank BtMath
def IntBelow (r : Int) (w : World) (e : Ending) (w' : World) : Prop := e = .returned (.int .i64 r) ∧ Below w.heap.size w w'

theorem below3 (w : World) (o1 o2 o3 : Obj) (n : Nat) : Below w.heap.size w ((((w.alloc o1).alloc o2).alloc o3).drewN n) :=
  ((((Below.refl w.heap.size w).alloc (Nat.le_refl _) o1).alloc (by simp) o2).alloc (by simp; omega) o3).trans (below_drewN _ _ _)
theorem new1 (w : World) (o1 o2 o3 : Obj) : (((w.alloc o1).alloc o2).alloc o3).heap[w.heap.size]? = some o1 := blk_alloc (blk_alloc (heap_alloc_new w o1) o2) o3
theorem new2 (w : World) (o1 o2 o3 : Obj) : (((w.alloc o1).alloc o2).alloc o3).heap[w.heap.size + 1]? = some o2 := by
  have := heap_alloc_new (w.alloc o1) o2
  exact blk_alloc (by simpa using this) o3
theorem new3 (w : World) (o1 o2 o3 : Obj) : (((w.alloc o1).alloc o2).alloc o3).heap[w.heap.size + 2]? = some o3 := by
  have := heap_alloc_new ((w.alloc o1).alloc o2) o3
  simpa using this
end Go.Proofs.YtphccomhggnccaaGreat
namespace Go.Proofs.YtphccomhggnccaaGreat
set_option maxRecDepth 100000
set_option linter.unusedVariables false
set_option linter.unusedSimpArgs false
open Go.RowKit PkMath Pop Rank BtMath
structure Mk (w : World) (nb vb bs bw : Nat) (l : List Bool) : Prop where
  n : w.heap[nb]? = some (.cells #[.int .i64 (l.length : Int)] 3 (0, 0))
  v : w.heap[vb]? = some (.cells #[.pointer (some ⟨bs, 0, none⟩)] 110 (0, 0))
  s : w.heap[bs]? = some (.cells #[.int .i64 (l.length : Int), .slice (some ⟨bw, 0, none⟩) (bwords l).length (bwords l).length, .slice none 0 0] 193 (0, 0))
  ws : w.heap[bw]? = some (.cells (U (bwords l)) 154 (0, 0))
  len : l.length ≤ 1048576
  ne1 : ¬ nb = bw
  ne2 : ¬ vb = bw
  ne3 : ¬ bs = bw
theorem Mk.keep {w w' : World} {nb vb bs bw : Nat} {l : List Bool} (h : Mk w nb vb bs bw l) (h1 : w'.heap[nb]? = w.heap[nb]?) (h2 : w'.heap[vb]? = w.heap[vb]?) (h3 : w'.heap[bs]? = w.heap[bs]?) (h4 : w'.heap[bw]? = w.heap[bw]?) : Mk w' nb vb bs bw l :=
  ⟨h1.trans h.n, h2.trans h.v, h3.trans h.s, h4.trans h.ws, h.len, h.ne1, h.ne2, h.ne3⟩
theorem Mk.drewN {w : World} {nb vb bs bw : Nat} {l : List Bool} (h : Mk w nb vb bs bw l) (n : Nat) : Mk (w.drewN n) nb vb bs bw l := h.keep rfl rfl rfl rfl

def Laid (w : World) (nb vb bs bw : Nat) (l : List Bool) (e : Ending) (w' : World) : Prop :=
  e = .returned (.tuple #[]) ∧ Mk w' nb vb bs bw l ∧ w.grownBy w' (some bw)
def laid (l : List Bool) (i : Int) : List Bool := if 0 ≤ i ∧ i < (l.length : Int) then l.set i.toNat true else l
theorem laid_length (l : List Bool) (i : Int) : (laid l i).length = l.length := by unfold laid; split <;> simp

theorem or_bit (x t : Nat) (hx : x < 2 ^ 64) (ht : t < 64) : bits BinOp.or IntKind.u64 (x : Int) (IntKind.u64.wrap ((2 : Int) ^ t)) = ((x ||| 2 ^ t : Nat) : Int) := by
  have h1 : 2 ^ t < 2 ^ 64 := Nat.pow_lt_pow_right (by decide) ht
  have e : ((2 : Int) ^ t) = ((2 ^ t : Nat) : Int) := by rw [Int.natCast_pow]; rfl
  rw [e, wrap_nat (by omega), u64_or_nat _ _ hx (by omega)]

set_option maxHeartbeats 1000000 in
theorem set_bit {w : World} {nb vb bs bw : Nat} {l : List Bool} (h : Mk w nb vb bs bw l) (i : Int) :
    Calls Tryz.prog 216 #[.int .i64 i, .pointer (some ⟨nb, 0, none⟩), .pointer (some ⟨vb, 0, none⟩)] w (Laid w nb vb bs bw (laid l i)) := by
  have hn : w.cell? ⟨nb, 0, none⟩ = some (.int .i64 (l.length : Int)) := (cell_blk h.n 0).trans rfl
  have hlen := h.len
  by_cases hneg : i < 0
  · have hl : laid l i = l := by unfold laid; rw [if_neg (by omega)]
    rw [hl]
    clear hl
    go_enter Tryz.func216, Tryz.ntmps216
    go_wp2_with fail
    go_end0
    exact ⟨rfl, h, grown_refl _ _⟩
  obtain ⟨j, rfl⟩ : ∃ j : Nat, i = (j : Int) := ⟨i.toNat, by omega⟩
  by_cases hout : l.length ≤ j
  · have hl : laid l (j : Int) = l := by unfold laid; rw [if_neg (by omega)]
    rw [hl]
    clear hl
    go_enter Tryz.func216, Tryz.ntmps216
    go_wp2_with fail
    go_end0
    exact ⟨rfl, h, grown_refl _ _⟩
  · have hl : laid l (j : Int) = l.set j true := by unfold laid; rw [if_pos (by omega), Int.toNat_natCast]
    rw [hl]
    have hv : w.cell? ⟨vb, 0, none⟩ = some (.pointer (some ⟨bs, 0, none⟩)) := (cell_blk h.v 0).trans rfl
    have hs : w.cell? ⟨bs, 1, none⟩ = some (.slice (some ⟨bw, 0, none⟩) (bwords l).length (bwords l).length) := (cell_blk h.s 1).trans rfl
    have hWl := bwords_length l
    have hjW : j / 64 < (bwords l).length := by omega
    have hcw : w.cell? ⟨bw, j / 64, none⟩ = some (.int .u64 (((bwords l).getD (j / 64) 0 : Nat) : Int)) := by rw [cell_blk h.ws, U_get _ _ hjW]
    have hfr : w.frozen? ⟨bw, j / 64, none⟩ = false := frozen_blk h.ws _
    have Hx := Lib.hid (getD_lt (bwords_ok l) (j / 64))
    have Hset := Lib.hid (bwords_set l j (by omega))
    have HwsEq : Hid ((bwords (l.set j true)).length = (bwords l).length) := by rw [bwords_length, bwords_length, List.length_set]; rfl
    generalize (bwords l).getD (j / 64) 0 = x at *
    generalize hW : (bwords l).length = W at *
    generalize hn' : l.length = n at *
    have Hn := Lib.hid hn'
    have HW := Lib.hid hW
    have e1 : ((j : Int) / 64).toNat = j / 64 := by omega
    have e2 : ((j : Int) % 64).toNat = j % 64 := by omega
    have e3 : (0 : Int) ≤ (j : Int) / 64 := by omega
    have e4 : (j : Int) / 64 < (W : Int) := by omega
    have e5 : ¬ ((j : Int) % 64 < 0) := by omega
    have e6 : min (j % 64) 64 = j % 64 := by omega
    have f1 : ((j : Int)).tdiv 64 = (j : Int) / 64 := Int.tdiv_eq_ediv_of_nonneg (by omega)
    have f2 : ((j : Int)).tmod 64 = (j : Int) % 64 := Int.tmod_eq_emod_of_nonneg (by omega)
    have f3 : IntKind.i64.wrap ((j : Int) / 64) = (j : Int) / 64 := IntWalk.i64_in _ (by omega)
    have f4 : IntKind.u64.wrap ((2 : Int) ^ (j % 64)) = (2 : Int) ^ (j % 64) := by
      have h1 : 2 ^ (j % 64) < 2 ^ 64 := Nat.pow_lt_pow_right (by decide) (by omega)
      have e : ((2 : Int) ^ (j % 64)) = ((2 ^ (j % 64) : Nat) : Int) := by rw [Int.natCast_pow]; rfl
      rw [e]; exact wrap_nat (by omega)
    clear hl hWl hn' hW
    go_enter Tryz.func216, Tryz.ntmps216
    go_wp2_with fail
    refine wp_region_still_tail 12 (by kernel_rfl) (by kernel_rfl) ?_
    simp only [List.take_succ_cons, List.take_zero, List.drop_succ_cons, List.drop_zero]
    change wpStill _ _ w.drew (fun a' => wpList _ _ _ _ a' w.drew) _ _
    repeat still_step
    refine wpStill_nil ?_
    go_wp2_with fail
    go_end0
    have hob := or_bit x (j % 64) Hx.out (by omega)
    rw [f4] at hob
    rw [hob]
    have hset := Hset.out
    refine ⟨rfl, ⟨?_, ?_, ?_, ?_, by rw [List.length_set, Hn.out]; exact hlen, h.ne1, h.ne2, h.ne3⟩, grown_trans (grown_drew w _) (grown_set _ _ _ _)⟩
    · rw [List.length_set]; exact blk_other h.n h.ne1 _ _
    · exact blk_other h.v h.ne2 _ _
    · rw [List.length_set, HwsEq.out, ← HW.out]; exact blk_other h.s h.ne3 _ _
    · have := blk_set (w := w.drew) h.ws (j / 64) (.int .u64 ((x ||| 2 ^ (j % 64) : Nat) : Int))
      rw [U_set, ← hset] at this
      exact this

end Go.Proofs.YtphccomhggnccaaGreat
namespace Go.Proofs.YtphccomhggnccaaGreat
set_option maxRecDepth 100000
set_option linter.unusedVariables false
set_option linter.unusedSimpArgs false
open Go.RowKit PkMath Pop Rank BtMath
def MadeVec (w : World) (l : List Bool) (e : Ending) (w' : World) : Prop :=
  ∃ b, e = .returned (.pointer (some ⟨b, 0, none⟩)) ∧ BVec w' w.heap.size b l ∧ Below w.heap.size w w'

theorem at4 (w : World) (o1 o2 o3 o4 : Obj) : (((((w.alloc o1).alloc o2).alloc o3).alloc o4).heap[w.heap.size]? = some o1 ∧ ((((w.alloc o1).alloc o2).alloc o3).alloc o4).heap[w.heap.size + 1]? = some o2 ∧
    ((((w.alloc o1).alloc o2).alloc o3).alloc o4).heap[w.heap.size + 1 + 1]? = some o3 ∧ ((((w.alloc o1).alloc o2).alloc o3).alloc o4).heap[w.heap.size + 1 + 1 + 1]? = some o4) ∧ Below w.heap.size w ((((w.alloc o1).alloc o2).alloc o3).alloc o4) := by
  refine ⟨⟨blk_alloc (new1 w o1 o2 o3) o4, blk_alloc (new2 w o1 o2 o3) o4, blk_alloc (new3 w o1 o2 o3) o4, ?_⟩, (below3 w o1 o2 o3 0).alloc (by simp [World.drewN]; omega) o4⟩
  have := heap_alloc_new (((w.alloc o1).alloc o2).alloc o3) o4
  simpa using this
theorem own_ne {w : World} {base : Nat} {e : TypeId} {v : Value} {n : Nat} {xs : List Value} (h : w.ownsRow base e 1 v n xs) {b : Nat} {cs : Array Value} {t : TypeId} {fr : Nat × Nat} (hb : w.heap[b]? = some (.cells cs t fr)) (ht : t ≠ e) : some b ≠ v.ownBlock := by
  intro he
  rcases h.2 with ⟨rfl, _⟩ | ⟨g, cap, cur, rfl, _, hg, _⟩
  · cases he
  · injection he with he
    subst he
    rw [hb] at hg
    injection hg with hg
    injection hg with _ h2 _
    exact ht h2
def Ah (w : World) (base vb bs bw : Nat) (l : List Bool) (j : Nat) : Prop :=
  w.heap[vb]? = some (.cells #[.pointer (some ⟨bs, 0, none⟩)] 110 (0, 0)) ∧
  (∃ va, w.heap[bs]? = some (.cells #[.int .i64 (l.length : Int), .slice (some ⟨bw, 0, none⟩) (bwords l).length (bwords l).length, va] 193 (0, 0)) ∧ w.ownsRow base 3 1 va j (VI (aheads l j))) ∧
  w.heap[bw]? = some (.cells (U (bwords l)) 154 (0, 0))
theorem ah_step {w2 : World} {base vb bs bw : Nat} {L : List Bool} {j : Nat} {va : Value} {A2 : Option Addr} {c2 : Nat}
    (hv2 : w2.heap[vb]? = some (.cells #[.pointer (some ⟨bs, 0, none⟩)] 110 (0, 0)))
    (hs2 : w2.heap[bs]? = some (.cells #[.int .i64 (L.length : Int), .slice (some ⟨bw, 0, none⟩) (bwords L).length (bwords L).length, va] 193 (0, 0)))
    (hw2 : w2.heap[bw]? = some (.cells (U (bwords L)) 154 (0, 0)))
    (hown : w2.ownsRow base 3 1 (.slice A2 (aheads L j ++ [((aheadN L j : Nat) : Int)]).length c2) (aheads L j ++ [((aheadN L j : Nat) : Int)]).length (VI (aheads L j ++ [((aheadN L j : Nat) : Int)])))
    (hvs : ¬ vb = bs) (hbs2 : ¬ bw = bs) :
    Ah (w2.setCell ⟨bs, 2, none⟩ (.slice A2 ((aheads L j).length + 1) c2)) base vb bs bw L (j + 1) := by
  have hne : some bs ≠ (Value.slice A2 (aheads L j ++ [((aheadN L j : Nat) : Int)]).length c2).ownBlock := own_ne hown hs2 (by decide)
  refine ⟨blk_other hv2 hvs _ _, ⟨_, blk_set hs2 2 _, ?_⟩, blk_other hw2 hbs2 _ _⟩
  have hk := World.ownsRow.kept hown (grown_set w2 bs 2 (.slice A2 ((aheads L j).length + 1) c2)) (.inr (fun e => hne e.symm))
  rw [← aheads_succ] at hk
  simp only [aheads_length] at hk ⊢
  exact hk
theorem below_cell {w w2 : World} {B bs : Nat} (h : Below B w w2) (hb : B ≤ bs) (j : Nat) (v : Value) (hB : w.heap.size = B) : Below B w (w2.setCell ⟨bs, j, none⟩ v) :=
  h.grown (grown_set w2 bs j v) (by have := h.size; omega) (fun q hq => by injection hq with hq; omega)
theorem ah_bvec {w : World} {base vb bs bw : Nat} {L : List Bool} (h : Ah w base vb bs bw L ((bwords L).length + 1)) (hlen : L.length ≤ 1048576) (hb : base ≤ bs) (hbw : base ≤ bw) : BVec w base bs L := by
  obtain ⟨hv, ⟨va, hs, hown⟩, hw⟩ := h
  rcases hown.2 with ⟨_, h0⟩ | ⟨g, cap, cur, rfl, hg, hgb, hn, hm, hsz, ht⟩
  · omega
  · exact ⟨hlen, hb, bw, g, cap, cur, hbw, hg, hs, hw, hgb, by rw [Nat.mul_one] at ht; exact ht⟩
def MkPost (w : World) (n : Nat) (s5 : Value) (wx : World) : Prop :=
  ∃ vb bs bw : Nat, s5 = .pointer (some ⟨vb, 0, none⟩) ∧ w.heap.size < vb ∧ w.heap.size < bs ∧ w.heap.size < bw ∧ Mk wx w.heap.size vb bs bw (List.replicate n false) ∧ Below w.heap.size w wx
set_option maxRecDepth 100000 in
set_option maxHeartbeats 2000000 in
theorem made_any (w : World) (n0 : Int) (n : Nat) (g cb : Nat) (hent : ∀ (args : Array Value) (wx : World), (callFunc g args).run Tryz.prog wx = .ok (.enter g args) wx) (L : List Bool) (hLn : L.length = n) (hn : n < 1048576) (hn0 : (n0 < 0 ∧ n = 0) ∨ n0 = (n : Int))
    (hlay : ∀ (W : World) (nb vb bs bw : Nat), w.heap.size ≤ nb → w.heap.size ≤ vb → w.heap.size ≤ bs → w.heap.size ≤ bw → Mk W nb vb bs bw (List.replicate n false) → Below w.heap.size w W →
      Calls Tryz.prog g #[.func (.func 216) #[] #[.pointer (some ⟨nb, 0, none⟩), .pointer (some ⟨vb, 0, none⟩)], .pointer (some ⟨cb, 0, none⟩)] W (Laid W nb vb bs bw L)) :
    Calls Tryz.prog 193 #[.int .i64 n0, .func (.func g) #[] #[.pointer (some ⟨cb, 0, none⟩)]] w (MadeVec w L) := by
  have HL := Lib.hid hlay
  have HLn := Lib.hid hLn
  obtain ⟨M, hM⟩ : ∃ M, (n + 63) / 64 = M := ⟨_, rfl⟩
  have hMb : M ≤ 16384 := by omega
  have hdiv : ((n : Int) + 64 - 1) / 64 = (M : Int) := by omega
  have hdiv2 : ((n : Int) + 63) / 64 = (M : Int) := by omega
  have hmk := make_u64 M (by omega)
  have HM := Lib.hid hM
  clear hlay hLn hM
  have hN : Hid ((List.replicate n false).length = n) := List.length_replicate
  have hW0 : Hid (bwords (List.replicate n false) = List.replicate M 0) := by
    have := bwords_none n
    rw [HM.out] at this
    exact this
  go_enter Tryz.func193, Tryz.ntmps193
  go_upto_region 1 with fail
  go_cut [2] (fun s2 wx => s2 = .pointer (some ⟨w.heap.size, 0, none⟩) ∧ wx = w.alloc (.cells #[.int .i64 (n : Int)] 3))
  case first =>
    rcases hn0 with ⟨h1, rfl⟩ | rfl
    · go_wp2_with fail
      go_meet
      case rel => exact ⟨rfl, rfl⟩
    · by_cases hz : n = 0
      · subst hz
        go_wp2_with fail
        go_meet
        case rel => exact ⟨rfl, rfl⟩
      · have hz2 : 0 < n := by omega
        clear hz
        go_wp2_with fail
        go_meet
        case rel => exact ⟨rfl, rfl⟩
  case rest =>
    clear hn0
    obtain ⟨rfl, rfl⟩ := hcut
    go_upto_region 2 with fail
    go_cut [5] (fun s5 wx => MkPost w n s5 wx)
    case first =>
      go_region
      all_goals
        go_wp2_with fail
        go_meet
      case rel =>
        obtain ⟨⟨a1, a2, a3, a4⟩, hB⟩ := at4 w (.cells #[.int .i64 (n : Int)] 3) (.cells (U (List.replicate M 0)) 154) (.cells #[.int .i64 (n : Int), .slice (some ⟨w.heap.size + 1, 0, none⟩) M M, .slice none 0 0] 193) (.cells #[.pointer (some ⟨w.heap.size + 1 + 1, 0, none⟩)] 110)
        refine ⟨_, w.heap.size + 1 + 1, w.heap.size + 1, rfl, by omega, by omega, by omega, ⟨by rw [hN.out]; exact a1, a4, by rw [hN.out, hW0.out, List.length_replicate]; exact a3, by rw [hW0.out]; exact a2, by rw [hN.out]; omega, by omega, by omega, by omega⟩, hB.drew⟩
      case rel =>
        obtain ⟨⟨a1, a2, a3, a4⟩, hB⟩ := at4 w (.cells #[.int .i64 (n : Int)] 3) (.cells (U (List.replicate M 0)) 154) (.cells #[.pointer (some ⟨w.heap.size + 1 + 1 + 1, 0, none⟩)] 110) (.cells #[.int .i64 (n : Int), .slice (some ⟨w.heap.size + 1, 0, none⟩) M M, .slice none 0 0] 193)
        refine ⟨_, w.heap.size + 1 + 1 + 1, w.heap.size + 1, rfl, by omega, by omega, by omega, ⟨by rw [hN.out]; exact a1, a3, by rw [hN.out, hW0.out, List.length_replicate]; exact a4, by rw [hW0.out]; exact a2, by rw [hN.out]; omega, by omega, by omega, by omega⟩, hB.drew⟩
      case rel =>
        obtain ⟨⟨a1, a2, a3, a4⟩, hB⟩ := at4 w (.cells #[.int .i64 (n : Int)] 3) (.cells #[.pointer (some ⟨w.heap.size + 1 + 1 + 1, 0, none⟩)] 110) (.cells (U (List.replicate M 0)) 154) (.cells #[.int .i64 (n : Int), .slice (some ⟨w.heap.size + 1 + 1, 0, none⟩) M M, .slice none 0 0] 193)
        refine ⟨_, w.heap.size + 1 + 1 + 1, w.heap.size + 1 + 1, rfl, by omega, by omega, by omega, ⟨by rw [hN.out]; exact a1, a2, by rw [hN.out, hW0.out, List.length_replicate]; exact a4, by rw [hW0.out]; exact a3, by rw [hN.out]; omega, by omega, by omega, by omega⟩, hB.drew⟩
    case rest =>
      obtain ⟨vb, bs, bw, rfl, hvb, hbs, hbw, hMk, hB⟩ := hcut
      go_upto_region 3 with fail
      go_wp2_with fail
      refine (HL.out _ w.heap.size vb bs bw (Nat.le_refl _) (by omega) (by omega) (by omega) hMk hB).mono ?_
      rintro e w1 ⟨rfl, hMk1, hg1⟩
      have hAh : Ah w1 w.heap.size vb bs bw L 0 := ⟨hMk1.v, ⟨_, (by
        have := hMk1.s
        exact this), by have : aheads L 0 = [] := by simp [aheads]
                        rw [this]; exact World.ownsRow_nil _ _ _ _⟩, hMk1.ws⟩
      have hB1 : Below w.heap.size w w1 := hB.grown hg1 hB.size (fun q hq => by injection hq with hq; omega)
      have hWL := bwords_length L
      rw [HLn.out, HM.out] at hWL
      have HWL := Lib.hid hWL
      clear hMk hB hMk1 hg1 hWL hmk hN hW0
      obtain ⟨hv, ⟨va, hs, hown⟩, hw⟩ := hAh
      have hcv : w1.cell? ⟨vb, 0, none⟩ = some (.pointer (some ⟨bs, 0, none⟩)) := (cell_blk hv 0).trans rfl
      have hcs : w1.cell? ⟨bs, 1, none⟩ = some (.slice (some ⟨bw, 0, none⟩) M M) := by rw [cell_blk hs, ← HWL.out]; rfl
      go_wp2_with fail
      go_loopw [6, 28] (fun o i wr => ∃ j : Nat, j ≤ M ∧ i = .int .i64 (j : Int) ∧ o = .int .i64 ((aheadN L j : Nat) : Int) ∧ Ah wr w.heap.size vb bs bw L j ∧ Below w.heap.size w wr) (fun _ i _ => M - (intOf i).toNat)
      case atStart => exact ⟨0, Nat.zero_le _, rfl, by rw [aheadN_zero]; rfl, ⟨hv, ⟨va, hs, hown⟩, hw⟩, hB1⟩
      case round =>
        clear hv hs hown hw hcv hcs hB1
        obtain ⟨j, hj, rfl, rfl, ⟨hv, ⟨va, hs, hown⟩, hw⟩, hB⟩ := hrel
        by_cases hlt : j < M
        · have hcw : wr.cell? ⟨bw, j, none⟩ = some (.int .u64 (((bwords L).getD j 0 : Nat) : Int)) := by rw [cell_blk hw, U_get _ _ (by rw [HWL.out]; exact hlt)]
          have hcv : wr.cell? ⟨vb, 0, none⟩ = some (.pointer (some ⟨bs, 0, none⟩)) := (cell_blk hv 0).trans rfl
          have hca : wr.cell? ⟨bs, 2, none⟩ = some va := (cell_blk hs 2).trans rfl
          have hnew : (wr.drew.alloc (.cells #[.int .i64 ((aheadN L j : Nat) : Int)] 3)).heap[wr.heap.size]? = some (.cells (VI [((aheadN L j : Nat) : Int)]).toArray 3 (0, 0)) := heap_alloc_new wr.drew _
          have hdr : (wr.drew.alloc (.cells #[.int .i64 ((aheadN L j : Nat) : Int)] 3)).ownsRow w.heap.size 3 1 va (aheads L j).length (VI (aheads L j)) := by
            rw [aheads_length]; exact (World.ownsRow.alloc (World.ownsRow.drew hown) _)
          have hv0 : (wr.drew.alloc (.cells #[.int .i64 ((aheadN L j : Nat) : Int)] 3)).heap[vb]? = _ := blk_alloc (w := wr.drew) hv _
          have hs0 : (wr.drew.alloc (.cells #[.int .i64 ((aheadN L j : Nat) : Int)] 3)).heap[bs]? = _ := blk_alloc (w := wr.drew) hs _
          have hw0 : (wr.drew.alloc (.cells #[.int .i64 ((aheadN L j : Nat) : Int)] 3)).heap[bw]? = _ := blk_alloc (w := wr.drew) hw _
          have hcv0 : (wr.drew.alloc (.cells #[.int .i64 ((aheadN L j : Nat) : Int)] 3)).cell? ⟨vb, 0, none⟩ = some (.pointer (some ⟨bs, 0, none⟩)) := (cell_blk hv0 0).trans rfl
          have hca0 : (wr.drew.alloc (.cells #[.int .i64 ((aheadN L j : Nat) : Int)] 3)).cell? ⟨bs, 2, none⟩ = some va := (cell_blk hs0 2).trans rfl
          have hcv1 : (wr.alloc (.cells #[.int .i64 ((aheadN L j : Nat) : Int)] 3)).cell? ⟨vb, 0, none⟩ = some (.pointer (some ⟨bs, 0, none⟩)) := hcv0
          have hca1 : (wr.alloc (.cells #[.int .i64 ((aheadN L j : Nat) : Int)] 3)).cell? ⟨bs, 2, none⟩ = some va := hca0
          have hwn := World.new_ne wr ⟨vb,0,none⟩ hcv
          have hsn := World.new_ne wr ⟨bs,2,none⟩ hca
          have nv : some vb ≠ va.ownBlock := own_ne hown hv (by decide)
          have ns : some bs ≠ va.ownBlock := own_ne hown hs (by decide)
          have nw : some bw ≠ va.ownBlock := own_ne hown hw (by decide)
          have hvs : ¬ vb = bs := fun e => by rw [e, hs] at hv; simp at hv
          have hbs2 : ¬ bw = bs := fun e => by rw [e, hs] at hw; simp at hw
          have hB0 : Below w.heap.size w (wr.drew.alloc (.cells #[.int .i64 ((aheadN L j : Nat) : Int)] 3)) := hB.drew.alloc hB.size _
          have Hsucc := Lib.hid (aheadN_succ L j (by rw [HLn.out, HM.out]; exact hlt))
          have Hx := Lib.hid (getD_lt (bwords_ok L) j)
          have hpc := pc_le ((bwords L).getD j 0) 64
          have hal : aheadN L j ≤ 64 * j := rk_le L true (64 * j)
          generalize (bwords L).getD j 0 = x at *
          go_upto_region 8 with fail
          go_cut [6] (fun s6 wx => s6 = .int .i64 ((aheadN L j : Nat) : Int) ∧ Ah wx w.heap.size vb bs bw L (j + 1) ∧ Below w.heap.size w wx)
          case first =>
            go_region_law (first | (refine wp_app_int rfl _ _ rfl w.heap.size va (aheads L j) rfl hdr ⟨wr.heap.size, 0, none⟩ 1 1 [((aheadN L j : Nat) : Int)] rfl rfl (sl_blk hnew) (by rw [aheads_length]; omega) (by have := hB.size; simp; omega) ?_; intro v2 w2 hown2 hg2 hnil2; obtain ⟨A2, c2, rfl, hsl2, hl2, hA2⟩ := own_sl hown2; have hv2 := grown_blk hg2 hv0 nv; have hs2 := grown_blk hg2 hs0 ns; have hw2 := grown_blk hg2 hw0 nw; have hB2 := hB0.grown hg2 hB0.size (fun q hq => (World.ownsRow.lt hdr q hq).1); have hcs2 : w2.cell? ⟨bs, 2, none⟩ = some va := (cell_blk hs2 2).trans rfl; have hfr2 : w2.frozen? ⟨bs, 2, none⟩ = false := frozen_blk hs2 2; have hcv2 : w2.cell? ⟨vb, 0, none⟩ = some (.pointer (some ⟨bs, 0, none⟩)) := (cell_blk hv2 0).trans rfl; clear hnil2 hsl2 hl2))
            all_goals go_wp2_with fail
            all_goals go_meet
            all_goals exact ⟨rfl, ah_step hv2 hs2 hw2 hown2 hvs hbs2, below_cell hB2 (by omega) _ _ rfl⟩
          case rest =>
            clear hcv hca hnew hdr hv0 hs0 hw0 hcv0 hca0 hcv1 hca1 hwn hsn nv ns nw hvs hbs2 hB0 hv hs hown hw hcw hB
            obtain ⟨rfl, hAh, hB⟩ := hcut
            go_wp2_with (go_at_call 154; refine (ones_any x _ Hx.out).mono ?_; rintro e w' ⟨rfl, rfl⟩)
            refine ⟨⟨j + 1, by omega, rfl, by rw [Hsucc.out]; rfl, hAh, hB⟩, ?_⟩
            show M - ((j : Int) + 1).toNat < M - ((j : Int)).toNat
            omega
        · obtain rfl : j = M := by omega
          have hcv : wr.cell? ⟨vb, 0, none⟩ = some (.pointer (some ⟨bs, 0, none⟩)) := (cell_blk hv 0).trans rfl
          have hca : wr.cell? ⟨bs, 2, none⟩ = some va := (cell_blk hs 2).trans rfl
          have hnew : (wr.drew.alloc (.cells #[.int .i64 ((aheadN L j : Nat) : Int)] 3)).heap[wr.heap.size]? = some (.cells (VI [((aheadN L j : Nat) : Int)]).toArray 3 (0, 0)) := heap_alloc_new wr.drew _
          have hdr : (wr.drew.alloc (.cells #[.int .i64 ((aheadN L j : Nat) : Int)] 3)).ownsRow w.heap.size 3 1 va (aheads L j).length (VI (aheads L j)) := by
            rw [aheads_length]; exact (World.ownsRow.alloc (World.ownsRow.drew hown) _)
          have hv0 : (wr.drew.alloc (.cells #[.int .i64 ((aheadN L j : Nat) : Int)] 3)).heap[vb]? = _ := blk_alloc (w := wr.drew) hv _
          have hs0 : (wr.drew.alloc (.cells #[.int .i64 ((aheadN L j : Nat) : Int)] 3)).heap[bs]? = _ := blk_alloc (w := wr.drew) hs _
          have hw0 : (wr.drew.alloc (.cells #[.int .i64 ((aheadN L j : Nat) : Int)] 3)).heap[bw]? = _ := blk_alloc (w := wr.drew) hw _
          have hcv0 : (wr.drew.alloc (.cells #[.int .i64 ((aheadN L j : Nat) : Int)] 3)).cell? ⟨vb, 0, none⟩ = some (.pointer (some ⟨bs, 0, none⟩)) := (cell_blk hv0 0).trans rfl
          have hca0 : (wr.drew.alloc (.cells #[.int .i64 ((aheadN L j : Nat) : Int)] 3)).cell? ⟨bs, 2, none⟩ = some va := (cell_blk hs0 2).trans rfl
          have hcv1 : (wr.alloc (.cells #[.int .i64 ((aheadN L j : Nat) : Int)] 3)).cell? ⟨vb, 0, none⟩ = some (.pointer (some ⟨bs, 0, none⟩)) := hcv0
          have hca1 : (wr.alloc (.cells #[.int .i64 ((aheadN L j : Nat) : Int)] 3)).cell? ⟨bs, 2, none⟩ = some va := hca0
          have hwn := World.new_ne wr ⟨vb,0,none⟩ hcv
          have hsn := World.new_ne wr ⟨bs,2,none⟩ hca
          have nv : some vb ≠ va.ownBlock := own_ne hown hv (by decide)
          have ns : some bs ≠ va.ownBlock := own_ne hown hs (by decide)
          have nw : some bw ≠ va.ownBlock := own_ne hown hw (by decide)
          have hvs : ¬ vb = bs := fun e => by rw [e, hs] at hv; simp at hv
          have hbs2 : ¬ bw = bs := fun e => by rw [e, hs] at hw; simp at hw
          have hB0 : Below w.heap.size w (wr.drew.alloc (.cells #[.int .i64 ((aheadN L j : Nat) : Int)] 3)) := hB.drew.alloc hB.size _
          have hal : aheadN L j ≤ 64 * j := rk_le L true (64 * j)
          go_upto_region 11 with fail
          go_cut [6] (fun s6 wx => s6 = .int .i64 ((aheadN L j : Nat) : Int) ∧ Ah wx w.heap.size vb bs bw L (j + 1) ∧ Below w.heap.size w wx)
          case first =>
            go_region_law (first | (refine wp_app_int rfl _ _ rfl w.heap.size va (aheads L j) rfl hdr ⟨wr.heap.size, 0, none⟩ 1 1 [((aheadN L j : Nat) : Int)] rfl rfl (sl_blk hnew) (by rw [aheads_length]; omega) (by have := hB.size; simp; omega) ?_; intro v2 w2 hown2 hg2 hnil2; obtain ⟨A2, c2, rfl, hsl2, hl2, hA2⟩ := own_sl hown2; have hv2 := grown_blk hg2 hv0 nv; have hs2 := grown_blk hg2 hs0 ns; have hw2 := grown_blk hg2 hw0 nw; have hB2 := hB0.grown hg2 hB0.size (fun q hq => (World.ownsRow.lt hdr q hq).1); have hcs2 : w2.cell? ⟨bs, 2, none⟩ = some va := (cell_blk hs2 2).trans rfl; have hfr2 : w2.frozen? ⟨bs, 2, none⟩ = false := frozen_blk hs2 2; have hcv2 : w2.cell? ⟨vb, 0, none⟩ = some (.pointer (some ⟨bs, 0, none⟩)) := (cell_blk hv2 0).trans rfl; clear hnil2 hsl2 hl2))
            all_goals go_wp2_with fail
            all_goals go_meet
            all_goals exact ⟨rfl, ah_step hv2 hs2 hw2 hown2 hvs hbs2, below_cell hB2 (by omega) _ _ rfl⟩
          case rest =>
            clear hcv hca hnew hdr hv0 hs0 hw0 hcv0 hca0 hcv1 hca1 hwn hsn nv ns nw hvs hbs2 hB0 hv hs hown hw hB
            obtain ⟨rfl, hAh, hB⟩ := hcut
            have hcv : wc.cell? ⟨vb, 0, none⟩ = some (.pointer (some ⟨bs, 0, none⟩)) := (cell_blk hAh.1 0).trans rfl
            go_wp2_with fail
            go_ret
            exact ⟨bs, rfl, ah_bvec (by rw [HWL.out]; exact hAh) (by rw [HLn.out]; omega) (by omega) (by omega), hB⟩

end Go.Proofs.YtphccomhggnccaaGreat
namespace Go.Proofs.YtphccomhggnccaaGreat
set_option maxRecDepth 100000
set_option linter.unusedVariables false
set_option linter.unusedSimpArgs false
open Go.RowKit PkMath Pop Rank BtMath
def part (l : List Bool) (j : Nat) : List Bool := (List.range l.length).map fun i => decide (i < j) && l.getD i false
theorem part_length (l : List Bool) (j : Nat) : (part l j).length = l.length := by simp [part]
theorem getD_out {l : List Bool} {i : Nat} (h : l.length ≤ i) : l.getD i false = false := by
  simp [List.getD, List.getElem?_eq_none h]
theorem part_getD (l : List Bool) (j i : Nat) : (part l j).getD i false = (decide (i < j) && l.getD i false) := by
  by_cases h : i < l.length
  · simp [part, List.getD, List.getElem?_map, List.getElem?_range h]
  · have h1 : (part l j).getD i false = false := getD_out (by rw [part_length]; omega)
    have h2 : l.getD i false = false := getD_out (by omega)
    rw [h1, h2]; simp
theorem getD_ext {l m : List Bool} (h : l.length = m.length) (h2 : ∀ i, i < l.length → l.getD i false = m.getD i false) : l = m := by
  apply List.ext_getElem h
  intro i h3 h4
  have := h2 i h3
  simpa [List.getD, List.getElem?_eq_getElem h3, List.getElem?_eq_getElem h4] using this
theorem part_zero (l : List Bool) : part l 0 = List.replicate l.length false :=
  getD_ext (by simp [part_length]) fun i hi => by
    rw [part_getD]
    rw [part_length] at hi
    simp [List.getD, List.getElem?_replicate, hi]
theorem part_all (l : List Bool) : part l l.length = l :=
  getD_ext (part_length _ _) fun i hi => by rw [part_length] at hi; rw [part_getD]; simp [hi]
theorem part_succ_false (l : List Bool) (j : Nat) (h : l.getD j false = false) : part l (j + 1) = part l j :=
  getD_ext (by simp [part_length]) fun i hi => by
    rw [part_getD, part_getD]
    by_cases e : i = j
    · subst e; rw [h]; simp
    · have : (i < j + 1) ↔ (i < j) := by omega
      simp [this]
theorem part_succ_true (l : List Bool) (j : Nat) (hj : j < l.length) (h : l.getD j false = true) : part l (j + 1) = laid (part l j) (j : Int) := by
  have e : laid (part l j) (j : Int) = (part l j).set j true := by unfold laid; rw [if_pos (by rw [part_length]; omega), Int.toNat_natCast]
  rw [e]
  refine getD_ext (by simp [part_length]) fun i hi => ?_
  rw [getD_setB _ _ _ (by rw [part_length]; exact hj), part_getD, part_getD]
  by_cases e : i = j
  · subst e; rw [h]; simp
  · rw [if_neg e]
    have : (i < j + 1) ↔ (i < j) := by omega
    simp [this]

def VB (l : List Bool) : List Value := l.map Value.bool
theorem VB_length (l : List Bool) : (VB l).length = l.length := by simp [VB]
theorem VB_get (l : List Bool) (j : Nat) (h : j < l.length) : (VB l)[j]? = some (.bool (l.getD j false)) := by
  simp [VB, List.getElem?_map, List.getD, List.getElem?_eq_getElem h]

def laidAll (l : List Bool) (xs : List Int) (j : Nat) : List Bool := (xs.take j).foldl laid l
theorem laidAll_succ (l : List Bool) (xs : List Int) (j : Nat) (h : j < xs.length) : laidAll l xs (j + 1) = laid (laidAll l xs j) (xs.getD j 0) := by
  unfold laidAll
  rw [List.take_add_one, List.foldl_append, List.getElem?_eq_getElem h]
  simp [List.getD, List.getElem?_eq_getElem h]
theorem laidAll_length (l : List Bool) (xs : List Int) (j : Nat) : (laidAll l xs j).length = l.length := by
  unfold laidAll
  generalize xs.take j = ys
  induction ys generalizing l with
  | nil => rfl
  | cons y ys ih => rw [List.foldl_cons, ih, laid_length]

theorem Laid.step {w W : World} {nb vb bs bw : Nat} {l : List Bool} {e : Ending} {w' : World} (hg : W.grownBy w (some bw)) (h : Laid w nb vb bs bw l e w') : W.grownBy w' (some bw) := grown_trans hg h.2.2

set_option maxHeartbeats 1000000 in
theorem lay_new {W : World} {nb vb bs bw : Nat} {l : List Bool} (hMk : Mk W nb vb bs bw l) {cb K cap : Nat} {A : Option Addr} {xs : List Int}
    (hc : W.cell? ⟨cb, 0, none⟩ = some (.slice A K cap)) (hK : xs.length = K) (hK2 : K < 4611686018427387904) (hSl : ∀ W', W.grownBy W' (some bw) → Sl W' A (VI xs)) :
    Calls Tryz.prog 194 #[.func (.func 216) #[] #[.pointer (some ⟨nb, 0, none⟩), .pointer (some ⟨vb, 0, none⟩)], .pointer (some ⟨cb, 0, none⟩)] W (Laid W nb vb bs bw (laidAll l xs K)) := by
  have HK := Lib.hid hK
  have HSl := Lib.hid hSl
  clear hK hSl
  go_enter Tryz.func194, Tryz.ntmps194
  go_wp2_with fail
  go_loopw [7] (fun i wr => ∃ j : Nat, j ≤ K ∧ i = .int .i64 (j : Int) ∧ Mk wr nb vb bs bw (laidAll l xs j) ∧ W.grownBy wr (some bw)) (fun i _ => K - (intOf i).toNat)
  case atStart => exact ⟨0, Nat.zero_le _, rfl, hMk, grown_refl _ _⟩
  case round =>
    clear hc
    obtain ⟨j, hj, rfl, hM, hg⟩ := hrel
    by_cases hlt : j < K
    · obtain ⟨a, rfl, hca⟩ := (HSl.out _ hg).some (j := j) (by rw [VI_length, HK.out]; exact hlt)
      rw [VI_get _ _ (by rw [HK.out]; exact hlt)] at hca
      have Hsucc := Lib.hid (laidAll_succ l xs j (by rw [HK.out]; exact hlt))
      generalize xs.getD j 0 = x at *
      go_wp2_with fail
      refine (set_bit hM x).mono ?_
      rintro e w' ⟨rfl, hM', hg'⟩
      rw [← Hsucc.out] at hM'
      go_wp2_with fail
      refine ⟨⟨j + 1, by omega, rfl, hM', grown_trans hg hg'⟩, ?_⟩
      show K - ((j : Int) + 1).toNat < K - ((j : Int)).toNat
      omega
    · obtain rfl : j = K := by omega
      go_wp2_with fail
      go_end0
      exact ⟨rfl, hM, hg⟩

set_option maxHeartbeats 1000000 in
theorem lay_of {W : World} {nb vb bs bw : Nat} {l : List Bool} {n : Nat} (hMk : Mk W nb vb bs bw (List.replicate n false)) {cb cap : Nat} {A : Option Addr}
    (hc : W.cell? ⟨cb, 0, none⟩ = some (.slice A n cap)) (hn : l.length = n) (hn2 : n < 1048576) (hSl : ∀ W', W.grownBy W' (some bw) → Sl W' A (VB l)) :
    Calls Tryz.prog 215 #[.func (.func 216) #[] #[.pointer (some ⟨nb, 0, none⟩), .pointer (some ⟨vb, 0, none⟩)], .pointer (some ⟨cb, 0, none⟩)] W (Laid W nb vb bs bw l) := by
  have hz := part_zero l
  rw [hn] at hz
  rw [← hz] at hMk
  have Hn := Lib.hid hn
  have HSl := Lib.hid hSl
  clear hn hSl hz
  go_enter Tryz.func215, Tryz.ntmps215
  go_wp2_with fail
  go_loopw [7] (fun i wr => ∃ j : Nat, j ≤ n ∧ i = .int .i64 (j : Int) ∧ Mk wr nb vb bs bw (part l j) ∧ W.grownBy wr (some bw)) (fun i _ => n - (intOf i).toNat)
  case atStart => exact ⟨0, Nat.zero_le _, rfl, hMk, grown_refl _ _⟩
  case round =>
    clear hc
    obtain ⟨j, hj, rfl, hM, hg⟩ := hrel
    by_cases hlt : j < n
    · obtain ⟨a, rfl, hca⟩ := (HSl.out _ hg).some (j := j) (by rw [VB_length, Hn.out]; exact hlt)
      rw [VB_get _ _ (by rw [Hn.out]; exact hlt)] at hca
      cases hb : l.getD j false with
      | true =>
        rw [hb] at hca
        have Hsucc := Lib.hid (part_succ_true l j (by rw [Hn.out]; exact hlt) hb)
        clear hb
        go_wp2_with fail
        refine (set_bit hM (j : Int)).mono ?_
        rintro e w' ⟨rfl, hM', hg'⟩
        rw [← Hsucc.out] at hM'
        go_wp2_with fail
        refine ⟨⟨j + 1, by omega, rfl, hM', grown_trans hg hg'⟩, ?_⟩
        show n - ((j : Int) + 1).toNat < n - ((j : Int)).toNat
        omega
      | false =>
        rw [hb] at hca
        have Hsucc := Lib.hid (part_succ_false l j hb)
        clear hb
        rw [← Hsucc.out] at hM
        go_wp2_with fail
        refine ⟨⟨j + 1, by omega, rfl, hM, hg⟩, ?_⟩
        show n - ((j : Int) + 1).toNat < n - ((j : Int)).toNat
        omega
    · obtain rfl : j = n := by omega
      have hall := part_all l
      rw [Hn.out] at hall
      rw [hall] at hM
      clear hall
      go_wp2_with fail
      go_end0
      exact ⟨rfl, hM, hg⟩

theorem new_any (w : World) (n0 : Int) (n : Nat) (hn : n < 1048576) (hn0 : (n0 < 0 ∧ n = 0) ∨ n0 = (n : Int)) (A : Option Addr) (K cap : Nat) (xs : List Int) (hK : xs.length = K) (hK2 : K < 4611686018427387904) (hSl : Sl w A (VI xs)) :
    Calls Tryz.prog 140 #[.int .i64 n0, .slice A K cap] w (MadeVec w (laidAll (List.replicate n false) xs K)) := by
  have hM := made_any (w.alloc (.cells #[.slice A K cap] 26)) n0 n 194 w.heap.size (fun _ _ => rfl) (laidAll (List.replicate n false) xs K) (by rw [laidAll_length, List.length_replicate]) hn hn0
    (by
      intro W nb vb bs bw h1 h2 h3 h4 hMk hB
      have hs : (w.alloc (.cells #[.slice A K cap] 26)).heap.size = w.heap.size + 1 := by simp
      have hc : W.heap[w.heap.size]? = some (.cells #[.slice A K cap] 26 (0, 0)) := by
        rw [hB.block _ (by omega)]; exact heap_alloc_new w _
      refine lay_new hMk ((cell_blk hc 0).trans rfl) hK hK2 fun W' hg => ?_
      refine hSl.kept fun a ha hne => ?_
      have hlt := hSl.lt a ha hne
      rw [hg.block _ (by have := hB.size; omega) (by intro e; injection e; omega), hB.block _ (by omega), Below.heap_alloc _ _ _ hlt])
  have HM := Lib.hid hM
  clear hM
  go_enter Tryz.func140, Tryz.ntmps140
  go_wp2_with (go_at_call 193; refine HM.out.mono ?_; rintro e w' ⟨b, rfl, hBV, hB⟩)
  go_ret
  exact ⟨b, rfl, hBV.mono (by simp), ⟨hB.os, hB.tape, hB.output, by have := hB.size; simp at this; omega, fun k hk => by rw [hB.block k (by simp; omega), Below.heap_alloc _ _ _ hk]⟩⟩

theorem MadeVec.out {w : World} {o : Obj} {l : List Bool} {e : Ending} {w' : World} (h : MadeVec (w.alloc o) l e w') : MadeVec w l e w' := by
  obtain ⟨b, rfl, hBV, hB⟩ := h
  exact ⟨b, rfl, hBV.mono (by simp), ⟨hB.os, hB.tape, hB.output, by have := hB.size; simp at this; omega, fun k hk => by rw [hB.block k (by simp; omega), Below.heap_alloc _ _ _ hk]⟩⟩

theorem of_any (w : World) (A : Option Addr) (n cap : Nat) (l : List Bool) (hn : l.length = n) (hn2 : n < 1048576) (hSl : Sl w A (VB l)) :
    Calls Tryz.prog 192 #[.slice A n cap] w (MadeVec w l) := by
  have hM := made_any (w.alloc (.cells #[.slice A n cap] 223)) n n 215 w.heap.size (fun _ _ => rfl) l hn hn2 (.inr rfl)
    (by
      intro W nb vb bs bw h1 h2 h3 h4 hMk hB
      have hs : (w.alloc (.cells #[.slice A n cap] 223)).heap.size = w.heap.size + 1 := by simp
      have hc : W.heap[w.heap.size]? = some (.cells #[.slice A n cap] 223 (0, 0)) := by
        rw [hB.block _ (by omega)]; exact heap_alloc_new w _
      refine lay_of hMk ((cell_blk hc 0).trans rfl) hn hn2 fun W' hg => ?_
      refine hSl.kept fun a ha hne => ?_
      have hlt := hSl.lt a ha hne
      rw [hg.block _ (by have := hB.size; omega) (by intro e; injection e; omega), hB.block _ (by omega), Below.heap_alloc _ _ _ hlt])
  have HM := Lib.hid hM
  clear hM
  go_enter Tryz.func192, Tryz.ntmps192
  go_wp2_with (go_at_call 193; refine HM.out.mono ?_; rintro e w' ⟨b, rfl, hBV, hB⟩)
  go_ret
  exact MadeVec.out ⟨b, rfl, hBV, hB⟩

end Go.Proofs.YtphccomhggnccaaGreat
namespace Go.Proofs.YtphccomhggnccaaGreat
set_option maxRecDepth 100000
set_option linter.unusedVariables false
set_option linter.unusedSimpArgs false
open Go.RowKit PkMath Pop Rank BtMath
theorem wrap64 (x : Int) : IntKind.i64.wrap x = if 9223372036854775808 ≤ x % 18446744073709551616 then x % 18446744073709551616 - 18446744073709551616 else x % 18446744073709551616 := by
  simp [IntKind.wrap, IntKind.bits, IntKind.signed]
theorem wrap_small (x : Int) (h1 : -9223372036854775808 ≤ x) (h2 : x < 9223372036854775808) : IntKind.i64.wrap x = x := by
  rw [wrap64]; split <;> omega
end Go.Proofs.YtphccomhggnccaaGreat
namespace Go.Proofs.YtphccomhggnccaaGreat
set_option maxRecDepth 100000
set_option linter.unusedVariables false
set_option linter.unusedSimpArgs false
open Go.RowKit PkMath Pop Rank BtMath
theorem info_bool : (Tryz.prog.info? 4).map (fun i => (i.zero, i.size, i.bytes)) = some (some (.bool false), 1, 1) := by kernel_rfl
end Go.Proofs.YtphccomhggnccaaGreat
namespace Go.Proofs.YtphccomhggnccaaGreat
set_option maxRecDepth 100000
set_option linter.unusedVariables false
set_option linter.unusedSimpArgs false
open Go.RowKit PkMath Pop Rank BtMath
theorem below_step {w w1 w2 : World} (h : Below w.heap.size w w1) (k : Below w1.heap.size w1 w2) : Below w.heap.size w w2 :=
  ⟨k.os.trans h.os, k.tape.trans h.tape, k.output.trans h.output, Nat.le_trans h.size k.size, fun i hi => by rw [k.block i (Nat.lt_of_lt_of_le hi h.size), h.block i hi]⟩

end Go.Proofs.YtphccomhggnccaaGreat
namespace Go.Proofs.YtphccomhggnccaaGreat
set_option maxRecDepth 100000
set_option linter.unusedVariables false
set_option linter.unusedSimpArgs false
open Go.RowKit PkMath Pop Rank BtMath
end Go.Proofs.YtphccomhggnccaaGreat
namespace Go.Proofs.YtphccomhggnccaaGreat
set_option maxRecDepth 100000
set_option linter.unusedVariables false
set_option linter.unusedSimpArgs false
open Go.RowKit PkMath Pop Rank BtMath
theorem sl_cell {w : World} {g j : Nat} {xs : List Value} {u : Value} (h : Sl w (some ⟨g, 0, none⟩) xs) (hu : xs[j]? = some u) : w.cell? ⟨g, j, none⟩ = some u := by
  have := h.cell _ rfl j u hu
  rwa [show (⟨g, 0, none⟩ : Addr).add j = ⟨g, j, none⟩ by unfold Addr.add; split <;> simp_all] at this
end Go.Proofs.YtphccomhggnccaaGreat
namespace Go.Proofs.YtphccomhggnccaaGreat
set_option maxRecDepth 100000
set_option linter.unusedVariables false
set_option linter.unusedSimpArgs false
open Go.ChangeShapes Go.WideShapes Go.Deep Go.RowKit
end Go.Proofs.YtphccomhggnccaaGreat
namespace Go.Proofs.YtphccomhggnccaaGreat
set_option maxRecDepth 100000
set_option linter.unusedVariables false
set_option linter.unusedSimpArgs false
open Go.RowKit PkMath Pop Rank BtMath
end Go.Proofs.YtphccomhggnccaaGreat
namespace Go.Proofs.YtphccomhggnccaaGreat
set_option maxRecDepth 100000
set_option linter.unusedVariables false
set_option linter.unusedSimpArgs false
open Go.RowKit PkMath Pop Rank BtMath
theorem Sl.lit {w : World} {A : Option Addr} {xs : List Value} (h : Sl w A xs) {j : Nat} (hj : j < xs.length) : ∃ b off, A = Option.some ⟨b, off, none⟩ ∧ w.cell? ⟨b, off + j, none⟩ = xs[j]? := by
  obtain ⟨a, rfl, _⟩ := h.some hj
  have h0 := h.cell a rfl 0 _ (List.getElem?_eq_getElem (show 0 < xs.length by omega))
  have hsp : a.spot = none := by
    have := World.cell?_spot h0
    simpa [Addr.add] using this
  have h1 := h.cell a rfl j _ (List.getElem?_eq_getElem hj)
  obtain ⟨b, off, sp⟩ := a
  obtain rfl : sp = none := hsp
  refine ⟨b, off, rfl, ?_⟩
  rw [List.getElem?_eq_getElem hj, ← h1]
  unfold Addr.add
  split
  · rename_i e; subst e; rfl
  · rfl
theorem keepS {w2 W W' : World} {ad : Addr} {v : Value} (h : W.cell? ad = some v ∧ Below w2.heap.size w2 W) (k : Below W.heap.size W W') : W'.cell? ad = some v ∧ Below w2.heap.size w2 W' :=
  ⟨by rw [World.cell?_of_block (w := W) (k.block _ (World.block_lt_of_cell? W _ h.1))]; exact h.1, below_step h.2 k⟩
theorem keepD {w2 : World} {ad : Addr} {v : Value} (h : w2.cell? ad = some v) (m : Nat) : (w2.drewN m).cell? ad = some v ∧ Below w2.heap.size w2 (w2.drewN m) :=
  ⟨h, rfl, rfl, rfl, Nat.le_refl _, fun _ _ => rfl⟩
theorem keep0 {w2 : World} {ad : Addr} {v : Value} (h : w2.cell? ad = some v) (m : Nat) : (w2.drewN m).drew.cell? ad = some v ∧ Below w2.heap.size w2 (w2.drewN m).drew :=
  ⟨h, rfl, rfl, rfl, Nat.le_refl _, fun _ _ => rfl⟩
theorem keepE {w2 W' : World} {ad : Addr} {v : Value} (h : w2.cell? ad = some v) {m : Nat} (k : Below (w2.drewN m).heap.size (w2.drewN m) W') : W'.cell? ad = some v ∧ Below w2.heap.size w2 W' :=
  keepS (keepD h m) k
end Go.Proofs.YtphccomhggnccaaGreat
namespace Go.Proofs.YtphccomhggnccaaGreat
set_option maxRecDepth 100000
set_option linter.unusedVariables false
set_option linter.unusedSimpArgs false
open Go.RowKit PkMath Pop Rank BtMath
theorem keep00 {w2 : World} {ad : Addr} {v : Value} (h : w2.cell? ad = some v) : w2.drew.cell? ad = some v ∧ Below w2.heap.size w2 w2.drew :=
  ⟨h, rfl, rfl, rfl, Nat.le_refl _, fun _ _ => rfl⟩
theorem below0 (B : Nat) (w : World) : Below B w w.drew := ⟨rfl, rfl, rfl, Nat.le_refl _, fun _ _ => rfl⟩
theorem belowD (B : Nat) (w : World) (m : Nat) : Below B w (w.drewN m) := ⟨rfl, rfl, rfl, Nat.le_refl _, fun _ _ => rfl⟩
end Go.Proofs.YtphccomhggnccaaGreat
