/- The law FmLong, walked. -/
import Derived.Test.YtphccomhggnccaaGreatFmLawA
namespace Go.Proofs.YtphccomhggnccaaGreat
set_option maxRecDepth 100000
set_option linter.unusedVariables false
set_option linter.unusedSimpArgs false
set_option maxRecDepth 100000
open Go.RowKit Fm Rank
theorem info_u8 : (Tryz.prog.info? 5).map (fun i => (i.zero, i.size, i.bytes)) = some (some (.int .u8 0), 1, 1) := by kernel_rfl
theorem info_bytes : (Tryz.prog.info? 34).map (fun i => (i.zero, i.size, i.bytes)) = some (some (.slice none 0 0), 1, 24) := by kernel_rfl
/-- bytes made -/
def Z8 (c : Nat) : Array Value := (VY (List.replicate c 0)).toArray
theorem make_u8 (c : Nat) (hc : c ≤ 1099511627776) (w : World) :
    (Instr.makeSlice 34 (.int .i64 (c : Int)) (.int .i64 (c : Int))).run Tryz.prog w = .ok (.slice (some ⟨w.heap.size, 0, none⟩) c c) (w.alloc (.cells (Z8 c) 5)) := by
  obtain ⟨i0, hi, hz0, hz1, hz2⟩ := info_parts info_u8
  have h := run_make (P := Tryz.prog) w 34 5 i0 (.int .u8 0) Tryz.underlying34 hi hz0 .i64 .i64 (c : Int) (c : Int) (by omega) (by omega) (by rw [hz2]; omega) (by omega)
  rw [h]
  have e : madeCells (Value.int .u8 0).cells (c * i0.size) = Z8 c := by
    rw [hz1, Nat.mul_one, madeCells_one _ rfl]
    simp [Z8, VY]
  simp only [Int.toNat_natCast]
  rw [e]
theorem app_row {w : World} {ops : Array Oper} {rest : List Oper} {o : Oper} {a : Act} {Q : Exit → Act → World → Prop} (hgd : o.guard = none) (s x : Operand)
    (ho : o.op = .call { callee := .builtin .append, args := #[s, x], argTypes := #[47, 47] })
    (base : Nat) (v : Value) (xs : List Value) (hs : a.eval s = v) (hown : w.ownsRow base 34 1 v xs.length xs)
    (ad : Addr) (c : Nat) (A1 : Option Addr) (n1 c1 : Nat) (hx : a.eval x = .slice (some ad) 1 c) (hnews : Sl w (some ad) [.slice A1 n1 c1])
    (h63 : xs.length + 1 ≤ 1099511627776) (hbase : base ≤ w.heap.size)
    (h : ∀ v' w', w'.ownsRow base 34 1 v' (xs ++ [Value.slice A1 n1 c1]).length (xs ++ [Value.slice A1 n1 c1]) → w.grownBy w' v.ownBlock → wpList Tryz.prog ops Q rest (a.put o.dst v') w') : wpList Tryz.prog ops Q (o :: rest) a w := by
  obtain ⟨i0, hi, hz0, hz1, hz2⟩ := info_parts info_bytes
  refine wpList_append_own w hgd s x 47 ho base 34 i0 (.slice none 0 0) 1 24 Tryz.underlying47 hi hz0 hz1 hz2 rfl (by decide) v xs.length xs hs hown ad 1 c [.slice A1 n1 c1] hx rfl (hnews.cell ad rfl) (by simp [Value.oneCell']) (by unfold maxLen; omega) (by omega) hbase ?_
  intro v' w' h1 h2 _
  refine h v' w' ?_ h2
  rw [List.length_append]
  exact h1
/-- a row of slices of the call's own, each of so many noughts in a block of its own -/
def Zs (w : World) (base size : Nat) (v : Value) (k : Nat) : Prop :=
  ∃ vs : List Value, vs.length = k ∧ w.ownsRow base 34 1 v k vs ∧ ∀ u ∈ vs, ∃ g, u = .slice (some ⟨g, 0, none⟩) size size ∧ w.heap[g]? = some (.cells (Z8 size) 5 (0, 0))
theorem body_rep (n size : Nat) : (body (List.replicate n (List.replicate size 0))).length = n * (size + 1) := by
  induction n with
  | zero => simp [body]
  | succ n ih => rw [List.replicate_succ, body_cons, List.length_append, txt_length, ih, List.length_replicate, Nat.succ_mul]; omega
theorem own_tag {w : World} {base : Nat} {e : TypeId} {size : Nat} {v : Value} {n : Nat} {xs : List Value} (h : w.ownsRow base e size v n xs) {k : Nat} (hk : v.ownBlock = some k) : ∃ cur, w.heap[k]? = some (.cells cur e (0, 0)) := by
  rcases h.2 with ⟨rfl, _⟩ | ⟨g, cap, cur, rfl, hg, hb, _⟩
  · cases hk
  · cases hk
    exact ⟨cur, hb⟩
theorem Zs.arg {w : World} {base size n : Nat} {v : Value} (h : Zs w base size v n) (hs : size ≤ 4096) (hn : n ≤ 40) : ∃ A c, v = .slice A n c ∧ RArg w A n c (List.replicate n (List.replicate size 0)) := by
  obtain ⟨vs, hl, hown, hv⟩ := h
  obtain ⟨A, c, rfl, hS, _, _⟩ := own_sl hown
  refine ⟨A, c, rfl, by simp, by omega, ?_, ?_, fun d hd => ?_⟩
  · intro t ht
    rw [(List.mem_replicate.1 ht).2, List.length_replicate]
    omega
  · intro t ht b hb
    rw [(List.mem_replicate.1 ht).2] at hb
    rw [(List.mem_replicate.1 hb).2]
    decide
  · obtain ⟨a, rfl, hc⟩ := hS.some (j := d) (by omega)
    have hm : vs[d]? = some vs[d] := List.getElem?_eq_getElem (by omega)
    rw [hm] at hc
    obtain ⟨g, hg, hb⟩ := hv vs[d] (List.getElem_mem _)
    rw [hg] at hc
    have e : (List.replicate n (List.replicate size 0)).getD d [] = List.replicate size 0 := by simp [List.getD, hd]
    exact ⟨a, some ⟨g, 0, none⟩, size, size, rfl, hc, by rw [e]; simp, Nat.le_refl _, (fun h => (by cases h)), by rw [e]; exact sl_blk hb⟩
theorem Zs.step {w w' : World} {base size : Nat} {v v' : Value} {vs : List Value} (hown : w.ownsRow base 34 1 v vs.length vs) (hv : ∀ u ∈ vs, ∃ g, u = .slice (some ⟨g, 0, none⟩) size size ∧ w.heap[g]? = some (.cells (Z8 size) 5 (0, 0)))
    (o : Obj) (h : w'.ownsRow base 34 1 v' (vs ++ [Value.slice (some ⟨w.heap.size, 0, none⟩) size size]).length (vs ++ [Value.slice (some ⟨w.heap.size, 0, none⟩) size size]))
    (hg : ((w.alloc (.cells (Z8 size) 5)).alloc o).grownBy w' v.ownBlock) : Zs w' base size v' (vs.length + 1) := by
  have hkeep : ∀ g (ob : Obj), ((w.alloc (.cells (Z8 size) 5)).alloc o).heap[g]? = some ob → (∀ k, v.ownBlock = some k → k ≠ g) → w'.heap[g]? = some ob := fun g ob hb hne => grown_blk hg hb (fun e => hne g e.symm rfl)
  refine ⟨vs ++ [Value.slice (some ⟨w.heap.size, 0, none⟩) size size], by simp, by simpa using h, fun u hu => ?_⟩
  rcases List.mem_append.1 hu with hu | hu
  · obtain ⟨g, rfl, hb⟩ := hv u hu
    refine ⟨g, rfl, hkeep g _ (blk_alloc (blk_alloc hb _) _) fun k hk e => ?_⟩
    obtain ⟨cur, hc⟩ := own_tag hown hk
    rw [e, hb] at hc
    simp at hc
  · have : u = _ := List.mem_singleton.1 hu
    subst this
    refine ⟨_, rfl, hkeep _ _ (blk_alloc (heap_alloc_new w _) _) fun k hk e => ?_⟩
    have := (World.ownsRow.lt hown k hk).2
    omega
end Go.Proofs.YtphccomhggnccaaGreat
