/- Rows of bytes copied, each into a block of its own; spoil. -/
import Derived.Test.YtfjhcgmaignaoaaGreatFmAlike
import Derived.Test.YtfjhcgmaignaoaaGreatFmLawC
namespace Go.Proofs.YtfjhcgmaignaoaaGreat
set_option linter.unusedVariables false
set_option linter.unusedSimpArgs false
set_option maxRecDepth 100000
open Go.RowKit Fm Rank

set_option maxHeartbeats 4000000 in
/-- bytes are written over, and grown: of all that lay there their own block alone may have changed -/
theorem spoil_any (w : World) (base : Nat) (A : Option Addr) (cap : Nat) (p : List Nat) (hown : w.ownsRow base 5 1 (.slice A p.length cap) p.length (VY p)) (hn : p.length ≤ 65536) (hbase : base ≤ w.heap.size) :
    Calls Tryz.prog 9 #[.slice A p.length cap] w fun e w' => e = .returned (.tuple #[]) ∧ w.grownBy w' (Value.slice A p.length cap).ownBlock := by
  obtain ⟨ob, hob⟩ : ∃ ob, (Value.slice A p.length cap).ownBlock = ob := ⟨_, rfl⟩
  have Hob := Lib.hid hob
  clear hob
  go_enter Tryz.func9, Tryz.ntmps9
  go_wp2_with (at_builtin; refine app_u8_mv rfl _ _ rfl base _ p rfl (World.ownsRow.alloc hown _) ⟨w.heap.size, 0, none⟩ 1 1 [99] rfl rfl (sl_blk (heap_alloc_new w _)) (by omega) (by simp; omega) ?_; intro v3 w3 hown3 hg3 hmv3; obtain ⟨g3, cap3, cur3, rfl, hb3, hc3, ho3⟩ := own_blkP hown3 (by simp))
  have hg3 : (w.alloc (.cells #[.int .u8 99] 5)).grownBy w3 ob := (congrArg (fun o => (w.alloc (.cells #[.int .u8 99] 5)).grownBy w3 o) Hob.out).mp hg3
  have hmv3 : some g3 = ob ∨ some g3 = some (w.alloc (.cells #[.int .u8 99] 5)).heap.size := hmv3.imp (fun e => ho3.symm.trans (e.trans Hob.out)) (fun e => ho3.symm.trans e)
  have hgr : w.grownBy w3 ob := by
    refine ⟨hg3.os, hg3.tape, hg3.output, by have := hg3.size; simp at this; omega, fun k hk hne => ?_⟩
    rw [hg3.block k (by simp; omega) hne, Below.heap_alloc _ _ _ hk]
  have hg3' : some g3 = ob ∨ w.heap.size ≤ g3 := by
    rcases hmv3 with e | e
    · exact .inl e
    · have := Option.some.inj e
      simp at this
      exact .inr (by omega)
  have hlen : (p ++ [99]).length = p.length + 1 := by simp
  rw [hlen] at hc3
  try rw [hlen]
  have Hg3 := Lib.hid hg3'
  clear hg3' hown3 hg3 hmv3 ho3 hlen hown
  go_wp2_with fail
  go_loopw [3] (fun q wr => ∃ (j : Nat) (cur : Array Value), j ≤ p.length + 1 ∧ q = .int .i64 (j : Int) ∧ wr.heap[g3]? = some (.cells cur 5 (0, 0)) ∧ p.length + 1 ≤ cur.size ∧ w.grownBy wr ob) (fun q _ => p.length + 1 - (intOf q).toNat)
  case atStart => exact ⟨0, cur3, Nat.zero_le _, rfl, hb3, hc3, hgr⟩
  case round =>
    clear hb3 hc3 hgr
    obtain ⟨j, cur, hj, rfl, hb, hc, hgr⟩ := hrel
    by_cases hjn : j < p.length + 1
    · have hcell := cell_blk hb j
      rw [Array.getElem?_eq_getElem (by omega)] at hcell
      have hfr := frozen_blk hb j
      have j1 : (j : Int) < (p.length : Int) + 1 := by omega
      have j2 : (0 : Int) ≤ (j : Int) := by omega
      have hset := blk_set hb j (.int .u8 98)
      have Hset := Lib.hid hset
      have Hb := Lib.hid hb
      clear hset hb
      generalize cur[j] = y at *
      go_wp2_with fail
      refine ⟨⟨j + 1, _, by omega, by go_num, Hset.out, by simpa using hc, ?_⟩, by simp [intOf]; omega⟩
      rcases Hg3.out with h9 | h9
      · rw [← h9] at hgr ⊢
        exact grown_trans hgr (grown_set _ _ _ _)
      · exact grown_new hgr h9 _ _
    · obtain rfl : j = p.length + 1 := by omega
      go_wp2_with fail
      go_end0
      exact ⟨rfl, by rw [Hob.out]; exact hgr⟩
/-- rows of bytes, each in a block of its own -/
structure Copies (w : World) (base : Nat) (v : Value) (ts : List (List Nat)) (vs : List Value) : Prop where
  row : w.ownsRow base 25 1 v vs.length vs
  len : vs.length = ts.length
  own : ∀ j, j < vs.length → w.ownsRow base 5 1 (vs.getD j undef) (ts.getD j []).length (VY (ts.getD j []))
  ap : ∀ j k, j < k → k < vs.length → ∀ g, (vs.getD j undef).ownBlock = some g → (vs.getD k undef).ownBlock ≠ some g
theorem tags_apart {w : World} {b1 b2 : Nat} {e1 e2 : TypeId} {s1 s2 : Nat} {v1 v2 : Value} {n1 n2 : Nat} {x1 x2 : List Value} (h1 : w.ownsRow b1 e1 1 v1 n1 x1) (h2 : w.ownsRow b2 e2 1 v2 n2 x2) (he : e1 ≠ e2) : ∀ g, v1.ownBlock = some g → v2.ownBlock ≠ some g := fun g h k => by
  obtain ⟨c1, hc1⟩ := own_tag h1 h
  obtain ⟨c2, hc2⟩ := own_tag h2 k
  rw [hc1] at hc2
  simp at hc2
  exact he hc2.2
theorem Copies.nil (w : World) (base : Nat) : Copies w base (.slice none 0 0) [] [] :=
  ⟨World.ownsRow_nil _ _ _ _, rfl, fun j hj => absurd hj (Nat.not_lt_zero _), fun j k _ hk => absurd hk (Nat.not_lt_zero _)⟩
theorem getD_app_l {α : Type} (a b : List α) (j : Nat) (d : α) (h : j < a.length) : (a ++ b).getD j d = a.getD j d := by
  simp [List.getD, List.getElem?_append_left h]
theorem getD_app_r {α : Type} (a : List α) (x : α) (d : α) : (a ++ [x]).getD a.length d = x := by
  simp [List.getD]
/-- one more row copied -/
theorem Copies.step {w w1 w7 : World} {base : Nat} {v v7 v1 : Value} {ts : List (List Nat)} {vs : List Value} {t : List Nat} (h : Copies w base v ts vs) (hb : base ≤ w.heap.size)
    (o : Obj) (h1 : w1.ownsRow w.heap.size 5 1 v1 t.length (VY t)) (hB1 : Below w.heap.size w w1)
    (h7 : w7.ownsRow base 25 1 v7 (vs ++ [v1]).length (vs ++ [v1])) (hg7 : (w1.alloc o).grownBy w7 v.ownBlock) : Copies w7 base v7 (ts ++ [t]) (vs ++ [v1]) := by
  have hne : (25 : TypeId) ≠ 5 := by decide
  have hv1 : w1.ownsRow base 25 1 v vs.length vs := own_below h.row hB1
  have keep : ∀ (u : Value) (l : List Nat), w1.ownsRow base 5 1 u l.length (VY l) → w7.ownsRow base 5 1 u l.length (VY l) := fun u l hu => by
    refine World.ownsRow.kept (World.ownsRow.alloc hu o) hg7 ?_
    cases hv : v.ownBlock with
    | none =>
      cases u.ownBlock with
      | none => exact .inl rfl
      | some q => exact .inr (by simp)
    | some g => exact .inr (tags_apart (s1 := 1) (s2 := 1) hv1 hu hne g hv)
  refine ⟨h7, by simp [h.len], fun j hj => ?_, fun j k hjk hk g hg => ?_⟩
  · rcases Nat.lt_or_ge j vs.length with hl | hl
    · rw [getD_app_l _ _ _ _ hl, getD_app_l _ _ _ _ (by rw [← h.len]; exact hl)]
      exact keep _ _ (own_below (h.own j hl) hB1)
    · have : j = vs.length := by simp at hj; omega
      subst this
      rw [getD_app_r, h.len, getD_app_r]
      exact keep _ _ (own_mono h1 hb)
  · have hk' : k ≤ vs.length := by simp at hk; omega
    rw [getD_app_l _ _ _ _ (by omega)] at hg
    rcases Nat.lt_or_ge k vs.length with hl | hl
    · rw [getD_app_l _ _ _ _ hl]
      exact h.ap j k hjk hl g hg
    · have : k = vs.length := by omega
      subst this
      rw [getD_app_r]
      intro e
      have q1 := (World.ownsRow.lt (h.own j hjk) g hg).2
      have q2 := (World.ownsRow.lt h1 g e).1
      omega
theorem Copies.arg {w : World} {base n : Nat} {v : Value} {ts : List (List Nat)} {vs : List Value} (h : Copies w base v ts vs) (hn : ts.length = n) (hn2 : n ≤ 65536) (hl : ∀ t ∈ ts, t.length ≤ 65536) (hlt : ∀ t ∈ ts, ∀ b ∈ t, b < 256) : ∃ A c, v = .slice A n c ∧ Sl w A vs ∧ RArg w A n c ts := by
  obtain ⟨A, c, rfl, hS, _, _⟩ := own_sl h.row
  have hvn : vs.length = n := h.len.trans hn
  refine ⟨A, c, by rw [hvn], hS, hn, by omega, fun t ht => by have := hl t ht; omega, hlt, fun d hd => ?_⟩
  obtain ⟨a, rfl, hc⟩ := hS.some (j := d) (by omega)
  have hm : vs[d]? = some vs[d] := List.getElem?_eq_getElem (by omega)
  rw [hm] at hc
  have ho := h.own d (by omega)
  have hg : vs.getD d undef = vs[d] := by simp [List.getD, hm]
  rw [hg] at ho
  obtain ⟨A2, c2, hv2, hS2, _, _⟩ := own_sl ho
  rw [hv2] at ho hc
  have hcap := own_cap ho
  exact ⟨a, A2, _, c2, rfl, hc, rfl, hcap.1, hcap.2, hS2⟩
end Go.Proofs.YtfjhcgmaignaoaaGreat
