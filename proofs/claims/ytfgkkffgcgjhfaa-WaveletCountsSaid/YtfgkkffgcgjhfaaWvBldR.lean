/- wavelet: Build, what a round lays behind its inner loop. -/
import Derived.Test.YtfgkkffgcgjhfaaWvBldM
namespace Go.Proofs.Ytfgkkffgcgjhfaa
set_option linter.unusedVariables false
set_option linter.unusedSimpArgs false
open Go.RowKit PkMath Pop Rank BtMath Wv

theorem own_sl2 {w : World} {base : Nat} {e : TypeId} {v : Value} {n : Nat} {xs : List Value} (h : w.ownsRow base e 1 v n xs) : ∃ A c, v = .slice A n c ∧ Sl w A xs ∧ xs.length = n ∧ (A = none → c = 0) := by
  have hl := h.1
  rw [Nat.mul_one] at hl
  rcases h.2 with ⟨rfl, rfl⟩ | ⟨g, cap, cur, rfl, hg, hb, hn, hm, hs, ht⟩
  · exact ⟨none, 0, rfl, ⟨fun _ => List.eq_nil_of_length_eq_zero hl, fun a ha => by cases ha⟩, hl, fun _ => rfl⟩
  · refine ⟨_, _, rfl, ⟨fun he => (by cases he), fun a ha j u hu => ?_⟩, hl, fun ha => by cases ha⟩
    cases ha
    exact h.cells (g := g) rfl j u hu
theorem own_mono {w : World} {base base' : Nat} {e : TypeId} {size : Nat} {v : Value} {n : Nat} {xs : List Value} (h : w.ownsRow base e size v n xs) (hb : base' ≤ base) : w.ownsRow base' e size v n xs := by
  refine ⟨h.1, ?_⟩
  rcases h.2 with hn | ⟨g, cap, cur, rfl, hg, r⟩
  · exact .inl hn
  · exact .inr ⟨g, cap, cur, rfl, by omega, r⟩
theorem own_neS {w : World} {base : Nat} {e : TypeId} {size : Nat} {v : Value} {n : Nat} {xs : List Value} (h : w.ownsRow base e size v n xs) {b : Nat} {cs : Array Value} {t : TypeId} {fr : Nat × Nat} (hb : w.heap[b]? = some (.cells cs t fr)) (ht : t ≠ e) : some b ≠ v.ownBlock := by
  intro he
  rcases h.2 with ⟨rfl, _⟩ | ⟨g, cap, cur, rfl, _, hg, _⟩
  · cases he
  · injection he with he
    subst he
    rw [hb] at hg
    injection hg with hg
    injection hg with _ h2 _
    exact ht h2
theorem own_keepT {w w' : World} {base : Nat} {e e' : TypeId} {size size' : Nat} {v v' : Value} {n n' : Nat} {xs xs' : List Value} {base' : Nat} (h : w.ownsRow base e size v n xs) (h' : w.ownsRow base' e' size' v' n' xs') (ht : e ≠ e') (hg : w.grownBy w' v'.ownBlock) : w'.ownsRow base e size v n xs := by
  refine World.ownsRow.kept h hg ?_
  rcases h.2 with ⟨rfl, _⟩ | ⟨g, cap, cur, rfl, _, hgb, _⟩
  · exact .inl rfl
  · exact .inr (own_neS h' hgb ht)
theorem own_below {w w' : World} {base : Nat} {e : TypeId} {size : Nat} {v : Value} {n : Nat} {xs : List Value} (h : w.ownsRow base e size v n xs) (hb : Below w.heap.size w w') : w'.ownsRow base e size v n xs :=
  World.ownsRow.kept h (below_grown hb (Nat.le_refl _) none) (by cases v.ownBlock with
    | none => exact .inl rfl
    | some q => exact .inr (by simp))
/-- a Vector, its block of counts named -/
def BVecH (w : World) (base b h : Nat) (l : List Bool) : Prop :=
  l.length ≤ 1048576 ∧ base ≤ b ∧ base ≤ h ∧ ∃ g cap cur, base ≤ g ∧
    w.heap[b]? = some (.cells #[.int .i64 (l.length : Int), .slice (some ⟨g, 0, none⟩) (bwords l).length (bwords l).length, .slice (some ⟨h, 0, none⟩) ((bwords l).length + 1) cap] 65 (0, 0)) ∧
    w.heap[g]? = some (.cells (U (bwords l)) 67 (0, 0)) ∧
    w.heap[h]? = some (.cells cur 3 (0, 0)) ∧ cur.toList.take ((bwords l).length + 1) = VI (aheads l ((bwords l).length + 1))
theorem BVec.named {w : World} {base b : Nat} {l : List Bool} (h : BVec w base b l) : ∃ hh, BVecH w base b hh l ∧ hh < w.heap.size := by
  obtain ⟨h1, h2, g, hh, cap, cur, hgb, hhh, hb, hw, ha, ht⟩ := h
  exact ⟨hh, ⟨h1, h2, hhh, g, cap, cur, hgb, hb, hw, ha, ht⟩, blk_lt ha⟩
theorem BVecH.vec {w : World} {base b hh : Nat} {l : List Bool} (h : BVecH w base b hh l) : BVec w base b l := by
  obtain ⟨h1, h2, hhh, g, cap, cur, hgb, hb, hw, ha, ht⟩ := h
  exact ⟨h1, h2, g, hh, cap, cur, hgb, hhh, hb, hw, ha, ht⟩
theorem BVecH.below {w w' : World} {base b hh : Nat} {l : List Bool} (h : BVecH w base b hh l) (hB : Below w.heap.size w w') : BVecH w' base b hh l := by
  obtain ⟨h1, h2, hhh, g, cap, cur, hgb, hb, hw, ha, ht⟩ := h
  exact ⟨h1, h2, hhh, g, cap, cur, hgb, (hB.block _ (blk_lt hb)).trans hb, (hB.block _ (blk_lt hw)).trans hw, (hB.block _ (blk_lt ha)).trans ha, ht⟩
/-- a Vector stays where a row of another type grows, or one of ints elsewhere -/
theorem BVecH.grownT {w w' : World} {base b hh : Nat} {l : List Bool} (h : BVecH w base b hh l) {r : Option Nat} (hg : w.grownBy w' r) (hr : ∀ g, r = some g → ∃ cs t fr, w.heap[g]? = some (.cells cs t fr) ∧ t ≠ 65 ∧ t ≠ 67) (hne : r ≠ some hh) : BVecH w' base b hh l := by
  obtain ⟨h1, h2, hhh, g, cap, cur, hgb, hb, hw, ha, ht⟩ := h
  have ne : ∀ {k : Nat} {cs : Array Value} {t : TypeId} {fr : Nat × Nat}, w.heap[k]? = some (.cells cs t fr) → (t = 65 ∨ t = 67) → some k ≠ r := by
    intro k cs t fr hk htt e
    obtain ⟨cs', t', fr', hc, n1, n2⟩ := hr k e.symm
    rw [hk] at hc
    injection hc with hc
    injection hc with _ hc _
    subst hc
    rcases htt with e | e
    · exact n1 e
    · exact n2 e
  exact ⟨h1, h2, hhh, g, cap, cur, hgb, grown_blk hg hb (ne hb (.inl rfl)), grown_blk hg hw (ne hw (.inr rfl)), grown_blk hg ha (fun e => hne e.symm), ht⟩
theorem BVecH.ne {w : World} {base b hh : Nat} {l : List Bool} (h : BVecH w base b hh l) {r : Option Nat} (hr : ∀ g, r = some g → ∃ cs t fr, w.heap[g]? = some (.cells cs t fr) ∧ t ≠ 3) : r ≠ some hh := by
  intro e
  obtain ⟨cs, t, fr, hc, n⟩ := hr hh e
  obtain ⟨h1, h2, hhh, g, cap, cur, hgb, hb, hw, ha, ht⟩ := h
  rw [ha] at hc
  injection hc with hc
  injection hc with _ hc _
  exact n hc.symm

theorem new_named {w1 : World} {B base vn : Nat} {l : List Bool} {p0 : Value} (hBV : BVec w1 B vn l) (hlt : ∀ g, p0.ownBlock = some g → g < B) (hbase : base ≤ B) (o : Obj) : ∃ hh, BVecH (w1.alloc o) base vn hh l ∧ p0.ownBlock ≠ some hh := by
  obtain ⟨hh, h, _⟩ := (hBV.below ((Below.refl _ w1).alloc (Nat.le_refl _) o)).named
  obtain ⟨h1, h2, hhh, g, cap, cur, hgb, r⟩ := h
  exact ⟨hh, ⟨h1, by omega, by omega, g, cap, cur, by omega, r⟩, fun e => by have := hlt hh e; omega⟩
theorem info_lev : (Try.prog.info? 74).map (fun i => (i.zero, i.size, i.bytes)) = some (some (.agg #[.pointer none, .int .i64 0]), 2, 16) := by kernel_rfl
/-- append of a level, at one operation of a region that draws -/
theorem wp_app_lev {w : World} {o : Oper} {a : Act} {K : Act → World → Prop} {Q : Exit → Act → World → Prop} {E : Prop} {ys : Nat → Option Bool} (hgd : o.guard = none) (s x : Operand)
    (ho : o.op = .call { callee := .builtin .append, args := #[s, x], argTypes := #[69, 69] })
    (base : Nat) (v : Value) (k : Nat) (xs : List Value) (hs : a.eval s = v) (hown : w.ownsRow base 74 2 v k xs)
    (ad : Addr) (c : Nat) (vb z : Nat) (hx : a.eval x = .slice (some ad) 1 c) (hnews : Sl w (some ad) [.pointer (some ⟨vb, 0, none⟩), .int .i64 (z : Int)])
    (hk : k ≤ 16) (hbase : base ≤ w.heap.size)
    (h : ∀ v' w', w'.ownsRow base 74 2 v' (k + 1) (xs ++ [.pointer (some ⟨vb, 0, none⟩), .int .i64 (z : Int)]) → w.grownBy w' v.ownBlock → K (a.put o.dst v') w') :
    if Region.wanted o ys = true then Oper.wp Try.prog o a w K Q else E := by
  have hw : Region.wanted o ys = true := by simp [Region.wanted, hgd]
  rw [if_pos hw]
  obtain ⟨i0, hi, hz0, hz1, hz2⟩ := info_parts info_lev
  refine wp_append_own w s x 69 ho base 74 i0 _ 2 16 Try.underlying69 hi hz0 hz1 hz2 rfl (by decide) v k xs hs hown ad 1 c _ hx rfl (hnews.cell ad rfl) (by intro u hu; simp at hu; rcases hu with rfl | rfl <;> rfl) (by unfold maxLen; omega) (by omega) hbase ?_
  intro v' w' h1 h2 h3
  exact h v' w' h1 h2

/-- a call of a Go function, at one operation of a region that draws -/
theorem step_call {w : World} {o : Oper} {a : Act} {K : Act → World → Prop} {Q : Exit → Act → World → Prop} {E : Prop} {ys : Nat → Option Bool} (hgd : o.guard = none) (f : FuncId) (args : Array Value)
    (hrun : (execOp a.eval o).run Try.prog w = .ok (.enter f args) w) (C : Ending → World → Prop) (hc : Calls Try.prog f args w C) (hC : ∀ e w', C e w' → ∃ v, e = .returned v)
    (h : ∀ v w', C (.returned v) w' → K (a.put o.dst v) w') :
    if Region.wanted o ys = true then Oper.wp Try.prog o a w K Q else E := by
  have hw : Region.wanted o ys = true := by simp [Region.wanted, hgd]
  rw [if_pos hw]
  unfold Oper.wp
  rw [hrun, Oper.upon_enter]
  refine hc.mono ?_
  intro e w' he
  obtain ⟨v, rfl⟩ := hC e w' he
  exact h v w' he
theorem step_of {w : World} {o : Oper} {a : Act} {K : Act → World → Prop} {Q : Exit → Act → World → Prop} {E : Prop} {ys : Nat → Option Bool} (hgd : o.guard = none) {A : Option Addr} {n cap : Nat} {l : List Bool}
    (hrun : (execOp a.eval o).run Try.prog w = .ok (.enter 22 #[.slice A n cap]) w) (hc : Calls Try.prog 22 #[.slice A n cap] w (MadeVec w l))
    (h : ∀ vn w', BVec w' w.heap.size vn l → Below w.heap.size w w' → K (a.put o.dst (.pointer (some ⟨vn, 0, none⟩))) w') :
    if Region.wanted o ys = true then Oper.wp Try.prog o a w K Q else E := by
  refine step_call hgd 22 #[.slice A n cap] hrun _ hc (fun e w' hm => ?_) fun v w' hm => ?_
  · obtain ⟨b, he, _⟩ := hm
    exact ⟨_, he⟩
  · obtain ⟨b, he, hV, hB⟩ := hm
    injection he with he
    subst he
    exact h b w' hV hB
theorem zeros_flt (d : Nat) (row : List Nat) (n : Nat) (h : row.length = n) : (IL (flt d row false n)).length = zeros d row := by
  rw [IL_length, flt_all d row false n h]; rfl
theorem prt_flt (d : Nat) (row : List Nat) (n : Nat) (h : row.length = n) : IL (flt d row false n) ++ IL (flt d row true n) = IL (prt d row) := by
  rw [← IL_append, flt_all d row false n h, flt_all d row true n h]; rfl

theorem own_lev_form {w : World} {base : Nat} {e : TypeId} {v : Value} {n : Nat} {xs : List Value} (h : w.ownsRow base e 2 v (n + 1) xs) : ∃ g cap, v = .slice (some ⟨g, 0, none⟩) (n + 1) cap := by
  rcases h.2 with ⟨_, h0⟩ | ⟨g, cap, cur, rfl, _⟩
  · omega
  · exact ⟨g, cap, rfl⟩
theorem below_new (w : World) (o : Obj) : Below w.heap.size w (w.alloc o) := (Below.refl _ w).alloc (Nat.le_refl _) _

/-- what stands behind the inner loop: the parts, and the levels ahead -/
structure Rest (w : World) (pb tb W : Nat) (l : List Nat) (k : Nat) (a b : List Nat) (p0 p1 lv : Value) (vb : Nat → Nat) (wx : World) : Prop where
  blk : wx.heap[pb]? = some (.cells #[p0, p1] 72 (0, 0))
  o0 : wx.ownsRow w.heap.size 3 1 p0 (IL a).length (VI (IL a))
  o1 : wx.ownsRow w.heap.size 3 1 p1 (IL b).length (VI (IL b))
  tree : wx.heap[tb]? = some (.cells #[.int .i64 (l.length : Int), lv] 71 (0, 0))
  lev : wx.ownsRow w.heap.size 74 2 lv k (lvc vb W l k)
  vec : ∀ j, j < k → ∃ hh, BVecH wx w.heap.size (vb j) hh (bitsOf (W - 1 - j) (lvl W l j)) ∧ p0.ownBlock ≠ some hh
  bel : Below w.heap.size w wx
theorem Rest.below {w : World} {pb tb W : Nat} {l : List Nat} {k : Nat} {a b : List Nat} {p0 p1 lv : Value} {vb : Nat → Nat} {wx wy : World} (h : Rest w pb tb W l k a b p0 p1 lv vb wx) (hb : Below wx.heap.size wx wy) : Rest w pb tb W l k a b p0 p1 lv vb wy :=
  ⟨(hb.block _ (blk_lt h.blk)).trans h.blk, own_below h.o0 hb, own_below h.o1 hb, (hb.block _ (blk_lt h.tree)).trans h.tree, own_below h.lev hb, fun j hj => by obtain ⟨hh, h1, h2⟩ := h.vec j hj; exact ⟨hh, h1.below hb, h2⟩, below_step h.bel hb⟩
/-- the new level is appended and written down -/
theorem Rest.push {w : World} {pb tb W : Nat} {l : List Nat} {k : Nat} {a b : List Nat} {p0 p1 lv lv' : Value} {vb : Nat → Nat} {vn : Nat} {w1 w2 : World}
    (h : Rest w pb tb W l k a b p0 p1 lv vb w1) (hV : ∃ hh, BVecH w1 w.heap.size vn hh (bitsOf (W - 1 - k) (lvl W l k)) ∧ p0.ownBlock ≠ some hh) (htb : w.heap.size ≤ tb)
    (ho : w2.ownsRow w.heap.size 74 2 lv' (k + 1) (lvc vb W l k ++ [.pointer (some ⟨vn, 0, none⟩), .int .i64 ((zeros (W - 1 - k) (lvl W l k) : Nat) : Int)])) (hg : w1.grownBy w2 lv.ownBlock) :
    Rest w pb tb W l (k + 1) a b p0 p1 lv' (fun j => if j = k then vn else vb j) (w2.setCell ⟨tb, 1, none⟩ lv') ∧ w2.cell? ⟨tb, 1, none⟩ = some lv ∧ w2.frozen? ⟨tb, 1, none⟩ = false := by
  have nb := own_neS h.lev h.blk (by decide)
  have nt := own_neS h.lev h.tree (by decide)
  have hb2 := grown_blk hg h.blk nb
  have ht2 := grown_blk hg h.tree nt
  have hlr : ∀ g, lv.ownBlock = some g → ∃ cs t fr, w1.heap[g]? = some (.cells cs t fr) ∧ t = 74 := by
    intro g hgg
    rcases h.lev.2 with ⟨rfl, _⟩ | ⟨g', cap, cur, rfl, _, hb, _⟩
    · cases hgg
    · injection hgg with hgg; subst hgg
      exact ⟨_, _, _, hb, rfl⟩
  have htr : ∀ g, some tb = some g → ∃ cs t fr, w2.heap[g]? = some (.cells cs t fr) ∧ t = 71 := by
    intro g hgg
    injection hgg with hgg; subst hgg
    exact ⟨_, _, _, ht2, rfl⟩
  have hset := grown_set w2 tb 1 lv'
  have hpt : ¬ pb = tb := fun e => by have hx := h.blk; rw [e, h.tree] at hx; simp at hx
  have sz := h.bel.size
  have bel2 : Below w.heap.size w w2 := h.bel.grown hg h.bel.size (fun q hq => (World.ownsRow.lt h.lev q hq).1)
  have keep : ∀ {t : TypeId} {size n : Nat} {v : Value} {xs : List Value} (htt : 71 ≠ t), w2.ownsRow w.heap.size t size v n xs → (w2.setCell ⟨tb, 1, none⟩ lv').ownsRow w.heap.size t size v n xs :=
    fun htt hp => World.ownsRow.kept hp hset (.inr (fun e => own_neS hp ht2 htt e.symm))
  have kv : ∀ {b hh : Nat} {m : List Bool}, BVecH w1 w.heap.size b hh m → BVecH (w2.setCell ⟨tb, 1, none⟩ lv') w.heap.size b hh m := by
    intro b hh m hv
    have h2 := hv.grownT hg (fun g hgg => by obtain ⟨cs, t, fr, x, rfl⟩ := hlr g hgg; exact ⟨cs, _, fr, x, by decide, by decide⟩) (hv.ne (fun g hgg => by obtain ⟨cs, t, fr, x, rfl⟩ := hlr g hgg; exact ⟨cs, _, fr, x, by decide⟩))
    exact h2.grownT hset (fun g hgg => by obtain ⟨cs, t, fr, x, rfl⟩ := htr g hgg; exact ⟨cs, _, fr, x, by decide, by decide⟩) (h2.ne (fun g hgg => by obtain ⟨cs, t, fr, x, rfl⟩ := htr g hgg; exact ⟨cs, _, fr, x, by decide⟩))
  refine ⟨⟨blk_other hb2 hpt 1 lv', keep (by decide) (own_keepT h.o0 h.lev (by decide) hg), keep (by decide) (own_keepT h.o1 h.lev (by decide) hg), blk_set ht2 1 lv', ?_, ?_, below_cell bel2 htb 1 lv' rfl⟩, (cell_blk ht2 1).trans rfl, frozen_blk ht2 1⟩
  · have e : lvc (fun j => if j = k then vn else vb j) W l (k + 1) = lvc vb W l k ++ [.pointer (some ⟨vn, 0, none⟩), .int .i64 ((zeros (W - 1 - k) (lvl W l k) : Nat) : Int)] := by
      rw [lvc, lvc_same (fun j => if j = k then vn else vb j) vb W l k (fun j hj => by simp; omega)]
      simp
    rw [e]
    exact keep (by decide) ho
  · intro j hj
    by_cases hjk : j = k
    · subst hjk
      simp only [if_true]
      obtain ⟨hh, h1, h2⟩ := hV
      exact ⟨hh, kv h1, h2⟩
    · simp only [if_neg hjk]
      obtain ⟨hh, h1, h2⟩ := h.vec j (by omega)
      exact ⟨hh, kv h1, h2⟩
/-- the parts are one row again -/
theorem Rest.join {w : World} {pb tb W : Nat} {l : List Nat} {k : Nat} {a b : List Nat} {p0 p1 lv v : Value} {vb : Nat → Nat} {wx wy : World} (h : Rest w pb tb W l (k + 1) a b p0 p1 lv vb wx)
    (ho : wy.ownsRow w.heap.size 3 1 v (IL a ++ IL b).length (VI (IL a ++ IL b))) (hg : wx.grownBy wy p0.ownBlock) (hab : IL a ++ IL b = IL (prt (W - 1 - k) (lvl W l k))) : Outer w tb W l (k + 1) v wy := by
  have hr : ∀ g, p0.ownBlock = some g → ∃ cs t fr, wx.heap[g]? = some (.cells cs t fr) ∧ t = 3 := by
    intro g hgg
    rcases h.o0.2 with ⟨rfl, _⟩ | ⟨g', cap, cur, rfl, _, hb, _⟩
    · cases hgg
    · injection hgg with hgg; subst hgg
      exact ⟨_, _, _, hb, rfl⟩
  rw [hab] at ho
  refine ⟨ho, ⟨lv, vb, grown_blk hg h.tree (own_neS h.o0 h.tree (by decide)), own_keepT h.lev h.o0 (by decide) hg, fun j hj => ?_⟩, h.bel.grown hg h.bel.size (fun q hq => (World.ownsRow.lt h.o0 q hq).1)⟩
  obtain ⟨hh, h1, h2⟩ := h.vec j hj
  exact (h1.grownT hg (fun g hgg => by obtain ⟨cs, t, fr, x, rfl⟩ := hr g hgg; exact ⟨cs, _, fr, x, by decide, by decide⟩) h2).vec
end Go.Proofs.Ytfgkkffgcgjhfaa
