/- Two rows of the call's own that grow side by side; an append of which one knows where the row then lies. -/
import Derived.Test.YtphccomhggnccaaGreatFmIdx
import Derived.Maps.AppendAt
namespace Go.Proofs.YtphccomhggnccaaGreat
set_option linter.unusedVariables false
set_option linter.unusedSimpArgs false
set_option maxRecDepth 100000
open Go.RowKit Fm

theorem starts_new (w : World) : (w.alloc (.cells (I [0]) 3)).ownsRow w.heap.size 3 1 (.slice (some ⟨w.heap.size, 0, none⟩) 1 1) 1 (VI (NI [0])) := by
  refine ⟨rfl, .inr ⟨w.heap.size, 1, I [0], rfl, Nat.le_refl _, heap_alloc_new w _, Nat.le_refl _, by decide, rfl, rfl⟩⟩

/-- an append of one number, and where the row then lies -/
theorem app_int_mv {w : World} {ops : Array Oper} {rest : List Oper} {o : Oper} {a : Act} {Q : Exit → Act → World → Prop} (hgd : o.guard = none) (s x : Operand)
    (ho : o.op = .call { callee := .builtin .append, args := #[s, x], argTypes := #[26, 26] })
    (base : Nat) (v : Value) (xs : List Int) (hs : a.eval s = v) (hown : w.ownsRow base 3 1 v xs.length (VI xs))
    (ad : Addr) (m c : Nat) (news : List Int) (hx : a.eval x = .slice (some ad) m c) (hl : news.length = m) (hnews : Sl w (some ad) (VI news))
    (h63 : xs.length + m ≤ 1099511627776) (hbase : base ≤ w.heap.size)
    (h : ∀ v' w', w'.ownsRow base 3 1 v' (xs ++ news).length (VI (xs ++ news)) → w.grownBy w' v.ownBlock → (v'.ownBlock = v.ownBlock ∨ v'.ownBlock = some w.heap.size) → wpList Tryz.prog ops Q rest (a.put o.dst v') w') : wpList Tryz.prog ops Q (o :: rest) a w := by
  obtain ⟨i0, hi, hz0, hz1, hz2⟩ := info_parts info_int
  refine wpList_append_own_at w hgd s x 26 ho base 3 i0 (.int .i64 0) 1 8 Tryz.underlying26 hi hz0 hz1 hz2 rfl (by decide) v xs.length (VI xs) hs hown ad m c (VI news) hx (by rw [VI_length]; omega) (hnews.cell ad rfl) (VI_one _) (by unfold maxLen; omega) (by omega) hbase ?_
  intro v' w' h1 h2 _ h4
  refine h v' w' ?_ h2 h4
  rw [List.length_append, hl, VI_append]
  exact h1
theorem V_append (xs ys : List Nat) : V (xs ++ ys) = V xs ++ V ys := by simp [V]
theorem app_u64_mv {w : World} {ops : Array Oper} {rest : List Oper} {o : Oper} {a : Act} {Q : Exit → Act → World → Prop} (hgd : o.guard = none) (s x : Operand)
    (ho : o.op = .call { callee := .builtin .append, args := #[s, x], argTypes := #[183, 183] })
    (base : Nat) (v : Value) (xs : List Nat) (hs : a.eval s = v) (hown : w.ownsRow base 154 1 v xs.length (V xs))
    (ad : Addr) (m c : Nat) (news : List Nat) (hx : a.eval x = .slice (some ad) m c) (hl : news.length = m) (hnews : Sl w (some ad) (V news))
    (h63 : xs.length + m ≤ 1099511627776) (hbase : base ≤ w.heap.size)
    (h : ∀ v' w', w'.ownsRow base 154 1 v' (xs ++ news).length (V (xs ++ news)) → w.grownBy w' v.ownBlock → (v'.ownBlock = v.ownBlock ∨ v'.ownBlock = some w.heap.size) → wpList Tryz.prog ops Q rest (a.put o.dst v') w') : wpList Tryz.prog ops Q (o :: rest) a w := by
  obtain ⟨i0, hi, hz0, hz1, hz2⟩ := info_parts info_u64
  refine wpList_append_own_at w hgd s x 183 ho base 154 i0 (.int .u64 0) 1 8 Tryz.underlying183 hi hz0 hz1 hz2 rfl (by decide) v xs.length (V xs) hs hown ad m c (V news) hx (by rw [V_length]; omega) (hnews.cell ad rfl) (V_one _) (by unfold maxLen; omega) (by omega) hbase ?_
  intro v' w' h1 h2 _ h4
  refine h v' w' ?_ h2 h4
  rw [List.length_append, hl, V_append]
  exact h1
theorem own_cell {w : World} {base : Nat} {e : TypeId} {v : Value} {n : Nat} {xs : List Value} (h : w.ownsRow base e 1 v n xs) (c j : Nat) (u : Value) (hne : v.ownBlock ≠ some c) : (w.setCell ⟨c, j, none⟩ u).ownsRow base e 1 v n xs :=
  World.ownsRow.kept h (row := some c) ⟨rfl, rfl, rfl, by simp [World.setCell], fun k hk hk2 => Below.heap_setCell w ⟨c, j, none⟩ u k (by show k ≠ c; intro e2; exact hk2 (by rw [e2]))⟩ (.inr hne)
/-- two rows of the call's own, apart -/
structure Two (w : World) (base : Nat) (e1 e2 : TypeId) (u v : Value) (m n : Nat) (xs ys : List Value) : Prop where
  fst : w.ownsRow base e1 1 u m xs
  snd : w.ownsRow base e2 1 v n ys
  ne : ∀ k, u.ownBlock = some k → v.ownBlock ≠ some k
theorem Two.none (w : World) (base : Nat) (e1 e2 : TypeId) : Two w base e1 e2 (.slice none 0 0) (.slice none 0 0) 0 0 [] [] :=
  ⟨World.ownsRow_nil w base e1 1, World.ownsRow_nil w base e2 1, fun k hk => by cases hk⟩
theorem Two.turn {w : World} {base : Nat} {e1 e2 : TypeId} {u v : Value} {m n : Nat} {xs ys : List Value} (h : Two w base e1 e2 u v m n xs ys) : Two w base e2 e1 v u n m ys xs :=
  ⟨h.snd, h.fst, fun k hk e => h.ne k e hk⟩
theorem Two.grow {w w' : World} {base : Nat} {e1 e2 : TypeId} {u v u' : Value} {m n m' : Nat} {xs ys xs' : List Value} (h : Two w base e1 e2 u v m n xs ys) (o : Obj)
    (h1 : w'.ownsRow base e1 1 u' m' xs') (hg : (w.alloc o).grownBy w' u.ownBlock) (hat : u'.ownBlock = u.ownBlock ∨ u'.ownBlock = some (w.alloc o).heap.size) : Two w' base e1 e2 u' v m' n xs' ys := by
  refine ⟨h1, World.ownsRow.kept (World.ownsRow.alloc h.snd o) hg ?_, fun k hk e => ?_⟩
  · cases hv : v.ownBlock with
    | none => exact .inl rfl
    | some k => exact .inr fun e => h.ne k e.symm hv
  · rcases hat with h9 | h9
    · exact h.ne k (h9.symm.trans hk) e
    · rw [hk] at h9
      have h8 := Option.some.inj h9
      have := (World.ownsRow.lt h.snd k e).2
      simp at h8
      omega
theorem Two.below {w w' : World} {base : Nat} {e1 e2 : TypeId} {u v : Value} {m n : Nat} {xs ys : List Value} (h : Two w base e1 e2 u v m n xs ys) (hb : Below w.heap.size w w') : Two w' base e1 e2 u v m n xs ys :=
  ⟨own_below h.fst hb, own_below h.snd hb, h.ne⟩
theorem Two.cell {w : World} {base : Nat} {e1 e2 : TypeId} {u v : Value} {m n : Nat} {xs ys : List Value} (h : Two w base e1 e2 u v m n xs ys) (c j : Nat) (x : Value) (h1 : ∀ k, u.ownBlock = some k → k ≠ c) (h2 : ∀ k, v.ownBlock = some k → k ≠ c) : Two (w.setCell ⟨c, j, .none⟩ x) base e1 e2 u v m n xs ys :=
  ⟨own_cell h.fst c j x (fun e => h1 c e rfl), own_cell h.snd c j x (fun e => h2 c e rfl), h.ne⟩
/-- what lay below the row is as it was -/
theorem below_app {B : Nat} {w0 w w' : World} {o : Obj} {r : Option Nat} (h : Below B w0 w) (hg : (w.alloc o).grownBy w' r) (hs : B ≤ w0.heap.size) (hr : ∀ k, r = some k → B ≤ k) : Below B w0 w' :=
  (h.alloc (by have := h.size; omega) o).grown hg (by have := h.size; simp; omega) hr
end Go.Proofs.YtphccomhggnccaaGreat
