/- A map with keys, whose values are whatever they are: what it tells at each key. -/
import Derived.Test.YtphccomhggnccaaGreatSgX
import Derived.Maps.OwnSet
import Derived.Maps.OwnOps
import Derived.StringKeys
import Derived.Test.YtphccomhggnccaaGreatRfM
import Derived.Deep.RegionLaw
import Derived.StillTailTactics
set_option linter.unusedVariables false
set_option linter.unusedSimpArgs false
set_option maxRecDepth 100000
namespace Go.Proofs.YtphccomhggnccaaGreat
open Go.RowKit Go.Maps Sg Fm
def asIs (v : Value) : Option (DataW Value × List MemPlace) := some (.held v, [])
theorem keyedS : Keyed Tryz.prog 9 := string_keyed Tryz.underlying9
def MpS (w : World) (z : Value) (b n : Nat) (f : Key → Value) : Prop := ∃ D, w.ownsMap Tryz.prog 9 asIs b n D ∧ IsMap D ∧ ∀ k : Key, D.atKey (.string k) (.held z) = .held (f k)
theorem keyOf_ba (k : Key) (hk : k.length ≤ 1099511627776) : Go.keyOf Tryz.prog 9 (.string (ba k)) = some (.string k) := by
  have := Go.WideMaps.keyOf_string_mk (P := Tryz.prog) (k := 9) Tryz.underlying9 (s := ba k) (by unfold maxLen; simp [ba, ByteArray.size]; omega)
  simpa [ba] using this
theorem MpS.made (w : World) (z : Value) : MpS (w.alloc (.map #[] 0)) z w.heap.size 0 (fun _ => z) := ⟨_, World.ownsMap_made w _ _ _, ⟨_, rfl⟩, fun k => rfl⟩
theorem MpS.kept {w w' : World} {z : Value} {b n : Nat} {f : Key → Value} {r : Option Nat} (h : MpS w z b n f) (hg : w.grownBy w' r) (hne : some b ≠ r) : MpS w' z b n f := by
  obtain ⟨D, h1, h2, h3⟩ := h
  exact ⟨D, h1.kept hg hne, h2, h3⟩
theorem MpS.lt {w : World} {z : Value} {b n : Nat} {f : Key → Value} (h : MpS w z b n f) : b < w.heap.size := by
  obtain ⟨D, h1, h2, h3⟩ := h
  exact h1.lt
theorem MpS.below {w w' : World} {z : Value} {b n : Nat} {f : Key → Value} (h : MpS w z b n f) (hb : Below w.heap.size w w') : MpS w' z b n f :=
  h.kept (below_grown hb (Nat.le_refl _) none) nofun
theorem MpS.look {w : World} {z : Value} {b n : Nat} {f : Key → Value} {t e : TypeId} (h : MpS w z b n f) (ht : Tryz.prog.underlying t = some (.map 9 e)) (hz : (zeroValue e).run Tryz.prog w = .ok z w) (k : Key) (hk : k.length ≤ 1099511627776) :
    (Instr.lookup t (.map (some b)) (.string (ba k)) false).run Tryz.prog w = .ok (f k) w := by
  obtain ⟨D, h1, h2, h3⟩ := h
  obtain ⟨v, ps, hrun, hv⟩ := h1.lookup keyedS ht hz rfl (keyOf_ba k hk)
  rw [h3 k] at hv
  have : v = f k := by
    have := congrArg (fun o => o.map (·.1)) hv
    simp [asIs] at this
    exact this
  rw [hrun, this]
theorem MpS.put {w : World} {z : Value} {b n : Nat} {f : Key → Value} {t e : TypeId} (h : MpS w z b n f) (ht : Tryz.prog.underlying t = some (.map 9 e)) (hn : n < 1099511627776) (k : Key) (hk : k.length ≤ 1099511627776) (v : Value) :
    ∃ w', (Instr.mapUpdate t (.map (some b)) (.string (ba k)) v).run Tryz.prog w = .ok () w' ∧ MpS w' z b (n + 1) (fun x => if x = k then v else f x) ∧ w.grownBy w' (some b) := by
  obtain ⟨D, h1, h2, h3⟩ := h
  obtain ⟨w', hrun, ho, hg⟩ := h1.update keyedS ht (by unfold maxLen; omega) (keyOf_ba k hk) (val := v) (d := .held v) (ps := []) rfl
  refine ⟨w', hrun, ⟨_, ho, h2.put _ _, fun x => ?_⟩, hg⟩
  by_cases hx : x = k
  · subst hx
    dsimp only
    rw [if_pos rfl]
    exact atKey_put_same h2 (keyedS.key (keyOf_ba x hk)) _ _
  · dsimp only
    rw [if_neg hx, atKey_put_other (fun e => hx (by injection e)), h3]
end Go.Proofs.YtphccomhggnccaaGreat
namespace Go.Proofs.YtphccomhggnccaaGreat
open Go.RowKit Sg Fm
structure R9 (w0 w : World) (x : Nat) (cv gv tv : Value) (ts : List De) (dv : Value) (ds ps : List De) : Prop where
  xb : w.heap[x]? = some (.cells #[cv, gv] 63 (0, 0))
  xg : w0.heap.size ≤ x
  ht : w.ownsRow w0.heap.size 34 1 tv ts.length (VT ts)
  hd : w.ownsRow w0.heap.size 36 2 dv ds.length (VD ds)
  xt : tv.ownBlock ≠ some x
  xd : dv.ownBlock ≠ some x
  td : ∀ g, tv.ownBlock = some g → dv.ownBlock ≠ some g
  txt : ∀ e ∈ ps, TxtOk w e ∧ ∀ a, e.a = some a → a.spot = none ∧ w0.heap.size ≤ a.block ∧ a.block < w.heap.size ∧ tv.ownBlock ≠ some a.block ∧ dv.ownBlock ≠ some a.block ∧ a.block ≠ x
  bel : Below w0.heap.size w0 w
theorem TxtOk.grown {w w' : World} {e : De} {r : Option Nat} (h : TxtOk w e) (hg : w.grownBy w' r) (hne : ∀ a, e.a = some a → r ≠ some a.block) : TxtOk w' e :=
  ⟨h.len, h.le, h.nil, h.sl.grown hg (fun a ha _ e2 => hne a ha e2.symm), h.lt⟩
theorem own_len {w : World} {base : Nat} {e : TypeId} {size : Nat} {v : Value} {n m : Nat} {xs : List Value} (h : w.ownsRow base e size v n xs) (he : n = m) : w.ownsRow base e size v m xs := by subst he; exact h
theorem txt_own {w : World} {base : Nat} {A : Option Addr} {m c n : Nat} {t : List Nat} {k : Key} (h : w.ownsRow base 5 1 (.slice A m c) n (VY t)) (hb : ∀ b ∈ t, b < 256) :
    TxtOk w ⟨k, A, n, c, t⟩ ∧ ∀ a, A = some a → a.spot = none ∧ base ≤ a.block ∧ a.block < w.heap.size := by
  obtain ⟨A', c', hv, hS, hnc, hnil, hl, ha, -⟩ := own_form h
  injection hv with h1 h2 h3
  subst h1 h3
  rw [VY_length, Nat.mul_one] at hl
  exact ⟨⟨hl, hnc, hnil, hS, hb⟩, fun a e => ⟨by rw [(ha a e).2.2.1], (ha a e).1, (ha a e).2.1⟩⟩
section
variable {w0 w w' : World} {x : Nat} {cv gv tv dv : Value} {ts ds ps : List De}
theorem R9.below (h : R9 w0 w x cv gv tv ts dv ds ps) (hb : Below w.heap.size w w') : R9 w0 w' x cv gv tv ts dv ds ps :=
  ⟨(hb.block x (blk_lt h.xb)).trans h.xb, h.xg, own_below h.ht hb, own_below h.hd hb, h.xt, h.xd, h.td, fun e he => by
    obtain ⟨h1, h2⟩ := h.txt e he
    refine ⟨h1.below hb, fun a ha => ?_⟩
    obtain ⟨q1, q2, q3, q4⟩ := h2 a ha
    exact ⟨q1, q2, Nat.lt_of_lt_of_le q3 hb.size, q4⟩, h.bel.trans (hb.mono h.bel.size)⟩
theorem R9.add (h : R9 w0 w x cv gv tv ts dv ds ps) (hb : Below w.heap.size w w') (e : De) (he : TxtOk w' e) (ha : ∀ a, e.a = some a → a.spot = none ∧ w.heap.size ≤ a.block ∧ a.block < w'.heap.size) : R9 w0 w' x cv gv tv ts dv ds (ps ++ [e]) := by
  have h' := h.below hb
  refine ⟨h'.xb, h'.xg, h'.ht, h'.hd, h'.xt, h'.xd, h'.td, fun e2 he2 => ?_, h'.bel⟩
  rcases List.mem_append.1 he2 with he2 | he2
  · exact h'.txt e2 he2
  · have he2 : e2 = e := by simpa using he2
    subst he2
    refine ⟨he, fun a hea => ?_⟩
    obtain ⟨q1, q2, q3⟩ := ha a hea
    have hx := blk_lt h.xb
    refine ⟨q1, Nat.le_trans h.bel.size q2, q3, fun e3 => ?_, fun e3 => ?_, by omega⟩
    · have := (World.ownsRow.lt h.ht _ e3).2; omega
    · have := (World.ownsRow.lt h.hd _ e3).2; omega
theorem R9.appT {tv' : Value} {e : De} (h : R9 w0 w x cv gv tv ts dv ds ps) (ho : w'.ownsRow w0.heap.size 34 1 tv' (ts.length + 1) (VT ts ++ [.slice e.a e.n e.c])) (hg : w.grownBy w' tv.ownBlock)
    (hat : tv'.ownBlock = tv.ownBlock ∨ tv'.ownBlock = some w.heap.size) : R9 w0 w' x cv gv tv' (ts ++ [e]) dv ds ps := by
  have hne : ∀ b, b < w.heap.size → tv.ownBlock ≠ some b → tv'.ownBlock ≠ some b := fun b hb h1 e2 => by
    rcases hat with h2 | h2
    · exact h1 (h2.symm.trans e2)
    · rw [e2] at h2; have := Option.some.inj h2; omega
  refine ⟨grown_blk hg h.xb (Ne.symm h.xt), h.xg, ?_, own_keepR h.hd hg (fun g h1 e2 => h.td g e2 h1), hne x (blk_lt h.xb) h.xt, h.xd, fun g h1 h2 => ?_, fun e2 he2 => ?_, h.bel.grown hg h.bel.size (fun k hk => (World.ownsRow.lt h.ht k hk).1)⟩
  · rw [List.length_append, show VT (ts ++ [e]) = VT ts ++ [.slice e.a e.n e.c] by simp [VT]]; exact ho
  · rcases hat with h3 | h3
    · exact h.td g (h3.symm.trans h1) h2
    · rw [h1] at h3; have := Option.some.inj h3; have := (World.ownsRow.lt h.hd g h2).2; omega
  · obtain ⟨h1, h2⟩ := h.txt e2 he2
    refine ⟨h1.grown hg (fun a ha => (h2 a ha).2.2.2.1), fun a ha => ?_⟩
    obtain ⟨q1, q2, q3, q4, q5, q6⟩ := h2 a ha
    exact ⟨q1, q2, Nat.lt_of_lt_of_le q3 hg.size, hne _ q3 q4, q5, q6⟩
theorem R9.appD {dv' : Value} {e : De} (h : R9 w0 w x cv gv tv ts dv ds ps) (ho : w'.ownsRow w0.heap.size 36 2 dv' (ds.length + 1) (VD ds ++ encD e)) (hg : w.grownBy w' dv.ownBlock)
    (hat : dv'.ownBlock = dv.ownBlock ∨ dv'.ownBlock = some w.heap.size) : R9 w0 w' x cv gv tv ts dv' (ds ++ [e]) ps := by
  have hne : ∀ b, b < w.heap.size → dv.ownBlock ≠ some b → dv'.ownBlock ≠ some b := fun b hb h1 e2 => by
    rcases hat with h2 | h2
    · exact h1 (h2.symm.trans e2)
    · rw [e2] at h2; have := Option.some.inj h2; omega
  refine ⟨grown_blk hg h.xb (Ne.symm h.xd), h.xg, own_keepR h.ht hg (fun g h1 e2 => h.td g h1 e2), ?_, h.xt, hne x (blk_lt h.xb) h.xd, fun g h1 h2 => ?_, fun e2 he2 => ?_, h.bel.grown hg h.bel.size (fun k hk => (World.ownsRow.lt h.hd k hk).1)⟩
  · rw [List.length_append, VD_append, show VD [e] = encD e by simp [VD]]; exact ho
  · exact hne g (World.ownsRow.lt h.ht g h1).2 (h.td g h1) h2
  · obtain ⟨h1, h2⟩ := h.txt e2 he2
    refine ⟨h1.grown hg (fun a ha => (h2 a ha).2.2.2.2.1), fun a ha => ?_⟩
    obtain ⟨q1, q2, q3, q4, q5, q6⟩ := h2 a ha
    exact ⟨q1, q2, Nat.lt_of_lt_of_le q3 hg.size, q4, hne _ q3 q5, q6⟩
theorem R9.store (h : R9 w0 w x cv gv tv ts dv ds ps) (v : Value) : R9 w0 (w.setCell ⟨x, 0, none⟩ v) x v gv tv ts dv ds ps := by
  have hg := grown_set w x 0 v
  refine ⟨blk_set h.xb 0 v, h.xg, own_keepR h.ht hg (fun g h1 e => ?_), own_keepR h.hd hg (fun g h1 e => ?_), h.xt, h.xd, h.td, fun e2 he2 => ?_, h.bel.grown hg h.bel.size (fun k hk => by have := Option.some.inj hk; have := h.xg; omega)⟩
  · have := Option.some.inj e; subst this; exact h.xt h1
  · have := Option.some.inj e; subst this; exact h.xd h1
  · obtain ⟨h1, h2⟩ := h.txt e2 he2
    refine ⟨h1.grown hg (fun a ha e3 => (h2 a ha).2.2.2.2.2 (Option.some.inj e3).symm), fun a ha => ?_⟩
    obtain ⟨q1, q2, q3, q4, q5, q6⟩ := h2 a ha
    exact ⟨q1, q2, Nat.lt_of_lt_of_le q3 hg.size, q4, q5, q6⟩
theorem stepDc {o : Oper} {a : Act} {K : Act → World → Prop} {Q : Exit → Act → World → Prop} {E : Prop} {ys : Nat → Option Bool} (hgd : o.guard = none) (s xx : Operand)
    (ho : o.op = .call { callee := .builtin .append, args := #[s, xx], argTypes := #[22, 22] })
    (h : R9 w0 w x cv gv tv ts dv ds ps) (hs : a.eval s = dv) {b c : Nat} (hx : a.eval xx = .slice (some ⟨b, 0, none⟩) 1 c) {e : De}
    (hb : w.heap[b]? = some (.cells #[.string (ba e.k), .slice e.a e.n e.c] 36 (0, 0))) {n : Nat} (hn : ds.length = n) (hl : n ≤ 1099511627)
    (hk : ∀ A c' w', R9 w0 w' x cv gv tv ts (.slice A (n + 1) c') (ds ++ [e]) ps → w.grownBy w' dv.ownBlock → K (a.put o.dst (.slice A (n + 1) c')) w') : if Region.wanted o ys = true then Oper.wp Tryz.prog o a w K Q else E := by
  subst hn
  refine stepE el_doc hgd s xx ho w0.heap.size dv ds.length (VD ds) hs h.hd (some ⟨b, 0, none⟩) 1 c (encD e) hx (fun e => by cases e) rfl (sl_blk (xs := encD e) hb) (encD_one e) (by omega) h.bel.size ?_
  intro v' w' h3 h4 _ h5
  obtain ⟨A, c', rfl, -, -, -, -, -, -⟩ := own_form h3
  exact hk A c' w' (h.appD h3 h4 h5) h4
end
end Go.Proofs.YtphccomhggnccaaGreat
namespace Go.Proofs.YtphccomhggnccaaGreat
open Go.RowKit Sg Fm
theorem es_sorted {es es' : List De} (hn : (es.map (·.k)).Nodup) (hk : es'.map (·.k) = srt (es.map (·.k))) (he : ∀ e ∈ es', ∃ e0 ∈ es, e.k = e0.k ∧ e.t = e0.t ∧ e.n = e0.n) : es'.map De.dc = sortD (es.map De.dc) := by
  have hkd : keysD (es.map De.dc) = es.map (·.k) := by simp [keysD, De.dc]
  have hnd : (keysD (es.map De.dc)).Nodup := by rw [hkd]; exact hn
  rw [← byKeys_eq hnd]
  unfold byKeys
  rw [hkd, ← hk, List.map_map]
  refine List.map_congr_left fun e hm => ?_
  obtain ⟨e0, h0, h1, h2, _⟩ := he e hm
  have h3 := txtOf_mem hnd (List.mem_map_of_mem (f := De.dc) h0)
  show (e.k, e.t) = (e.k, (txtOf (es.map De.dc) e.k).getD [])
  rw [h1, h2]
  have h4 : txtOf (es.map De.dc) e0.k = some e0.t := h3
  rw [h4]
  rfl
theorem refm_of_R9 {w0 w : World} {base x : Nat} {Ad A3 : Option Addr} {i cd ng c3 : Nat} {tv : Value} {es' : List De} {gs : List Key} (h : R9 w0 w x (.slice Ad i cd) (.slice A3 ng c3) tv es' (.slice Ad i cd) es' es') (hl : es'.length = i) (hb : base ≤ w0.heap.size)
    (hG : GArg w A3 ng c3 gs) (hge : ∀ a, A3 = some a → base ≤ a.block ∧ a.block < w.heap.size ∧ a.spot = none) : RefM w base x es' gs := by
  obtain ⟨A', c', hv, hS, hnc, hnil, -, ha, -⟩ := own_form h.hd
  injection hv with h1 h2 h3
  subst h1 h3
  refine ⟨Nat.le_trans hb h.xg, Ad, A3, cd, c3, ?_, ⟨rfl, hnc, hnil, hS, fun e he => (h.txt e he).1⟩, ?_, ⟨fun a e => by rw [(ha a e).2.2.1], fun a e => ⟨Nat.le_trans hb (ha a e).1, (ha a e).2.1⟩⟩, ⟨fun a e => (hge a e).2.2, fun a e => ⟨(hge a e).1, (hge a e).2.1⟩⟩, fun e he => ⟨fun a e2 => ((h.txt e he).2 a e2).1, fun a e2 => ⟨Nat.le_trans hb ((h.txt e he).2 a e2).2.1, ((h.txt e he).2 a e2).2.2.1⟩⟩⟩
  · rw [hl, hG.len]; exact h.xb
  · rw [hG.len]; exact hG
theorem rarg_of_R9 {w0 w : World} {x : Nat} {cv gv : Value} {At : Option Addr} {ct i : Nat} {es' ps : List De} {dv : Value} {ds : List De} (h : R9 w0 w x cv gv (.slice At i ct) es' dv ds ps) (hl : es'.length = i) (hi : i ≤ 1099511627) (hp : ∀ e ∈ es', e ∈ ps) (hn : ∀ e ∈ es', e.t.length ≤ 1099511627) : RArg w At i ct (es'.map (·.t)) := by
  obtain ⟨A', c', hv, hS, hnc, hnil, -, ha, -⟩ := own_form h.ht
  injection hv with h1 h2 h3
  subst h1 h3
  exact rarg_of_row hS hl (by omega) (fun e he => (h.txt e (hp e he)).1) (fun e he => by have h1 := (h.txt e (hp e he)).1.len; have h2 := hn e he; omega)
theorem bodyS_len {ds : List Dc} {gs : List Key} {l : List Nat} (h : Lite ds gs) (hl : l.length ≤ 65536) (hv : ∀ v ∈ l, v < 512) : (bodyS (keysD ds) gs l).length ≤ 1000000 := by
  have h1 := h.w
  have h2 := wtG_keysD ds
  have h3 := keysB_wt (keysD ds) (by omega)
  have h4 := keysB_wt gs (by omega)
  have h5 := wtD_len ds
  have h6 := wtG_len gs
  have h7 := num_len10 (v := (keysD ds).length) (by rw [keysD_length]; omega)
  have h8 := num_len10 (v := gs.length) (by omega)
  have h9 := num_len10 (v := l.length) (by omega)
  have h10 := nums_len 1 l (fun v hm => by have := hv v hm; omega)
  unfold bodyS
  simp only [List.length_append, List.length_cons, List.length_nil]
  omega
end Go.Proofs.YtphccomhggnccaaGreat
namespace Go.Proofs.YtphccomhggnccaaGreat
set_option pp.deepTerms true
set_option pp.maxSteps 100000
open Go.RowKit Go.Maps Sg Fm
def txF (f : Key → Value) : List De → Key → Value
  | [] => f
  | e :: r => txF (fun x => if x = e.k then .slice e.a e.n e.c else f x) r
theorem txF_snoc (e : De) : ∀ (l : List De) (f : Key → Value), txF f (l ++ [e]) = fun x => if x = e.k then .slice e.a e.n e.c else txF f l x
  | [], f => rfl
  | a :: r, f => by rw [List.cons_append, txF, txF_snoc e r]; rfl
theorem txF_miss : ∀ (l : List De) (f : Key → Value) (k : Key), k ∉ l.map (·.k) → txF f l k = f k
  | [], f, k, _ => rfl
  | a :: r, f, k, h => by
    rw [List.map_cons, List.mem_cons, not_or] at h
    rw [txF, txF_miss r _ k h.2]
    exact if_neg h.1
theorem txF_hit : ∀ (l : List De) (f : Key → Value), (l.map (·.k)).Nodup → ∀ e ∈ l, txF f l e.k = .slice e.a e.n e.c
  | [], f, _, e, he => by cases he
  | a :: r, f, hn, e, he => by
    rw [List.map_cons, List.nodup_cons] at hn
    rcases List.mem_cons.1 he with rfl | he
    · rw [txF, txF_miss r _ _ hn.1]; exact if_pos rfl
    · rw [txF]; exact txF_hit r _ hn.2 e he
def New9P (w : World) (ds : List Dc) (gs : List Key) (e : Ending) (w' : World) : Prop :=
  (Rise (keysD ds ++ gs) ∧ ∃ (x : Nat) (es : List De), e = .returned (.tuple #[.pointer (some ⟨x, 0, none⟩), .int .i64 0]) ∧ es.map De.dc = sortD ds ∧ RefM w' w.heap.size x es (srt gs) ∧ Below w.heap.size w w') ∨
  (¬ Rise (keysD ds ++ gs) ∧ e = .returned (.tuple #[.pointer none, .int .i64 1]) ∧ Below w.heap.size w w')
set_option maxHeartbeats 20000000 in
theorem new9_any (w : World) (A Ag : Option Addr) (n c ng cg : Nat) (es : List De) (gs : List Key) (hD : DArg w A n c es) (hG : GArg w Ag ng cg gs) (hL : Lite (es.map De.dc) gs) :
    Calls Tryz.prog 13 #[.slice A n c, .slice Ag ng cg] w (New9P w (es.map De.dc) gs) := by
  have hn : n ≤ 4000 := by have h1 := hL.w; have h2 := wtD_len (es.map De.dc); rw [List.length_map, hD.len] at h2; omega
  have hng : ng ≤ 4000 := by have h1 := hL.w; have h2 := wtG_len gs; rw [hG.len] at h2; omega
  have HD := Lib.hid hD
  have HG := Lib.hid hG
  have HL := Lib.hid hL
  have Hn := Lib.hid hD.len
  have Hkl : Hid (∀ e ∈ es, e.k.length ≤ 20000) := Lib.hid (fun e he => by have h1 := wtD_mem (List.mem_map_of_mem (f := De.dc) he); have h2 := hL.w; have h3 : e.dc.1 = e.k := rfl; rw [h3] at h1; omega)
  have hmm := @run_makeMap Tryz.prog
  have hC1 := below_new w (.map #[] 0)
  have HM0 := Lib.hid (MpS.made w (.slice none 0 0))
  have HB0 := Lib.hid hC1
  have hzv : ∀ W, (zeroValue 34).run Tryz.prog W = .ok (.slice none 0 0) W := fun W => by kernel_rfl
  have Hzv := Lib.hid hzv
  clear hD hG hL hC1 hzv
  go_enter Tryz.func13, Tryz.ntmps13
  go_wp2_with fail
  clear hmm
  obtain ⟨M, hM⟩ : ∃ M, w.heap.size = M := ⟨_, rfl⟩
  have HM := Lib.hid hM
  rw [hM] at HM0 ⊢
  clear hM
  generalize w.alloc (.map #[] 0) = w1 at *
  go_loopw [6, 9] (fun t q wr => ∃ j : Nat, j ≤ n ∧ q = .int .i64 (j : Int) ∧ Hid (wr.ownsRow w1.heap.size 9 1 t j (VS ((es.take j).map (·.k)))) ∧ Hid (MpS wr (.slice none 0 0) M j (txF (fun _ => .slice none 0 0) (es.take j))) ∧ Hid (Below w.heap.size w wr) ∧ Hid (w1.heap.size ≤ wr.heap.size)) (fun _ q _ => n - (intOf q).toNat)
  case atStart => exact ⟨0, Nat.zero_le _, rfl, Lib.hid (World.ownsRow_nil _ _ _ _), HM0, HB0, Lib.hid (Nat.le_refl _)⟩
  case round =>
    obtain ⟨j, hj, rfl, HO, HMp, HB, HS⟩ := hrel
    obtain ⟨At, ct, hvt, -, -, -, -, -, -⟩ := own_form HO.out
    subst hvt
    by_cases hjn : j < n
    · obtain ⟨bd, od, rfl, hc0, hc1⟩ := garg_docs0 (HD.out.below HB.out) hjn
      have hje : j < es.length := by rw [Hn.out]; exact hjn
      have Htk := Lib.hid (show (es.take (j + 1)).map (·.k) = (es.take j).map (·.k) ++ [(es[j]?.getD default).k] by
        rw [List.take_succ_eq_append_getElem hje, List.map_append]; simp [hje])
      have Htf := Lib.hid (show es.take (j + 1) = es.take j ++ [es[j]?.getD default] by
        rw [List.take_succ_eq_append_getElem hje]; simp [hje])
      have hkl := Hkl.out (es[j]?.getD default) (by simp [hje])
      have hbd : bd < w.heap.size := (HD.out.lt (Nat.lt_of_le_of_lt (Nat.zero_le _) hjn) _ rfl).1
      generalize hej : es[j]?.getD default = ej at *
      have hsw := HS.out
      clear hje
      go_upto_region 7 with (at_builtin; refine appE el_str rfl _ _ rfl w1.heap.size _ j (VS ((es.take j).map (·.k))) rfl (World.ownsRow.alloc HO.out _) (some ⟨wr.heap.size, 0, none⟩) 1 1 [encStr ej.k] rfl (fun h => by cases h) rfl (sl_blk (heap_alloc_new wr _)) (fun u hu => by simp at hu; subst hu; rfl) (by omega) (by simp; omega) ?_; intro v' w2 hown hg hnn0 hat0; obtain ⟨A7, c7, hv7, -, -, -, -, -, -⟩ := own_form hown; subst hv7; have H7 := Lib.hid hown; have HG7 := Lib.hid hg; clear hown hg hnn0 hat0)
      have hB2 := (HB.out.alloc HB.out.size (.cells #[.string (ba ej.k)] 9)).grown HG7.out (by have := HB.out.size; simp; omega) (fun k hk => by have h1 := (World.ownsRow.lt HO.out k hk).1; have h2 := HB0.out.size; omega)
      have hS2 : w1.heap.size ≤ w2.heap.size := by have := HG7.out.size; simp at this; omega
      have hMo : some M ≠ (Value.slice At j ct).ownBlock := fun e => by
        have h1 := (World.ownsRow.lt HO.out M e.symm).1
        have h2 := HM0.out.lt
        omega
      have hM2 := (HMp.out.below (below_new wr (.cells #[.string (ba ej.k)] 9))).kept HG7.out hMo
      have hc0' : w2.cell? ⟨bd, od + j * 2, none⟩ = some (.string (ba ej.k)) := by
        have := (garg_docs0 (HD.out.below hB2) hjn)
        obtain ⟨b', o', hbo, h1, _⟩ := this
        injection hbo with hbo
        injection hbo with e1 e2
        subst e1 e2
        rw [hej] at h1
        exact h1
      have hc1' : w2.cell? ⟨bd, od + j * 2 + 1, none⟩ = some (.slice ej.a ej.n ej.c) := by
        have := (garg_docs0 (HD.out.below hB2) hjn)
        obtain ⟨b', o', hbo, _, h1⟩ := this
        injection hbo with hbo
        injection hbo with e1 e2
        subst e1 e2
        rw [hej] at h1
        exact h1
      have HB2 := Lib.hid hB2.drew
      have HS2 := Lib.hid hS2
      have HM2 := hM2.below (below_drewN w2.heap.size w2 1)
      have HO2 := Lib.hid (own_below H7.out (below_drewN w2.heap.size w2 1))
      clear hB2 hS2 hMo hM2 hc0 hc1 H7 HG7 HO HMp HB
      go_still_tail 11, (by kernel_rfl)
      change wpList _ _ _ _ _ w2.drew
      change MpS w2.drew _ _ _ _ at HM2
      change Hid (w2.drew.ownsRow _ _ _ _ _ _) at HO2
      obtain ⟨w3, hrun, hM3, hg3⟩ := HM2.put Tryz.underlying80 (by omega) ej.k (by omega) (.slice ej.a ej.n ej.c)
      have HM3 := Lib.hid hM3
      have HB3 := Lib.hid (HB2.out.grown hg3 (by have := HB2.out.size; exact this) (fun k hk => by have := Option.some.inj hk; have := HM.out; omega))
      have HS3 := Lib.hid (Nat.le_trans HS2.out hg3.size)
      have HO3 := Lib.hid (own_keepR HO2.out hg3 (fun g hg e => by have h1 := (World.ownsRow.lt HO2.out g hg).1; have h2 := HM0.out.lt; have := Option.some.inj e; omega))
      clear HM2 hM3 hg3 HB2 HS2 HO2 hc0' hc1'
      generalize w2.drew = wd at *
      go_wp2_with fail
      go_roundw
      case rel => exact ⟨j + 1, by omega, by go_num, Lib.hid (by rw [Htk.out, VS_append]; exact HO3.out), Lib.hid (by rw [Htf.out, txF_snoc]; exact HM3.out), HB3, HS3⟩
      case measure => simp [intOf]; omega
    · obtain rfl : j = n := by omega
      have hO := HO.out
      have hMp := HMp.out
      rw [List.take_of_length_le (by rw [Hn.out]; exact Nat.le_refl _)] at hO hMp
      have hGk := garg_own hO
      have HMp' := Lib.hid hMp
      have HSk := Lib.hid (fun (W : World) (k : Below wr.heap.size wr W) => sorted9_any _ _ _ _ W (hGk.below k) (by omega))
      clear HO HMp HM0 hO hMp
      have HBr := HB
      have HKL : Hid ((es.map (·.k)).length = j) := Lib.hid (by rw [List.length_map, Hn.out])
      clear HB hGk
      go_wp2_with fail
      go_at_call 39
      refine (HSk.out wr (Below.refl _ _)).mono ?_
      rintro e w2 ⟨A2, c2, rfl, hG2, -, hB2⟩
      have HG2 := Lib.hid hG2
      have HM2 := Lib.hid (HMp'.out.below hB2)
      have HB2 := Lib.hid (below_step HBr.out hB2)
      have HS2 := Lib.hid (Nat.le_trans HS.out hB2.size)
      have HSg := Lib.hid (sorted9_any ng gs Ag cg w2 (HG.out.below HB2.out) (by omega))
      clear hG2 hB2 HSk HMp' HBr HS
      go_wp2_with fail
      go_at_call 39
      refine HSg.out.mono ?_
      rintro e w3 ⟨A3, c3, rfl, hG3, hge3, hB3⟩
      have HGe3 := Lib.hid (fun a ha => (⟨Nat.le_trans HB2.out.size (hge3 a ha).1, (hge3 a ha).2⟩ : w.heap.size ≤ a.block ∧ a.block < w3.heap.size ∧ a.spot = none))
      have HG3 := Lib.hid hG3
      have HG2' := Lib.hid (HG2.out.below hB3)
      have HM3 := Lib.hid (HM2.out.below hB3)
      have HB3 := Lib.hid (below_step HB2.out hB3)
      have HS3 := Lib.hid (Nat.le_trans HS2.out hB3.size)
      have hO0 : (w3.alloc (.cells #[] 9)).ownsRow w3.heap.size 9 1 (.slice (some ⟨w3.heap.size, 0, none⟩) 0 0) 0 [] := World.ownsRow_made w3 #[] 0 (Nat.le_refl _) (by decide) (by simp)
      have hC4 := below_new w3 (.cells #[] 9)
      have HO0 := Lib.hid hO0
      have HC4 := Lib.hid hC4
      have HGa := Lib.hid (HG2'.out.below hC4)
      clear hG3 hge3 hB3 HSg HG2 HM2 HB2 HS2 hO0 hC4
      go_wp2_with (at_builtin; first | (refine appE el_str rfl _ _ rfl w3.heap.size _ 0 [] rfl HO0.out A2 j c2 (VS (srt (es.map De.k))) rfl HGa.out.nil (by rw [VS_length, srt_length, HKL.out, Nat.mul_one]) HGa.out.sl (VS_one _) (by omega) HC4.out.size ?_; intro v1 w4 hown1 hg1 hz1 hz2; rw [Nat.zero_add, List.nil_append] at hown1; obtain ⟨A4, c4, hv4, -, -, -, -, -, -⟩ := own_form hown1; subst hv4; have HO4 := Lib.hid hown1; have HB4 := Lib.hid (HC4.out.grown hg1 HC4.out.size (fun k hk => (World.ownsRow.lt HO0.out k hk).1)); clear hown1 hg1 hz1 hz2) | (refine appE el_str rfl _ _ rfl w3.heap.size _ j (VS (srt (es.map De.k))) rfl HO4.out A3 ng c3 (VS (srt gs)) rfl HG3.out.nil (by rw [VS_length, srt_length, HG.out.len, Nat.mul_one]) (HG3.out.sl.below HB4.out) (VS_one _) (by omega) HB4.out.size ?_; intro v1 w5 hown1 hg1 hz1 hz2; obtain ⟨A5, c5, hv5, -, -, -, -, -, -⟩ := own_form hown1; subst hv5; rw [← VS_append] at hown1; have HO5 := Lib.hid hown1; have HB5 := Lib.hid (HB4.out.grown hg1 HB4.out.size (fun k hk => (World.ownsRow.lt HO4.out k hk).1)); clear hown1 hg1 hz1 hz2))
      go_at_call 39
      have e5 : srt (srt (es.map (·.k)) ++ srt gs) = srt (keysD (es.map De.dc) ++ gs) := by
        have e1 : keysD (es.map De.dc) = es.map (·.k) := by simp [keysD, De.dc]
        rw [e1]
        exact srt_same ((srt_perm _).append (srt_perm _))
      have hG5 := garg_own HO5.out
      have HSa := Lib.hid (sorted9_any _ _ _ _ w5 hG5 (by omega))
      refine HSa.out.mono ?_
      rintro e w6 ⟨A6, c6, rfl, hG6, -, hB6⟩
      rw [e5] at hG6
      have HG6 := Lib.hid hG6
      have HB56 := below_next HB5.out hB6
      have HGk := Lib.hid (HG2'.out.below HB56)
      have HGg := Lib.hid (HG3.out.below HB56)
      have H36 := Lib.hid HB56.size
      have HM6 := Lib.hid (HM3.out.below HB56)
      have HB6 := Lib.hid (below_step HB3.out HB56)
      have HS6 := Lib.hid (Nat.le_trans HS3.out HB56.size)
      obtain ⟨N, hN⟩ : ∃ N, j + ng = N := ⟨_, rfl⟩
      have hNb : N ≤ 8000 := by omega
      have Hkk : Hid (∀ k ∈ srt (keysD (es.map De.dc) ++ gs), k.length ≤ 20000) := Lib.hid (fun k hk => by
        have h1 := ((srt_perm _).mem_iff.1 hk)
        have h2 := HL.out.w
        rcases List.mem_append.1 h1 with h1 | h1
        · have := wtG_mem h1; have := wtG_keysD (es.map De.dc); omega
        · have := wtG_mem h1; omega)
      rw [hN] at HG6 ⊢
      clear hG6 hB6 HSa hG5 HO5 HB5 e5 HB56 HG2' HG3 HM3 HB3 HS3 HO0 HC4 HGa HO4 HB4 hN
      have HRp : Hid (Rise (srt (keysD (es.map De.dc) ++ gs)) ↔ Rise (keysD (es.map De.dc) ++ gs)) := Lib.hid (rise_perm (srt_perm _))
      have Hsr := Lib.hid (srt_sorted (keysD (es.map De.dc) ++ gs))
      obtain ⟨LL, hLL⟩ : ∃ L, srt (keysD (es.map De.dc) ++ gs) = L := ⟨_, rfl⟩
      rw [hLL] at HG6 Hkk HRp Hsr
      have HR := Lib.hid (rise_iff Hsr.out)
      rw [HG6.out.len] at HR
      clear hLL
      go_wp2_with fail
      go_loopw [10] (fun q wr => ∃ i : Nat, i ≤ N ∧ q = .int .i64 (i : Int) ∧ Hid (riseN LL i) ∧ Hid (Below w6.heap.size w6 wr)) (fun q _ => N - (intOf q).toNat)
      case atStart => exact ⟨0, Nat.zero_le _, rfl, Lib.hid (riseN_zero _), Lib.hid (Below.refl _ _)⟩
      case round =>
        obtain ⟨i, hi, rfl, HN, HW⟩ := hrel
        by_cases hin : i < N
        · obtain ⟨b6, o6, hA6⟩ := garg_lit HG6.out (by omega)
          subst hA6
          have hcell : wr.cell? ⟨b6, o6 + i, none⟩ = some (.string (ba (LL.getD i []))) := garg_cell (HG6.out.below HW.out) hin
          have hmem := getD_memK (l := LL) (i := i) (by rw [HG6.out.len]; exact hin)
          have hkl6 := Hkk.out _ hmem
          have HI : Hid (∀ W, Calls Tryz.prog 40 #[.string (ba (LL.getD i []))] W fun e w' => e = .returned (.bool (decide (1 ≤ (LL.getD i []).length ∧ (LL.getD i []).length ≤ 64))) ∧ ∃ q, w' = W.drewN q) := Lib.hid (fun W => (key9_any W _ (by omega)).mono (by rintro e w' ⟨rfl, rfl⟩; exact ⟨rfl, 0, rfl⟩))
          have HNs := Lib.hid (riseN_succ (l := LL) (n := i))
          have Hno : Hid (¬ riseN LL (i + 1) → ¬ Rise (keysD (es.map De.dc) ++ gs)) := Lib.hid (fun h hr => h (fun j hj => HR.out.2 (HRp.out.2 hr) j (by omega)))
          have hci : 0 < i → wr.cell? ⟨b6, o6 + (i - 1), none⟩ = some (.string (ba (LL.getD (i - 1) []))) := fun h => garg_cell (HG6.out.below HW.out) (by omega)
          have Hci := Lib.hid hci
          obtain ⟨k, hk⟩ : ∃ k, LL.getD i [] = k := ⟨_, rfl⟩
          obtain ⟨k0, hk0⟩ : ∃ k, LL.getD (i - 1) [] = k := ⟨_, rfl⟩
          rw [hk] at hcell HI HNs
          rw [hk0] at Hci HNs
          have g0 : (0 : Int) ≤ (i : Int) := by omega
          have g1 : (i : Int) < (N : Int) := by omega
          clear hmem hci hk hk0 hkl6
          by_cases hkey : 1 ≤ k.length ∧ k.length ≤ 64
          · rw [decide_eq_true hkey] at HI
            rcases Nat.eq_zero_or_pos i with h0 | h0
            · subst h0
              have HN2 : Hid (riseN LL (0 + 1)) := Lib.hid (HNs.out.2 ⟨HN.out, hkey, fun h => absurd h (Nat.lt_irrefl 0)⟩)
              rw [Nat.add_zero] at hcell
              clear hkey
              go_wp2_with fail
              go_quiet ((go_at_call 40; exact Calls.quiet_of (HI.out _)))
              go_wp2_with fail
              go_roundw
              case rel => exact ⟨1, by omega, rfl, HN2, Lib.hid (HW.out.trans (below_drewN _ _ _))⟩
              case measure => simp [intOf]; omega
            · have hc2 := Hci.out h0
              have h0i : (0 : Int) < (i : Int) := by omega
              have h0d : decide ((0 : Int) < (i : Int)) = true := decide_eq_true h0i
              have h0n : decide (0 < i) = true := decide_eq_true h0
              obtain ⟨i1, hi1⟩ : ∃ i1, i - 1 = i1 := ⟨_, rfl⟩
              rw [hi1] at hc2
              have ei1 : (i : Int) - 1 = (i1 : Int) := by omega
              have ei2 : (i1 : Int) < (N : Int) := by omega
              have ei3 : (0 : Int) ≤ (i1 : Int) := by omega
              have ei4 : IntKind.i64.wrap ((i : Int) - 1) = (i1 : Int) := by rw [ei1]; exact IntWalk.i64_in _ (by omega)
              have heq := beq_key (a := k) (b := k0)
              by_cases hkk : k = k0
              · have Hno2 := Lib.hid (Hno.out fun h => (HNs.out.1 h).2.2 h0 hkk)
                rw [decide_eq_true hkk] at heq
                clear hkey hkk hi1
                go_wp2_with fail
                go_quiet ((go_at_call 40; exact Calls.quiet_of (HI.out _)))
                go_wp2_with fail
                go_ret2
                exact .inr ⟨Hno2.out, rfl, HB6.out.trans ((HW.out.trans (below_drewN _ _ _)).mono HB6.out.size)⟩
              · have HN2 : Hid (riseN LL (i + 1)) := Lib.hid (HNs.out.2 ⟨HN.out, hkey, fun _ => hkk⟩)
                rw [decide_eq_false hkk] at heq
                clear hkey hkk hi1
                go_wp2_with fail
                go_quiet ((go_at_call 40; exact Calls.quiet_of (HI.out _)))
                go_wp2_with fail
                go_roundw
                case rel => exact ⟨i + 1, by omega, by go_num, HN2, Lib.hid (HW.out.trans (below_drewN _ _ _))⟩
                case measure => simp [intOf]; omega
          · rw [decide_eq_false hkey] at HI
            have Hno2 := Lib.hid (Hno.out fun h => hkey (HNs.out.1 h).2.1)
            clear hkey
            rcases Nat.eq_zero_or_pos i with h0 | h0
            · subst h0
              rw [Nat.add_zero] at hcell
              go_wp2_with fail
              go_quiet ((go_at_call 40; exact Calls.quiet_of (HI.out _)))
              go_wp2_with fail
              go_ret2
              exact .inr ⟨Hno2.out, rfl, HB6.out.trans ((HW.out.trans (below_drewN _ _ _)).mono HB6.out.size)⟩
            · have h0i : (0 : Int) < (i : Int) := by omega
              go_wp2_with fail
              go_quiet ((go_at_call 40; exact Calls.quiet_of (HI.out _)))
              go_wp2_with fail
              go_ret2
              exact .inr ⟨Hno2.out, rfl, HB6.out.trans ((HW.out.trans (below_drewN _ _ _)).mono HB6.out.size)⟩
        · obtain rfl : i = N := by omega
          obtain ⟨wo, rfl⟩ : ∃ wo : World, wo = wr := ⟨_, rfl⟩
          have HRr := Lib.hid (HRp.out.1 (HR.out.1 HN.out))
          clear HG6 Hkk Hsr
          have hGk := HGk.out.below HW.out
          have hGg := HGg.out.below HW.out
          have HM7 := Lib.hid (HM6.out.below HW.out)
          have HB7 := Lib.hid (HB6.out.trans (HW.out.mono HB6.out.size))
          have H37 := Lib.hid (Nat.le_trans H36.out HW.out.size)
          have HGk7 := Lib.hid hGk
          have HGg7 := Lib.hid hGg
          have hMlt := HM7.out.lt
          clear hGk hGg HW HN HGk HGg HM6 HB6 HS6 HR HRp
          go_wp2_with fail
          obtain ⟨x, hx⟩ : ∃ x, wo.heap.size = x := ⟨_, rfl⟩
          have hR0 : R9 wo (wo.alloc (.cells #[.slice none 0 0, .slice A3 ng c3] 63)) x (.slice none 0 0) (.slice A3 ng c3) (.slice none 0 0) [] (.slice none 0 0) [] [] := by
            subst hx
            exact ⟨heap_alloc_new wo _, Nat.le_refl _, World.ownsRow_nil _ _ _ _, World.ownsRow_nil _ _ _ _, nofun, nofun, (fun g hg => by cases hg), (fun e he => by cases he), below_new wo _⟩
          have HR0 := Lib.hid hR0
          have Hx := Lib.hid hx
          rw [hx]
          clear hR0 hx
          generalize wo.alloc (.cells #[.slice none 0 0, .slice A3 ng c3] 63) = wL at *
          go_loopw [12, 13] (fun t q wr => ∃ (i : Nat) (es' : List De) (Ad : Option Addr) (cd : Nat), i ≤ j ∧ q = .int .i64 (i : Int) ∧ Hid (es'.length = i) ∧ Hid (es'.map (·.k) = (srt (es.map (·.k))).take i) ∧ Hid (∀ e ∈ es', ∃ e0 ∈ es, e.k = e0.k ∧ e.t = e0.t ∧ e.n = e0.n) ∧ Hid (R9 wo wr x (.slice Ad i cd) (.slice A3 ng c3) t es' (.slice Ad i cd) es' es')) (fun _ q _ => j - (intOf q).toNat)
          case atStart => exact ⟨0, [], none, 0, Nat.zero_le _, rfl, Lib.hid rfl, Lib.hid (by simp), Lib.hid (fun e he => by cases he), HR0⟩
          case round =>
            clear HR0
            obtain ⟨i, es', Ad, cd, hi, rfl, Hel, Hek, Hes, HR9⟩ := hrel
            have hxc : wr.cell? ⟨x, 0, none⟩ = some (.slice Ad i cd) := cell_blk HR9.out.xb 0
            obtain ⟨At, ct, hvt, -, -, -, -, -, -⟩ := own_form HR9.out.ht
            rw [Hel.out] at hvt
            by_cases hij : i < j
            · have hks : i < (srt (es.map (·.k))).length := by rw [srt_length, HKL.out]; exact hij
              obtain ⟨e0, he0, hke⟩ : ∃ e ∈ es, e.k = (srt (es.map (·.k))).getD i [] := by
                have h1 := (srt_perm _).mem_iff.1 (getD_memK hks)
                obtain ⟨e, he, h2⟩ := List.mem_map.1 h1
                exact ⟨e, he, h2⟩
              obtain ⟨bk, ok, hA2⟩ := garg_lit HGk7.out (by omega)
              subst hA2
              have hkc := garg_cell (HGk7.out.below HR9.out.bel) hij
              rw [← hke] at hkc
              have hkl0 := Hkl.out e0 he0
              have htx0 := ((HD.out.txt e0 he0).below (HB7.out.trans (HR9.out.bel.mono HB7.out.size)))
              have hlen0 : e0.t.length ≤ 4096 := HL.out.t _ (List.mem_map_of_mem (f := De.dc) he0)
              have hnd : (es.map (·.k)).Nodup := by
                have h1 := HRr.out.2
                have h2 : keysD (es.map De.dc) = es.map (·.k) := by simp [keysD, De.dc]
                rw [h2] at h1
                exact h1.sublist (List.sublist_append_left _ _)
              have hC := below_new wr (.cells #[] 5)
              have hkc2 := (World.cell?_of_block (hC.block bk (World.block_lt_of_cell? wr _ hkc))).trans hkc
              have hlook := ((HM7.out.below HR9.out.bel).below hC).look Tryz.underlying80 (Hzv.out _) e0.k (by omega)
              rw [txF_hit es _ hnd e0 he0] at hlook
              have hO0 : (wr.alloc (.cells #[] 5)).ownsRow wr.heap.size 5 1 (.slice (some ⟨wr.heap.size, 0, none⟩) 0 0) 0 [] := World.ownsRow_made wr #[] 0 (Nat.le_refl _) (by decide) (by simp)
              have HO0 := Lib.hid hO0
              have HC := Lib.hid hC
              have Htx0 := Lib.hid htx0
              have Hsu := Lib.hid (show (srt (es.map (·.k))).take (i + 1) = (srt (es.map (·.k))).take i ++ [e0.k] by
                rw [List.take_succ_eq_append_getElem hks, hke]; simp [List.getD, List.getElem?_eq_getElem hks])
              have Hke0 := Lib.hid he0
              have hle0 : ¬ (4096 : Int) < (e0.n : Int) := by have := htx0.len; omega
              have hn0 : e0.n ≤ 4096 := by have := htx0.len; omega
              have HSt := Lib.hid (htx0.sl.below hC)
              subst hvt
              have Hke2 := Lib.hid hke
              clear hks hke he0 hkl0 htx0 hlen0 hnd hC hO0
              obtain ⟨ek, ea, en, ec, et⟩ := e0
              dsimp only at *
              go_wp2_with (at_builtin; first | (refine appE el_u8 rfl _ _ rfl wr.heap.size _ 0 [] rfl HO0.out ea en ec (VY et) rfl Htx0.out.nil (by rw [VY_length, Nat.mul_one]; exact Htx0.out.len) HSt.out (VY_one _) (by omega) HC.out.size ?_; intro v1 w4 hown1 hg1 hz1 hz2; rw [Nat.zero_add, List.nil_append] at hown1; obtain ⟨A4, c4, hv4, -, -, -, -, -, -⟩ := own_form hown1; subst hv4; have HO4 := Lib.hid hown1; have HB4 := Lib.hid (HC.out.grown hg1 HC.out.size (fun k hk => (World.ownsRow.lt HO0.out k hk).1)); have HR4 := Lib.hid (HR9.out.add (HC.out.grown hg1 HC.out.size (fun k hk => (World.ownsRow.lt HO0.out k hk).1)) ⟨ek, A4, en, c4, et⟩ (txt_own hown1 Htx0.out.lt).1 (txt_own (k := ek) hown1 Htx0.out.lt).2); have HT4 := Lib.hid (own_len HR4.out.ht Hel.out); have hs4 := HR4.out.bel.size; clear hown1 hg1 hz1 hz2) | (refine appE el_row rfl _ _ rfl wo.heap.size _ i (VT es') rfl (World.ownsRow.alloc HT4.out _) (some ⟨w4.heap.size, 0, none⟩) 1 1 [.slice A4 en c4] rfl (fun h => by cases h) rfl (sl_blk (heap_alloc_new w4 _)) (fun u hu => by simp at hu; subst hu; rfl) (by omega) (by simp; omega) ?_; intro v5 w5 hown5 hg5 hz1 hz2; obtain ⟨A5, c5, hv5, -, -, -, -, -, -⟩ := own_form hown5; subst hv5; have HR5 := Lib.hid ((HR4.out.below (below_new w4 (.cells #[.slice A4 en c4] 34))).appT (e := ⟨ek, A4, en, c4, et⟩) (own_len hown5 (congrArg (· + 1) Hel.out.symm)) hg5 hz2); clear hown5 hg5 hz1 hz2))
              have hx5 : w5.cell? ⟨x, 0, none⟩ = some (.slice Ad i cd) := cell_blk HR5.out.xb 0
              have hk5 : w5.cell? ⟨bk, ok + i, none⟩ = some (.string (ba ek)) := by
                have h := garg_cell (HGk7.out.below HR5.out.bel) hij
                rw [← Hke2.out] at h
                exact h
              have Xa : ∀ o, (w5.alloc o).cell? ⟨x, 0, none⟩ = some (.slice Ad i cd) := fun o => (World.cell?_of_block ((below_new w5 o).block x (World.block_lt_of_cell? _ _ hx5))).trans hx5
              have Xb : ∀ o, (w5.alloc o).drew.cell? ⟨x, 0, none⟩ = some (.slice Ad i cd) := fun o => Xa o
              have Xc : ∀ o, (w5.drew.alloc o).cell? ⟨x, 0, none⟩ = some (.slice Ad i cd) := fun o => Xa o
              have Xd : w5.drew.cell? ⟨x, 0, none⟩ = some (.slice Ad i cd) := hx5
              have Ka : ∀ o, (w5.alloc o).cell? ⟨bk, ok + i, none⟩ = some (.string (ba ek)) := fun o => (World.cell?_of_block ((below_new w5 o).block bk (World.block_lt_of_cell? _ _ hk5))).trans hk5
              have Kb : ∀ o, (w5.alloc o).drew.cell? ⟨bk, ok + i, none⟩ = some (.string (ba ek)) := fun o => Ka o
              have Kc : ∀ o, (w5.drew.alloc o).cell? ⟨bk, ok + i, none⟩ = some (.string (ba ek)) := fun o => Ka o
              have Kd : w5.drew.cell? ⟨bk, ok + i, none⟩ = some (.string (ba ek)) := hk5
              have hi9 : i ≤ 1099511627 := by omega
              have HRa : R9 wo (w5.alloc (.cells #[.string (ba ek), .slice A4 en c4] 36)).drew x (.slice Ad i cd) (.slice A3 ng c3) (.slice A5 (i + 1) c5) (es' ++ [⟨ek, A4, en, c4, et⟩]) (.slice Ad i cd) es' (es' ++ [⟨ek, A4, en, c4, et⟩]) := HR5.out.below (below_new w5 (.cells #[.string (ba ek), .slice A4 en c4] 36)).drew
              have HRb : R9 wo (w5.drew.alloc (.cells #[.string (ba ek), .slice A4 en c4] 36)) x (.slice Ad i cd) (.slice A3 ng c3) (.slice A5 (i + 1) c5) (es' ++ [⟨ek, A4, en, c4, et⟩]) (.slice Ad i cd) es' (es' ++ [⟨ek, A4, en, c4, et⟩]) := HR5.out.below ((below_drewN w5.heap.size w5 1).alloc (Nat.le_refl _) (.cells #[.string (ba ek), .slice A4 en c4] 36))
              have hba : (w5.alloc (.cells #[.string (ba ek), .slice A4 en c4] 36)).drew.heap[w5.heap.size]? = some (.cells #[.string (ba ek), .slice A4 en c4] 36 (0, 0)) := heap_alloc_new w5 _
              have hbb : (w5.drew.alloc (.cells #[.string (ba ek), .slice A4 en c4] 36)).heap[w5.heap.size]? = some (.cells #[.string (ba ek), .slice A4 en c4] 36 (0, 0)) := heap_alloc_new w5 _
              go_region_law (first
                | (refine stepDc (e := ⟨ek, A4, en, c4, et⟩) rfl _ _ rfl HRa rfl rfl hba Hel.out hi9 ?_; intro A7 c7 w7 hR7 hg7; have y0 : w7.cell? ⟨x, 0, none⟩ = some (.slice Ad i cd) := cell_blk hR7.xb 0; have y1 : w7.frozen? ⟨x, 0, none⟩ = false := frozen_blk hR7.xb 0)
                | (refine stepDc (e := ⟨ek, A4, en, c4, et⟩) rfl _ _ rfl HRb rfl rfl hbb Hel.out hi9 ?_; intro A7 c7 w7 hR7 hg7; have y0 : w7.cell? ⟨x, 0, none⟩ = some (.slice Ad i cd) := cell_blk hR7.xb 0; have y1 : w7.frozen? ⟨x, 0, none⟩ = false := frozen_blk hR7.xb 0))
              all_goals go_wp2_with fail
              all_goals go_roundw
              all_goals first | (exact ⟨i + 1, es' ++ [⟨ek, A4, en, c4, et⟩], A7, c7, by omega, by go_num, Lib.hid (by rw [List.length_append, Hel.out]; rfl), Lib.hid (by rw [List.map_append, Hek.out, Hsu.out]; rfl), Lib.hid (fun e he => by
                  rcases List.mem_append.1 he with he | he
                  · exact Hes.out e he
                  · have he : e = ⟨ek, A4, en, c4, et⟩ := by simpa using he
                    subst he
                    exact ⟨⟨ek, ea, en, ec, et⟩, Hke0.out, rfl, rfl, rfl⟩), Lib.hid (hR7.store _)⟩) | (simp [intOf]; omega)
            · obtain rfl : i = j := by omega
              clear HM7
              subst hvt
              have hekk := Hek.out
              rw [List.take_of_length_le (by rw [srt_length, HKL.out]; exact Nat.le_refl _)] at hekk
              have hnd : (es.map (·.k)).Nodup := by
                have h1 := HRr.out.2
                have h2 : keysD (es.map De.dc) = es.map (·.k) := by simp [keysD, De.dc]
                rw [h2] at h1
                exact h1.sublist (List.sublist_append_left _ _)
              have hsort := es_sorted hnd hekk Hes.out
              have hLs : Lite (es'.map De.dc) (srt gs) := by rw [hsort]; exact HL.out.perm (sortD_perm _) (srt_perm _)
              have hts : es'.map (·.t) = textsD (es'.map De.dc) := by simp [textsD, De.dc]
              have hfits := hLs.fits.t
              rw [← hts] at hfits
              have hRA := rarg_of_R9 HR9.out Hel.out (by omega) (fun e he => he) (fun e he => by have := hLs.t _ (List.mem_map_of_mem (f := De.dc) he); have h2 : e.t.length ≤ 4096 := this; omega)
              have HLo := Lib.hid (long7_any wr At _ ct _ hRA hfits)
              have HRM := Lib.hid (refm_of_R9 HR9.out Hel.out HB7.out.size (HGg7.out.below HR9.out.bel) (fun a ha => ⟨(HGe3.out a ha).1, Nat.lt_of_lt_of_le (HGe3.out a ha).2.1 (Nat.le_trans H37.out HR9.out.bel.size), (HGe3.out a ha).2.2⟩))
              have HBo := Lib.hid (body9_any HRM.out hLs)
              have Hsort := Lib.hid hsort
              have HLs := Lib.hid hLs
              have HBf := Lib.hid (HB7.out.trans (HR9.out.bel.mono HB7.out.size))
              have Htlt : Hid (∀ t ∈ textsD (es'.map De.dc), ∀ b ∈ t, b < 256) := Lib.hid (fun t ht => by
                rw [← hts] at ht
                obtain ⟨e, he, rfl⟩ := List.mem_map.1 ht
                exact (HR9.out.txt e he).1.lt)
              have Hrf := Lib.hid hLs.fits.t
              clear hnd hsort hLs hts hfits hRA hekk
              go_wp2_with fail
              go_at_call 41
              refine HLo.out.mono ?_
              rintro e w8 ⟨rfl, hw8⟩
              subst hw8
              clear HLo
              go_wp2_with fail
              go_at_call 42
              refine HBo.out.mono ?_
              rintro e w9 ⟨sa, hIs, v9, rfl, hO9, hB9⟩
              obtain ⟨A9, c9, hv9, -, -, -, -, -, -⟩ := own_form hO9
              subst hv9
              have hbl := bodyS_len (l := trn (rowT (textsD (es'.map De.dc))) sa) HLs.out (by rw [trn_length hIs]; exact Hrf.out) (fun v hv => rowT_lt _ Htlt.out v ((trn_perm (rowT_closed _) hIs).mem_iff.1 hv))
              obtain ⟨bl, hble⟩ : ∃ b, (bodyS (keysD (es'.map De.dc)) (srt gs) (trn (rowT (textsD (es'.map De.dc))) sa)).length = b := ⟨_, rfl⟩
              rw [hble] at hbl ⊢
              have hbl2 : ¬ (1048512 : Int) < (bl : Int) := by omega
              have HB9 := Lib.hid (below_step HBf.out hB9)
              have HRM9 := Lib.hid (HRM.out.below hB9)
              clear hble hO9 hB9 hIs HBo
              go_wp2_with fail
              go_ret2
              exact .inl ⟨HRr.out, x, es', rfl, Hsort.out, HRM9.out, HB9.out⟩
end Go.Proofs.YtphccomhggnccaaGreat
