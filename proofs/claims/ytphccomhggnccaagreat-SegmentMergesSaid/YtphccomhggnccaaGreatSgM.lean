/- Merging of documents and keys, in plain lists. -/
import Derived.Test.YtphccomhggnccaaGreatSgX
import Derived.Test.YtphccomhggnccaaGreatRfN
import Derived.Test.YtphccomhggnccaaGreatSgG
set_option linter.unusedVariables false
set_option linter.unusedSimpArgs false
set_option maxRecDepth 100000
namespace Go.Proofs.YtphccomhggnccaaGreat
open Sg
namespace Sg
structure Mg where
  ds : List Dc
  gs : List Key
  seen : List Key
abbrev Sgm := List Dc × List Key
def mgD (m : Mg) (d : Dc) : Mg := if d.1 ∈ m.seen then m else ⟨m.ds ++ [d], m.gs, d.1 :: m.seen⟩
def mgG (last : Bool) (m : Mg) (k : Key) : Mg := if k ∈ m.seen then m else ⟨m.ds, if last then m.gs else m.gs ++ [k], k :: m.seen⟩
def mgS (last : Bool) (m : Mg) (s : Sgm) : Mg := s.2.foldl (mgG last) (s.1.foldl mgD m)
def mrg (last : Bool) (l : List Sgm) : Mg := l.foldl (mgS last) ⟨[], [], []⟩
theorem filter_congr' {α : Type} {p q : α → Bool} {l : List α} (h : ∀ x ∈ l, p x = q x) : l.filter p = l.filter q := List.filter_congr h
theorem foldD (m : Mg) (ds : List Dc) (hn : (keysD ds).Nodup) :
    (ds.foldl mgD m).ds = m.ds ++ ds.filter (fun d => decide (d.1 ∉ m.seen)) ∧ (ds.foldl mgD m).gs = m.gs ∧ ∀ k, k ∈ (ds.foldl mgD m).seen ↔ k ∈ m.seen ∨ k ∈ keysD ds := by
  induction ds generalizing m with
  | nil => exact ⟨by simp, rfl, fun k => by simp [keysD]⟩
  | cons d r ih =>
    have hn' : d.1 ∉ keysD r ∧ (keysD r).Nodup := List.nodup_cons.1 hn
    rw [List.foldl_cons]
    obtain ⟨h1, h2, h3⟩ := ih (mgD m d) hn'.2
    have hk : keysD (d :: r) = d.1 :: keysD r := rfl
    by_cases hs : d.1 ∈ m.seen
    · have e : mgD m d = m := if_pos hs
      rw [e] at h1 h2 h3
      rw [e]
      refine ⟨?_, h2, fun k => ?_⟩
      · rw [h1, List.filter_cons_of_neg (by simpa using hs)]
      · rw [h3, hk, List.mem_cons]
        constructor
        · rintro (h | h)
          · exact .inl h
          · exact .inr (.inr h)
        · rintro (h | rfl | h)
          · exact .inl h
          · exact .inl hs
          · exact .inr h
    · have e : mgD m d = ⟨m.ds ++ [d], m.gs, d.1 :: m.seen⟩ := if_neg hs
      rw [e] at h1 h2 h3
      rw [e]
      refine ⟨?_, h2, fun k => ?_⟩
      · rw [h1, List.filter_cons_of_pos (by simpa using hs), List.append_assoc]
        refine congrArg (m.ds ++ ·) (congrArg (d :: ·) (filter_congr' fun x hx => ?_))
        have : x.1 ≠ d.1 := fun e => hn'.1 (e ▸ List.mem_map_of_mem (f := fun x : Dc => x.1) hx)
        simp [this]
      · rw [h3, hk, List.mem_cons, List.mem_cons]
        constructor
        · rintro ((h | h) | h)
          · exact .inr (.inl h)
          · exact .inl h
          · exact .inr (.inr h)
        · rintro (h | h | h)
          · exact .inl (.inr h)
          · exact .inl (.inl h)
          · exact .inr h
theorem foldG (last : Bool) (m : Mg) (gs : List Key) (hn : gs.Nodup) :
    (gs.foldl (mgG last) m).ds = m.ds ∧ (gs.foldl (mgG last) m).gs = m.gs ++ (if last then [] else gs.filter (fun k => decide (k ∉ m.seen))) ∧ ∀ k, k ∈ (gs.foldl (mgG last) m).seen ↔ k ∈ m.seen ∨ k ∈ gs := by
  induction gs generalizing m with
  | nil => exact ⟨rfl, by cases last <;> simp, fun k => by simp⟩
  | cons d r ih =>
    have hn' : d ∉ r ∧ r.Nodup := List.nodup_cons.1 hn
    rw [List.foldl_cons]
    obtain ⟨h1, h2, h3⟩ := ih (mgG last m d) hn'.2
    by_cases hs : d ∈ m.seen
    · have e : mgG last m d = m := if_pos hs
      rw [e] at h1 h2 h3
      rw [e]
      refine ⟨h1, ?_, fun k => ?_⟩
      · rw [h2, List.filter_cons_of_neg (by simpa using hs)]
      · rw [h3, List.mem_cons]
        constructor
        · rintro (h | h)
          · exact .inl h
          · exact .inr (.inr h)
        · rintro (h | rfl | h)
          · exact .inl h
          · exact .inl hs
          · exact .inr h
    · have e : mgG last m d = ⟨m.ds, if last then m.gs else m.gs ++ [d], d :: m.seen⟩ := if_neg hs
      rw [e] at h1 h2 h3
      rw [e]
      refine ⟨h1, ?_, fun k => ?_⟩
      · rw [h2, List.filter_cons_of_pos (by simpa using hs)]
        cases last with
        | true => rfl
        | false =>
          simp only [Bool.false_eq_true, if_false, List.append_assoc]
          refine congrArg (m.gs ++ ·) (congrArg (d :: ·) (filter_congr' fun x hx => ?_))
          have : x ≠ d := fun e => hn'.1 (e ▸ hx)
          simp [this]
      · rw [h3, List.mem_cons, List.mem_cons]
        constructor
        · rintro ((h | h) | h)
          · exact .inr (.inl h)
          · exact .inl h
          · exact .inr (.inr h)
        · rintro (h | h | h)
          · exact .inl (.inr h)
          · exact .inl (.inl h)
          · exact .inr h
def Once (s : Sgm) : Prop := (keysD s.1 ++ s.2).Nodup
theorem foldS (last : Bool) (m : Mg) (s : Sgm) (hn : Once s) :
    (mgS last m s).ds = m.ds ++ s.1.filter (fun d => decide (d.1 ∉ m.seen)) ∧ (mgS last m s).gs = m.gs ++ (if last then [] else s.2.filter (fun k => decide (k ∉ m.seen))) ∧ ∀ k, k ∈ (mgS last m s).seen ↔ k ∈ m.seen ∨ k ∈ keysD s.1 ∨ k ∈ s.2 := by
  obtain ⟨n1, n2, n3⟩ := List.nodup_append.1 hn
  obtain ⟨a1, a2, a3⟩ := foldD m s.1 n1
  obtain ⟨b1, b2, b3⟩ := foldG last (s.1.foldl mgD m) s.2 n2
  unfold mgS
  refine ⟨by rw [b1, a1], ?_, fun k => by rw [b3, a3, or_assoc]⟩
  rw [b2, a2]
  cases last with
  | true => rfl
  | false =>
    simp only [Bool.false_eq_true, if_false]
    refine congrArg (m.gs ++ ·) (filter_congr' fun x hx => ?_)
    have h1 : x ∉ keysD s.1 := fun h => n3 x h x hx rfl
    have h2 : x ∈ (s.1.foldl mgD m).seen ↔ x ∈ m.seen := by rw [a3]; exact ⟨fun h => h.resolve_right h1, .inl⟩
    simp [h2]
def tellS (s : Sgm) (k : Key) : Option (Option (List Nat)) := if k ∈ keysD s.1 then some (txtOf s.1 k) else if k ∈ s.2 then some none else none
def first (l : List Sgm) (k : Key) : Option (Option (List Nat)) := l.findSome? (tellS · k)
theorem first_append (a b : List Sgm) (k : Key) : first (a ++ b) k = (first a k).or (first b k) := List.findSome?_append
theorem first_one (s : Sgm) (k : Key) : first [s] k = tellS s k := by
  unfold first
  cases h : tellS s k <;> simp [h]
theorem tellS_text {s : Sgm} (hn : Once s) (d : Dc) : tellS s d.1 = some (some d.2) ↔ d ∈ s.1 := by
  obtain ⟨n1, n2, n3⟩ := List.nodup_append.1 hn
  unfold tellS
  constructor
  · intro h
    by_cases hk : d.1 ∈ keysD s.1
    · rw [if_pos hk] at h
      obtain ⟨e, he, hke⟩ := List.mem_map.1 hk
      have h1 := txtOf_mem n1 he
      rw [hke] at h1
      rw [h1] at h
      have h2 : e.2 = d.2 := by simpa using h
      have h3 : e = d := Prod.ext hke h2
      exact h3 ▸ he
    · rw [if_neg hk] at h
      split at h <;> simp at h
  · intro h
    have hk : d.1 ∈ keysD s.1 := List.mem_map_of_mem (f := fun x : Dc => x.1) h
    rw [if_pos hk, txtOf_mem n1 h]
theorem tellS_gone {s : Sgm} (hn : Once s) (k : Key) : tellS s k = some none ↔ k ∈ s.2 := by
  obtain ⟨n1, n2, n3⟩ := List.nodup_append.1 hn
  unfold tellS
  constructor
  · intro h
    by_cases hk : k ∈ keysD s.1
    · rw [if_pos hk] at h
      obtain ⟨e, he, rfl⟩ := List.mem_map.1 hk
      rw [txtOf_mem n1 he] at h
      simp at h
    · rw [if_neg hk] at h
      by_cases h2 : k ∈ s.2
      · exact h2
      · rw [if_neg h2] at h; cases h
  · intro h
    rw [if_neg (fun hk => n3 k hk k h rfl), if_pos h]
theorem tellS_none {s : Sgm} (k : Key) : tellS s k = none ↔ k ∉ keysD s.1 ∧ k ∉ s.2 := by
  unfold tellS
  by_cases h1 : k ∈ keysD s.1 <;> by_cases h2 : k ∈ s.2 <;> simp [h1, h2]
def wtSg (s : Sgm) : Nat := wtD s.1 + wtG s.2
theorem wtD_filter (p : Dc → Bool) (l : List Dc) : wtD (l.filter p) ≤ wtD l := by
  induction l with
  | nil => exact Nat.le_refl _
  | cons a r ih =>
    rw [List.filter_cons]
    split
    · rw [wtD_cons, wtD_cons]; omega
    · rw [wtD_cons]; omega
theorem wtG_filter (p : Key → Bool) (l : List Key) : wtG (l.filter p) ≤ wtG l := by
  induction l with
  | nil => exact Nat.le_refl _
  | cons a r ih =>
    rw [List.filter_cons]
    split
    · rw [wtG_cons, wtG_cons]; omega
    · rw [wtG_cons]; omega
structure IsMg (last : Bool) (l : List Sgm) (m : Mg) : Prop where
  seen : ∀ k, k ∈ m.seen ↔ first l k ≠ none
  ds : ∀ d, d ∈ m.ds ↔ first l d.1 = some (some d.2)
  gs : ∀ k, k ∈ m.gs ↔ last = false ∧ first l k = some none
  once : Once (m.ds, m.gs)
  wt : wtD m.ds + wtG m.gs ≤ (l.map wtSg).sum
theorem IsMg.nil (last : Bool) : IsMg last [] ⟨[], [], []⟩ := ⟨fun k => by simp [first], fun d => by simp [first], fun k => by simp [first], by simp [Once, keysD], by simp [wtD, wtG]⟩
theorem nodup_filter_keys {ds : List Dc} {p : Dc → Bool} (h : (keysD ds).Nodup) : (keysD (ds.filter p)).Nodup := h.sublist (List.filter_sublist.map _)
theorem IsMg.step {last : Bool} {l : List Sgm} {m : Mg} {s : Sgm} (h : IsMg last l m) (hn : Once s) : IsMg last (l ++ [s]) (mgS last m s) := by
  obtain ⟨f1, f2, f3⟩ := foldS last m s hn
  obtain ⟨n1, n2, n3⟩ := List.nodup_append.1 hn
  obtain ⟨o1, o2, o3⟩ := List.nodup_append.1 h.once
  have hfs : ∀ k, first (l ++ [s]) k = (first l k).or (tellS s k) := fun k => by rw [first_append, first_one]
  have dseen : ∀ k ∈ keysD m.ds, k ∈ m.seen := fun k hk => by
    obtain ⟨d, hd, rfl⟩ := List.mem_map.1 hk
    rw [h.seen, (h.ds d).1 hd]; simp
  have gseen : ∀ k ∈ m.gs, k ∈ m.seen := fun k hk => by
    rw [h.seen, ((h.gs k).1 hk).2]; simp
  refine ⟨fun k => ?_, fun d => ?_, fun k => ?_, ?_, ?_⟩
  · rw [f3, hfs, h.seen]
    cases hf : first l k with
    | some v => simp
    | none => 
      have := tellS_none (s := s) k
      simp only [ne_eq, not_true_eq_false, false_or, Option.none_or]
      rw [this]
      by_cases a : k ∈ keysD s.1 <;> by_cases b : k ∈ s.2 <;> simp [a, b]
  · rw [f1, List.mem_append, hfs, h.ds, List.mem_filter, ← tellS_text hn d]
    have hs := h.seen d.1
    cases hf : first l d.1 with
    | some v =>
      have : d.1 ∈ m.seen := by rw [hs, hf]; simp
      simp [this]
    | none =>
      have : d.1 ∉ m.seen := by rw [hs, hf]; simp
      simp [this]
  · rw [f2, List.mem_append, hfs, h.gs]
    have hs := h.seen k
    cases last with
    | true => simp
    | false =>
      simp only [Bool.false_eq_true, if_false, List.mem_filter, true_and]
      rw [← tellS_gone hn k]
      cases hf : first l k with
      | some v =>
        have : k ∈ m.seen := by rw [hs, hf]; simp
        simp [this]
      | none =>
        have : k ∉ m.seen := by rw [hs, hf]; simp
        simp [this]
  · show (keysD (mgS last m s).ds ++ (mgS last m s).gs).Nodup
    rw [f1, f2, keysD_append]
    have hg : (if last = true then ([] : List Key) else s.2.filter fun k => decide (k ∉ m.seen)).Nodup := by
      cases last
      · exact n2.sublist List.filter_sublist
      · exact List.nodup_nil
    have hgm : ∀ k ∈ (if last = true then ([] : List Key) else s.2.filter fun k => decide (k ∉ m.seen)), k ∈ s.2 ∧ k ∉ m.seen := fun k hk => by
      cases last
      · have := List.mem_filter.1 hk
        exact ⟨this.1, by simpa using this.2⟩
      · cases hk
    have hdm : ∀ k ∈ keysD (s.1.filter fun d => decide (d.1 ∉ m.seen)), k ∈ keysD s.1 ∧ k ∉ m.seen := fun k hk => by
      obtain ⟨d, hd, rfl⟩ := List.mem_map.1 hk
      have := List.mem_filter.1 hd
      exact ⟨List.mem_map_of_mem (f := fun x : Dc => x.1) this.1, by simpa using this.2⟩
    refine List.nodup_append.2 ⟨List.nodup_append.2 ⟨o1, nodup_filter_keys n1, fun a ha b hb e => ?_⟩, List.nodup_append.2 ⟨o2, hg, fun a ha b hb e => ?_⟩, fun a ha b hb e => ?_⟩
    · subst e; exact (hdm a hb).2 (dseen a ha)
    · subst e; exact (hgm a hb).2 (gseen a ha)
    · subst e
      rcases List.mem_append.1 ha with ha | ha <;> rcases List.mem_append.1 hb with hb | hb
      · exact o3 a ha a hb rfl
      · exact (hgm a hb).2 (dseen a ha)
      · exact (hdm a ha).2 (gseen a hb)
      · exact n3 a (hdm a ha).1 a (hgm a hb).1 rfl
  · rw [f1, f2, wtD_append, wtG_append, List.map_append, List.sum_append]
    have h1 := wtD_filter (fun d => decide (d.1 ∉ m.seen)) s.1
    have h2 : wtG (if last = true then ([] : List Key) else s.2.filter fun k => decide (k ∉ m.seen)) ≤ wtG s.2 := by
      cases last
      · exact wtG_filter _ _
      · exact Nat.zero_le _
    have h3 := h.wt
    have h4 : ([s].map wtSg).sum = wtD s.1 + wtG s.2 := by simp [wtSg]
    omega
theorem isMg_fold (last : Bool) (l2 : List Sgm) : ∀ (l : List Sgm) (m : Mg), IsMg last l m → (∀ s ∈ l2, Once s) → IsMg last (l ++ l2) (l2.foldl (mgS last) m) := by
  induction l2 with
  | nil => intro l m h _; rw [List.append_nil]; exact h
  | cons s r ih =>
    intro l m h hn
    have := ih (l ++ [s]) (mgS last m s) (h.step (hn s List.mem_cons_self)) (fun x hx => hn x (List.mem_cons_of_mem _ hx))
    rwa [List.append_assoc] at this
theorem isMg_mrg (last : Bool) (l : List Sgm) (hn : ∀ s ∈ l, Once s) : IsMg last l (mrg last l) := by
  have := isMg_fold last l [] _ (IsMg.nil last) hn
  rwa [List.nil_append] at this
theorem first_mem {l : List Sgm} {k : Key} {v : Option (List Nat)} (h : first l k = some v) : ∃ s ∈ l, k ∈ keysD s.1 ++ s.2 := by
  obtain ⟨s, hs, ht⟩ := List.exists_of_findSome?_eq_some h
  refine ⟨s, hs, ?_⟩
  by_cases h1 : k ∈ keysD s.1
  · exact List.mem_append_left _ h1
  · by_cases h2 : k ∈ s.2
    · exact List.mem_append_right _ h2
    · rw [(tellS_none k).2 ⟨h1, h2⟩] at ht; cases ht
theorem IsMg.rise {last : Bool} {l : List Sgm} {m : Mg} (h : IsMg last l m) (hr : ∀ s ∈ l, Rise (keysD s.1 ++ s.2)) : Rise (keysD m.ds ++ m.gs) := by
  refine ⟨fun k hk => ?_, h.once⟩
  have : ∃ v, first l k = some v := by
    rcases List.mem_append.1 hk with hk | hk
    · obtain ⟨d, hd, rfl⟩ := List.mem_map.1 hk
      exact ⟨_, (h.ds d).1 hd⟩
    · exact ⟨_, ((h.gs k).1 hk).2⟩
  obtain ⟨v, hv⟩ := this
  obtain ⟨s, hs, hks⟩ := first_mem hv
  exact (hr s hs).1 k hks
end Sg
end Go.Proofs.YtphccomhggnccaaGreat
namespace Go.Proofs.YtphccomhggnccaaGreat
open Go.RowKit Go.Maps Sg Fm
theorem MpS.tag {w : World} {z : Value} {b n : Nat} {f : Key → Value} (h : MpS w z b n f) : ∃ es cl, w.heap[b]? = some (.map es cl) := by
  obtain ⟨D, ⟨es, cl, hb, _⟩, _⟩ := h
  exact ⟨es, cl, hb⟩
theorem MpS.apart {w : World} {z : Value} {b n : Nat} {f : Key → Value} (h : MpS w z b n f) {base : Nat} {e : TypeId} {size : Nat} {v : Value} {m : Nat} {xs : List Value} (ho : w.ownsRow base e size v m xs) : v.ownBlock ≠ some b := fun e1 => by
  obtain ⟨es, cl, hb⟩ := h.tag
  obtain ⟨cur, hc⟩ := own_tag ho e1
  rw [hb] at hc
  cases hc
structure MSt (w0 w : World) (b : Nat) (dv gv : Value) (es : List De) (gs seen : List Key) (n : Nat) : Prop where
  mp : MpS w (.bool false) b n (fun k => .bool (decide (k ∈ seen)))
  mb : w0.heap.size ≤ b
  hd : w.ownsRow w0.heap.size 36 2 dv es.length (VD es)
  hg : w.ownsRow w0.heap.size 9 1 gv gs.length (VS gs)
  txt : ∀ e ∈ es, TxtOk w e ∧ ∀ a, e.a = some a → a.spot = none ∧ a.block < w.heap.size ∧ dv.ownBlock ≠ some a.block ∧ gv.ownBlock ≠ some a.block ∧ a.block ≠ b
  bel : Below w0.heap.size w0 w
section
variable {w0 w w' : World} {b n : Nat} {dv gv : Value} {es : List De} {gs seen : List Key}
theorem MSt.start (w : World) : MSt w (w.alloc (.map #[] 0)) w.heap.size (.slice none 0 0) (.slice none 0 0) [] [] [] 0 :=
  ⟨by simpa using MpS.made w (.bool false), Nat.le_refl _, World.ownsRow_nil _ _ _ _, World.ownsRow_nil _ _ _ _, fun e he => (by cases he), below_new _ _⟩
theorem MSt.below (h : MSt w0 w b dv gv es gs seen n) (hb : Below w.heap.size w w') : MSt w0 w' b dv gv es gs seen n :=
  ⟨h.mp.below hb, h.mb, own_below h.hd hb, own_below h.hg hb, fun e he => by
    obtain ⟨h1, h2⟩ := h.txt e he
    refine ⟨h1.below hb, fun a ha => ?_⟩
    obtain ⟨q1, q2, q3⟩ := h2 a ha
    exact ⟨q1, Nat.lt_of_lt_of_le q2 hb.size, q3⟩, h.bel.trans (hb.mono h.bel.size)⟩
theorem MSt.look (h : MSt w0 w b dv gv es gs seen n) (k : Key) (hk : k.length ≤ 1099511627776) :
    (Instr.lookup 120 (.map (some b)) (.string (ba k)) false).run Tryz.prog w = .ok (.bool (decide (k ∈ seen))) w :=
  h.mp.look Tryz.underlying120 (by kernel_rfl) k hk
theorem MSt.put (h : MSt w0 w b dv gv es gs seen n) (hn : n < 1099511627776) (k : Key) (hk : k.length ≤ 1099511627776) :
    ∃ w', (Instr.mapUpdate 120 (.map (some b)) (.string (ba k)) (.bool true)).run Tryz.prog w = .ok () w' ∧ MSt w0 w' b dv gv es gs (if k ∈ seen then seen else k :: seen) (n + 1) ∧ w.grownBy w' (some b) := by
  obtain ⟨w', hrun, hm, hg⟩ := h.mp.put (t := 120) Tryz.underlying120 hn k hk (.bool true)
  have hB : Below w0.heap.size w0 w' := h.bel.grown hg h.bel.size (fun k hk => by have := Option.some.inj hk; have := h.mb; omega)
  refine ⟨w', hrun, ⟨?_, h.mb, own_keepR h.hd hg (fun g h1 e => ?_), own_keepR h.hg hg (fun g h1 e => ?_), fun e he => ?_, hB⟩, hg⟩
  · have e1 : (fun x => if x = k then Value.bool true else Value.bool (decide (x ∈ seen))) = fun x => Value.bool (decide (x ∈ if k ∈ seen then seen else k :: seen)) := by
      funext x
      by_cases hx : x = k
      · subst hx
        by_cases hs : x ∈ seen <;> simp [hs]
      · by_cases hs : k ∈ seen <;> simp [hs, hx]
    rw [← e1]
    exact hm
  · have := Option.some.inj e; subst this; exact h.mp.apart h.hd h1
  · have := Option.some.inj e; subst this; exact h.mp.apart h.hg h1
  · obtain ⟨h1, h2⟩ := h.txt e he
    refine ⟨h1.grown hg (fun a ha e3 => (h2 a ha).2.2.2.2 (Option.some.inj e3).symm), fun a ha => ?_⟩
    obtain ⟨q1, q2, q3⟩ := h2 a ha
    exact ⟨q1, Nat.lt_of_lt_of_le q2 hg.size, q3⟩
theorem MSt.appD {dv' : Value} {e : De} (h : MSt w0 w b dv gv es gs seen n) (ht : TxtOk w e) (ha : ∀ a, e.a = some a → a.spot = none ∧ a.block < w.heap.size ∧ dv.ownBlock ≠ some a.block ∧ gv.ownBlock ≠ some a.block ∧ a.block ≠ b)
    (ho : w'.ownsRow w0.heap.size 36 2 dv' (es.length + 1) (VD es ++ encD e)) (hg : w.grownBy w' dv.ownBlock)
    (hat : dv'.ownBlock = dv.ownBlock ∨ dv'.ownBlock = some w.heap.size) : MSt w0 w' b dv' gv (es ++ [e]) gs seen n := by
  have hne : ∀ b, b < w.heap.size → dv.ownBlock ≠ some b → dv'.ownBlock ≠ some b := fun b hb h1 e2 => by
    rcases hat with h2 | h2
    · exact h1 (h2.symm.trans e2)
    · rw [e2] at h2; have := Option.some.inj h2; omega
  have hdt : ∀ g, dv.ownBlock = some g → gv.ownBlock ≠ some g := tags_apart h.hd h.hg (by decide)
  refine ⟨h.mp.kept hg (fun e1 => h.mp.apart h.hd e1.symm), h.mb, ?_, own_keepR h.hg hg (fun g h1 e2 => hdt g e2 h1), fun e2 he2 => ?_, h.bel.grown hg h.bel.size (fun k hk => (World.ownsRow.lt h.hd k hk).1)⟩
  · rw [List.length_append, VD_append, show VD [e] = encD e by simp [VD]]; exact ho
  · have key : TxtOk w e2 ∧ ∀ a, e2.a = some a → a.spot = none ∧ a.block < w.heap.size ∧ dv.ownBlock ≠ some a.block ∧ gv.ownBlock ≠ some a.block ∧ a.block ≠ b := by
      rcases List.mem_append.1 he2 with he2 | he2
      · exact h.txt e2 he2
      · obtain rfl : e2 = e := by simpa using he2
        exact ⟨ht, ha⟩
    obtain ⟨h1, h2⟩ := key
    refine ⟨h1.grown hg (fun a ha => (h2 a ha).2.2.1), fun a ha => ?_⟩
    obtain ⟨q1, q2, q3, q4, q5⟩ := h2 a ha
    exact ⟨q1, Nat.lt_of_lt_of_le q2 hg.size, hne _ q2 q3, q4, q5⟩
theorem MSt.appG {gv' : Value} {k : Key} (h : MSt w0 w b dv gv es gs seen n)
    (ho : w'.ownsRow w0.heap.size 9 1 gv' (gs.length + 1) (VS gs ++ [encStr k])) (hg : w.grownBy w' gv.ownBlock)
    (hat : gv'.ownBlock = gv.ownBlock ∨ gv'.ownBlock = some w.heap.size) : MSt w0 w' b dv gv' es (gs ++ [k]) seen n := by
  have hne : ∀ b, b < w.heap.size → gv.ownBlock ≠ some b → gv'.ownBlock ≠ some b := fun b hb h1 e2 => by
    rcases hat with h2 | h2
    · exact h1 (h2.symm.trans e2)
    · rw [e2] at h2; have := Option.some.inj h2; omega
  have hdt : ∀ g, dv.ownBlock = some g → gv.ownBlock ≠ some g := tags_apart h.hd h.hg (by decide)
  refine ⟨h.mp.kept hg (fun e1 => h.mp.apart h.hg e1.symm), h.mb, own_keepR h.hd hg (fun g h1 e2 => hdt g h1 e2), ?_, fun e2 he2 => ?_, h.bel.grown hg h.bel.size (fun k hk => (World.ownsRow.lt h.hg k hk).1)⟩
  · rw [List.length_append, VS_append]; exact ho
  · obtain ⟨h1, h2⟩ := h.txt e2 he2
    refine ⟨h1.grown hg (fun a ha => (h2 a ha).2.2.2.1), fun a ha => ?_⟩
    obtain ⟨q1, q2, q3, q4, q5⟩ := h2 a ha
    exact ⟨q1, Nat.lt_of_lt_of_le q2 hg.size, q3, hne _ q2 q4, q5⟩
theorem MSt.darg (h : MSt w0 w b dv gv es gs seen n) : ∃ A c, dv = .slice A es.length c ∧ DArg w A es.length c es := by
  obtain ⟨A, c, hv, hS, hnc, hnil, hl, -, -⟩ := own_form h.hd
  exact ⟨A, c, hv, rfl, hnc, hnil, hS, fun e he => (h.txt e he).1⟩
theorem MSt.garg (h : MSt w0 w b dv gv es gs seen n) : ∃ A c, gv = .slice A gs.length c ∧ GArg w A gs.length c gs := by
  obtain ⟨A, c, hv, hS, hnc, hnil, hl, -, -⟩ := own_form h.hg
  exact ⟨A, c, hv, rfl, hnc, hnil, hS⟩
end
end Go.Proofs.YtphccomhggnccaaGreat
namespace Go.Proofs.YtphccomhggnccaaGreat
open Go.RowKit Go.Maps Sg Fm
structure Sg1 where
  x : Nat
  ds : List Dc
  gs : List Key
  sa : List Nat
deriving Inhabited
def Sg1.sg (s : Sg1) : Sgm := (s.ds, s.gs)
def VX (l : List Sg1) : List Value := l.map fun s => .pointer (some ⟨s.x, 0, none⟩)
theorem VX_length (l : List Sg1) : (VX l).length = l.length := by simp [VX]
theorem VX_get (l : List Sg1) (i : Nat) (h : i < l.length) : (VX l)[i]? = some (.pointer (some ⟨(l.getD i default).x, 0, none⟩)) := by simp [VX, h, List.getD]
structure SegsOk (w : World) (l : List Sg1) : Prop where
  m : ∀ s ∈ l, SegM w 0 s.x s.ds s.gs s.sa
  ok : ∀ s ∈ l, SegOk s.ds s.gs
  wt : ((l.map Sg1.sg).map wtSg).sum ≤ 20000
theorem SegsOk.below {w w' : World} {l : List Sg1} (h : SegsOk w l) (hb : Below w.heap.size w w') : SegsOk w' l := ⟨fun s hs => (h.m s hs).below hb, h.ok, h.wt⟩
theorem once_of {ds : List Dc} {gs : List Key} (h : SegOk ds gs) : Once (ds, gs) := h.r.2
theorem SegsOk.mg {w : World} {l : List Sg1} (h : SegsOk w l) (last : Bool) : IsMg last (l.map Sg1.sg) (mrg last (l.map Sg1.sg)) := isMg_mrg last _ fun s hs => by
  obtain ⟨s', h1, rfl⟩ := List.mem_map.1 hs
  exact once_of (h.ok s' h1)
theorem SegsOk.rise {w : World} {l : List Sg1} (h : SegsOk w l) (last : Bool) : Rise (keysD (mrg last (l.map Sg1.sg)).ds ++ (mrg last (l.map Sg1.sg)).gs) := (h.mg last).rise fun s hs => by
  obtain ⟨s', h1, rfl⟩ := List.mem_map.1 hs
  exact (h.ok s' h1).r
theorem SegsOk.mem {w : World} {l : List Sg1} (h : SegsOk w l) (last : Bool) {d : Dc} (hd : d ∈ (mrg last (l.map Sg1.sg)).ds) : ∃ s ∈ l, d ∈ s.ds := by
  have h1 := ((h.mg last).ds d).1 hd
  obtain ⟨s, hs, ht⟩ := List.exists_of_findSome?_eq_some h1
  obtain ⟨s', h2, rfl⟩ := List.mem_map.1 hs
  exact ⟨s', h2, (tellS_text (once_of (h.ok s' h2)) d).1 ht⟩
theorem SegsOk.lite {w : World} {l : List Sg1} (h : SegsOk w l) (last : Bool) : Lite (mrg last (l.map Sg1.sg)).ds (mrg last (l.map Sg1.sg)).gs :=
  ⟨Nat.le_trans (h.mg last).wt h.wt, fun d hd => by
    obtain ⟨s, hs, hm⟩ := h.mem last hd
    exact (h.ok s hs).l.t d hm⟩
theorem fold_gs (ds : List Dc) : ∀ m : Sg.Mg, (ds.foldl mgD m).gs = m.gs := by
  induction ds with
  | nil => exact fun m => rfl
  | cons d r ih =>
    intro m
    rw [List.foldl_cons, ih]
    unfold mgD
    split <;> rfl
theorem foldG_ds (last : Bool) (gs : List Key) : ∀ m : Sg.Mg, (gs.foldl (mgG last) m).ds = m.ds := by
  induction gs with
  | nil => exact fun m => rfl
  | cons d r ih =>
    intro m
    rw [List.foldl_cons, ih]
    unfold mgG
    split <;> rfl
theorem foldl_succ {α β : Type} (f : β → α → β) (l : List α) (b : β) (d : α) {k : Nat} (h : k < l.length) : (l.take (k + 1)).foldl f b = f ((l.take k).foldl f b) (l.getD k d) := by
  rw [List.take_succ_eq_append_getElem h, List.foldl_append]
  simp [List.getD, List.getElem?_eq_getElem h]
def MergeP (w : World) (m : Sg.Mg) (e : Ending) (w' : World) : Prop :=
  ∃ x sa, e = .returned (.tuple #[.pointer (some ⟨x, 0, none⟩), .int .i64 0]) ∧ SegM w' w.heap.size x (sortD m.ds) (srt m.gs) sa ∧ Below w.heap.size w w'
set_option maxHeartbeats 16000000 in
theorem merge_any (w : World) (last : Bool) (A : Option Addr) (n c : Nat) (l : List Sg1) (hS : Sl w A (VX l)) (hl : l.length = n) (hn : n ≤ 100000) (hok : SegsOk w l) :
    Calls Tryz.prog 28 #[.bool last, .slice A n c] w (MergeP w (mrg last (l.map Sg1.sg))) := by
  have HS := Lib.hid hS
  have Hl := Lib.hid hl
  have Hok := Lib.hid hok
  have Hri := Lib.hid (hok.rise last)
  have Hli := Lib.hid (hok.lite last)
  have HM0 := Lib.hid (MSt.start w)
  have Hmg : Hid ((mrg last (l.map Sg1.sg)) = ((l.map Sg1.sg).take n).foldl (mgS last) ⟨[], [], []⟩) := Lib.hid (by
    rw [List.take_of_length_le (by rw [List.length_map, hl]; exact Nat.le_refl _)]; rfl)
  obtain ⟨mm, hmm⟩ : ∃ mm, mrg last (l.map Sg1.sg) = mm := ⟨_, rfl⟩
  rw [hmm] at Hri Hli Hmg ⊢
  clear hS hl hok hmm
  have hmk := @run_makeMap Tryz.prog
  go_enter Tryz.func28, Tryz.ntmps28
  go_wp2_with fail
  obtain ⟨b, hb⟩ : ∃ b, w.heap.size = b := ⟨_, rfl⟩
  have HM0' : Hid (MSt w (w.alloc (.map #[] 0)) b (.slice none 0 0) (.slice none 0 0) [] [] [] 0) := Lib.hid (by rw [← hb]; exact HM0.out)
  rw [hb]
  clear hb
  go_loopw [7, 8, 21] (fun t7 t8 q wr => ∃ (i : Nat) (es : List De) (m : Sg.Mg) (nn : Nat) (Ad Ag : Option Addr) (nd cd ng cg : Nat), i ≤ n ∧ q = .int .i64 (i : Int) ∧ t7 = .slice Ad nd cd ∧ t8 = .slice Ag ng cg ∧ Hid (es.length = nd ∧ m.gs.length = ng) ∧ Hid (m = ((l.map Sg1.sg).take i).foldl (mgS last) ⟨[], [], []⟩) ∧ Hid (es.map De.dc = m.ds) ∧ Hid (nn ≤ 8000 * i ∧ nd ≤ 8000 * i ∧ ng ≤ 8000 * i) ∧ Hid (MSt w wr b (.slice Ad nd cd) (.slice Ag ng cg) es m.gs m.seen nn)) (fun _ _ q _ => n - (intOf q).toNat)
  case atStart => exact ⟨0, [], ⟨[], [], []⟩, 0, none, none, 0, 0, 0, 0, Nat.zero_le _, rfl, rfl, rfl, Lib.hid ⟨rfl, rfl⟩, Lib.hid rfl, Lib.hid rfl, Lib.hid ⟨Nat.zero_le _, Nat.zero_le _, Nat.zero_le _⟩, HM0'⟩
  case round =>
    obtain ⟨i, es, m, nn, Ad, Ag, nd, cd, ng, cg, hi, rfl, rfl, rfl, Hlen, Hm, Hdc, Hnn, HM⟩ := hrel
    by_cases hin : i < n
    · have hil : i < l.length := by rw [Hl.out]; exact hin
      have hSr := HS.out.below HM.out.bel
      obtain ⟨bs, os, rfl, hc0⟩ := hSr.lit (j := i) (by rw [VX_length]; exact hil)
      rw [VX_get l i hil] at hc0
      have hmem : l.getD i default ∈ l := by simp [List.getD, hil]
      have hSM := (Hok.out.m _ hmem).below HM.out.bel
      have hSO := Hok.out.ok _ hmem
      have Hmn := Lib.hid (show mgS last m (l.getD i default).sg = ((l.map Sg1.sg).take (i + 1)).foldl (mgS last) ⟨[], [], []⟩ by
        rw [foldl_succ (mgS last) _ _ default (by rw [List.length_map]; exact hil), ← Hm.out]
        simp [List.getD, hil])
      have Hmem := Lib.hid hmem
      generalize l.getD i default = s at *
      obtain ⟨sx, sds, sgs, ssa⟩ := s
      dsimp only [Sg1.sg] at *
      have hnd := hSO.nd
      have hng := hSO.ng
      have HKy := Lib.hid (keysS_any hSM (by omega))
      have HSO := Lib.hid hSO
      obtain ⟨sl, hsl⟩ : ∃ sl, sds.length = sl := ⟨_, rfl⟩
      have Hsl := Lib.hid hsl
      have hsl4 : sl ≤ 4000 := by omega
      have Hnext : Hid (∀ m3, m3 = sgs.foldl (mgG last) (sds.foldl mgD m) → m3 = ((l.map Sg1.sg).take (i + 1)).foldl (mgS last) ⟨[], [], []⟩) := Lib.hid (fun m3 h => by rw [h, ← Hmn.out]; rfl)
      clear hSr hil hmem hSM hSO Hmn
      go_wp2_with fail
      go_at_call 31
      refine HKy.out.mono ?_
      rintro e w1 ⟨v1, rfl, hO1, hB1⟩
      obtain ⟨Ak, ck, rfl, hSk, -, -, -, -, -⟩ := own_form hO1
      rw [keysD_length, hsl] at hO1
      rw [keysD_length, hsl]
      have HM1 := Lib.hid (HM.out.below hB1)
      have HO1 := Lib.hid (own_mono hO1 HM.out.bel.size)
      clear hO1 hSk hB1 HKy hsl HM hc0
      have hlb : 8000 * n ≤ 800000000 := by omega
      have hlb2 : 8000 * i + 8000 ≤ 8000 * n := by omega
      go_wp2_with fail
      obtain ⟨wo, rfl⟩ : ∃ wo : World, wo = wr := ⟨_, rfl⟩
      go_loopw [7, 30] (fun t7 q wr => ∃ (k : Nat) (es2 : List De) (m2 : Sg.Mg) (nn2 : Nat) (Ad2 : Option Addr) (nd2 cd2 : Nat), k ≤ sl ∧ q = .int .i64 (k : Int) ∧ t7 = .slice Ad2 nd2 cd2 ∧ Hid (es2.length = nd2) ∧ Hid (m2 = (sds.take k).foldl mgD m) ∧ Hid (es2.map De.dc = m2.ds) ∧ Hid (nn2 ≤ 8000 * i + k ∧ nd2 ≤ 8000 * i + k) ∧ Hid (MSt w wr b (.slice Ad2 nd2 cd2) (.slice Ag ng cg) es2 m.gs m2.seen nn2) ∧ Hid (wr.ownsRow w.heap.size 9 1 (.slice Ak sl ck) sl (VS (keysD sds)))) (fun _ q _ => sl - (intOf q).toNat)
      case atStart => exact ⟨0, es, m, nn, Ad, nd, cd, Nat.zero_le _, rfl, rfl, Lib.hid Hlen.out.1, Lib.hid rfl, Hdc, Lib.hid (by have := Hnn.out; omega), HM1, HO1⟩
      case round =>
        obtain ⟨k, es2, m2, nn2, Ad2, nd2, cd2, hk, rfl, rfl, Hl2, Hm2, Hdc2, Hnn2, HM2, HO2⟩ := hrel
        by_cases hks : k < sl
        · have hkl : k < sds.length := by rw [Hsl.out]; exact hks
          obtain ⟨A', c', hv', hSk, -, -, -, -, -⟩ := own_form HO2.out
          injection hv' with e1 e2 e3
          subst e1 e3
          obtain ⟨bk, ok, rfl, -⟩ := hSk.lit (j := k) (by rw [VS_length, keysD_length, Hsl.out]; exact hks)
          have hkc := VS_cell hSk (i := k) (by rw [keysD_length]; exact hkl)
          have hkk : (keysD sds).getD k [] = (sds.getD k default).1 := by simp [keysD, List.getD, hkl]
          have hmemd : sds.getD k default ∈ sds := by simp [List.getD, hkl]
          have hkm : (sds.getD k default).1 ∈ keysD sds := List.mem_map_of_mem (f := fun x : Dc => x.1) hmemd
          have hk64 := (HSO.out.r.1 _ (List.mem_append_left sgs hkm)).2
          have htxt := txtOf_mem HSO.out.kd.n hmemd
          have hdt := HSO.out.b _ (List.mem_map_of_mem (f := fun x : Dc => x.2) hmemd)
          have Hsu := Lib.hid (foldl_succ mgD sds m default hkl)
          rw [hkk] at hkc
          have hln := HSO.out.l.t _ hmemd
          generalize sds.getD k default = d at *
          obtain ⟨dk, dt⟩ := d
          dsimp only at *
          have hnn9 : nn2 < 1099511627776 := by have := Hnn2.out; have := HSO.out.nd; rw [Hsl.out] at this; omega
          have hnd9 : nd2 + 1 ≤ 1099511627 := by have := Hnn2.out; have := HSO.out.nd; rw [Hsl.out] at this; omega
          have hlook := HM2.out.look dk (by omega)
          rw [← Hm2.out] at Hsu
          by_cases hseen : dk ∈ m2.seen
          · obtain ⟨w8, hrun8, hM8, hg8⟩ := HM2.out.put hnn9 dk (by omega)
            rw [decide_eq_true hseen] at hlook
            rw [if_pos hseen] at hM8
            have e1 : mgD m2 (dk, dt) = m2 := if_pos hseen
            rw [e1] at Hsu
            have HO8 := Lib.hid (own_keepR HO2.out hg8 (fun g h1 e => by have := Option.some.inj e; subst this; exact HM2.out.mp.apart HO2.out h1))
            have HM8 := Lib.hid hM8
            clear hM8 hg8 e1 hSk hkk hmemd hkm htxt hdt hseen hkl
            go_wp2_with fail
            go_roundw
            case rel => exact ⟨k + 1, es2, m2, nn2 + 1, Ad2, nd2, cd2, by omega, by go_num, rfl, Hl2, Lib.hid Hsu.out.symm, Hdc2, Lib.hid (by have := Hnn2.out; omega), HM8, HO8⟩
            case measure => simp [intOf]; omega
          · rw [decide_eq_false hseen] at hlook
            have HGt := Lib.hid (getS_any ((Hok.out.m _ Hmem.out).below HM2.out.bel) HSO.out dk)
            have e1 : mgD m2 (dk, dt) = ⟨m2.ds ++ [(dk, dt)], m2.gs, dk :: m2.seen⟩ := if_neg hseen
            rw [e1] at Hsu
            have Htxt := Lib.hid htxt
            have Hdt := Lib.hid hdt
            have Hseen := Lib.hid hseen
            have hk640 : dk.length ≤ 1099511627776 := by omega
            clear e1 hSk hkk hmemd hkm htxt hdt hseen hkl
            go_wp2_with fail
            go_at_call 29
            refine HGt.out.mono ?_
            rintro e wg ⟨vt, rfl, hot, hBg⟩
            rw [Htxt.out] at hot
            have hot : wg.ownsRow wr.heap.size 5 1 vt dt.length (VY dt) := hot
            obtain ⟨At, ct, rfl, -, -, -, -, -, -⟩ := own_form hot
            obtain ⟨htk, hat⟩ := txt_own (k := dk) hot Hdt.out
            obtain ⟨tl, htl⟩ : ∃ tl, dt.length = tl := ⟨_, rfl⟩
            rw [htl] at htk ⊢
            have hap : ∀ a, At = some a → a.spot = none ∧ a.block < wg.heap.size ∧ (Value.slice Ad2 nd2 cd2).ownBlock ≠ some a.block ∧ (Value.slice Ag ng cg).ownBlock ≠ some a.block ∧ a.block ≠ b := fun a ha => by
              obtain ⟨q1, q2, q3⟩ := hat a ha
              refine ⟨q1, q3, fun e => ?_, fun e => ?_, fun e => ?_⟩
              · have := (World.ownsRow.lt HM2.out.hd _ e).2; omega
              · have := (World.ownsRow.lt HM2.out.hg _ e).2; omega
              · have := HM2.out.mp.lt; omega
            have hC := below_new wg (.cells #[.string (ba dk), .slice At tl ct] 36)
            have HM3 := Lib.hid ((HM2.out.below hBg).below hC)
            have HO3 := Lib.hid (own_below (own_below HO2.out hBg) hC)
            have Htk := Lib.hid (htk.below hC)
            have Hap : Hid (∀ a, At = some a → a.spot = none ∧ a.block < (wg.alloc (.cells #[.string (ba dk), .slice At tl ct] 36)).heap.size ∧ (Value.slice Ad2 nd2 cd2).ownBlock ≠ some a.block ∧ (Value.slice Ag ng cg).ownBlock ≠ some a.block ∧ a.block ≠ b) := Lib.hid (fun a ha => by
              obtain ⟨q1, q2, q3⟩ := hap a ha
              exact ⟨q1, Nat.lt_of_lt_of_le q2 hC.size, q3⟩)
            have hs3 := HM3.out.bel.size
            clear hot htk hat hBg hap hC HGt htl
            go_wp2_with (at_builtin; refine appE el_doc rfl _ _ rfl w.heap.size _ nd2 (VD es2) rfl (own_len HM3.out.hd Hl2.out) (some ⟨wg.heap.size, 0, none⟩) 1 1 (encD ⟨dk, At, tl, ct, dt⟩) rfl (fun e => by cases e) rfl (sl_blk (xs := encD ⟨dk, At, tl, ct, dt⟩) (heap_alloc_new wg _)) (encD_one _) (by omega) hs3 ?_; intro v7 w7 hown7 hg7 _ hat7; obtain ⟨A7, c7, hv7, -, -, -, -, -, -⟩ := own_form hown7; subst hv7; have hM7 := HM3.out.appD (e := ⟨dk, At, tl, ct, dt⟩) Htk.out Hap.out (own_len hown7 (congrArg (· + 1) Hl2.out.symm)) hg7 hat7; obtain ⟨w8, hrun8, hM8, hg8⟩ := hM7.put hnn9 dk hk640; rw [if_neg Hseen.out] at hM8; have HO7 := Lib.hid (own_keepT HO3.out HM3.out.hd (by decide) hg7); have HO8 := Lib.hid (own_keepR HO7.out hg8 (fun g h1 e => by have := Option.some.inj e; subst this; exact hM7.mp.apart HO7.out h1)); have HM8 := Lib.hid hM8; clear hM8 hg8 hM7 hown7 hg7 hat7)
            go_roundw
            case rel => exact ⟨k + 1, es2 ++ [⟨dk, At, tl, ct, dt⟩], ⟨m2.ds ++ [(dk, dt)], m2.gs, dk :: m2.seen⟩, nn2 + 1, A7, nd2 + 1, c7, by omega, by go_num, rfl, Lib.hid (by rw [List.length_append, Hl2.out]; rfl), Lib.hid Hsu.out.symm, Lib.hid (by rw [List.map_append, Hdc2.out]; rfl), Lib.hid (by have := Hnn2.out; omega), HM8, HO8⟩
            case measure => simp [intOf]; omega
        · obtain rfl : k = sl := by omega
          have Hm2' : Hid (m2 = sds.foldl mgD m) := Lib.hid (by
            have h := Hm2.out
            rw [List.take_of_length_le (by rw [Hsl.out]; exact Nat.le_refl _)] at h
            exact h)
          have HGn := Lib.hid (goneS_any ((Hok.out.m _ Hmem.out).below HM2.out.bel) (by have h := HSO.out.ng; show sgs.length ≤ _; omega))
          obtain ⟨gl, hgl⟩ : ∃ gl, sgs.length = gl := ⟨_, rfl⟩
          have Hgl := Lib.hid hgl
          have hgl4 : gl ≤ 4000 := by have := HSO.out.ng; omega
          obtain ⟨wp, rfl⟩ : ∃ wo : World, wo = wr := ⟨_, rfl⟩
          go_wp2_with fail
          go_at_call 32
          refine HGn.out.mono ?_
          rintro e w5 ⟨v5, rfl, hO5, hB5⟩
          rw [hgl] at hO5
          obtain ⟨A5, c5, rfl, -, -, -, -, -, -⟩ := own_form hO5
          have HM5 := Lib.hid (HM2.out.below hB5)
          have hap5 : ∀ g, (Value.slice Ag ng cg).ownBlock = some g → (Value.slice A5 gl c5).ownBlock ≠ some g := fun g h1 h2 => by
            have q1 := (World.ownsRow.lt HM2.out.hg g h1).2
            have q2 := (World.ownsRow.lt hO5 g h2).1
            omega
          have HO5 := Lib.hid (own_mono hO5 HM2.out.bel.size)
          have Hap5 := Lib.hid hap5
          have Hfg : Hid (m2.gs = m.gs) := Lib.hid (by rw [Hm2'.out, fold_gs])
          clear hO5 hB5 HGn hgl hap5
          go_wp2_with fail
          go_loopw [8, 57] (fun t8 q wr => ∃ (t : Nat) (m3 : Sg.Mg) (nn3 : Nat) (Ag3 : Option Addr) (ng3 cg3 : Nat), t ≤ gl ∧ q = .int .i64 (t : Int) ∧ t8 = .slice Ag3 ng3 cg3 ∧ Hid (m3.gs.length = ng3) ∧ Hid (m3 = (sgs.take t).foldl (mgG last) m2) ∧ Hid (nn3 ≤ 8000 * i + 4000 + t ∧ ng3 ≤ 8000 * i + t) ∧ Hid (MSt w wr b (.slice Ad2 nd2 cd2) (.slice Ag3 ng3 cg3) es2 m3.gs m3.seen nn3) ∧ Hid (wr.ownsRow w.heap.size 9 1 (.slice A5 gl c5) gl (VS sgs)) ∧ Hid (∀ g, (Value.slice Ag3 ng3 cg3).ownBlock = some g → (Value.slice A5 gl c5).ownBlock ≠ some g)) (fun _ q _ => gl - (intOf q).toNat)
          case atStart => exact ⟨0, m2, nn2, Ag, ng, cg, Nat.zero_le _, rfl, rfl, Lib.hid (by rw [Hfg.out]; exact Hlen.out.2), Lib.hid rfl, Lib.hid (by have := Hnn2.out; have := Hnn.out; omega), Lib.hid (by rw [Hfg.out]; exact HM5.out), HO5, Hap5⟩
          case round =>
            obtain ⟨t, m3, nn3, Ag3, ng3, cg3, ht, rfl, rfl, Hl3, Hm3, Hnn3, HM3, HO3, Hap3⟩ := hrel
            by_cases htg : t < gl
            · have htl : t < sgs.length := by rw [Hgl.out]; exact htg
              obtain ⟨A', c', hv', hSk, -, -, -, -, -⟩ := own_form HO3.out
              injection hv' with e1 e2 e3
              subst e1 e3
              obtain ⟨bk, ok, rfl, -⟩ := hSk.lit (j := t) (by rw [VS_length, Hgl.out]; exact htg)
              have hkc := VS_cell hSk (i := t) htl
              have hmemk : sgs.getD t [] ∈ sgs := getD_memK htl
              have hk64 := (HSO.out.r.1 _ (List.mem_append_right (keysD sds) hmemk)).2
              have Hsu := Lib.hid (foldl_succ (mgG last) sgs m2 [] htl)
              generalize sgs.getD t [] = dk at *
              have hnn9 : nn3 < 1099511627776 := by have := Hnn3.out; omega
              have hng9 : ng3 + 1 ≤ 1099511627 := by have := Hnn3.out; omega
              have hk640 : dk.length ≤ 1099511627776 := by omega
              have hlook := HM3.out.look dk hk640
              rw [← Hm3.out] at Hsu
              by_cases hseen : dk ∈ m3.seen
              · obtain ⟨w8, hrun8, hM8, hg8⟩ := HM3.out.put hnn9 dk hk640
                rw [decide_eq_true hseen] at hlook
                rw [if_pos hseen] at hM8
                have e1 : mgG last m3 dk = m3 := if_pos hseen
                rw [e1] at Hsu
                have HO8 := Lib.hid (own_keepR HO3.out hg8 (fun g h1 e => by have := Option.some.inj e; subst this; exact HM3.out.mp.apart HO3.out h1))
                have HM8 := Lib.hid hM8
                clear hM8 hg8 e1 hSk hmemk hseen htl
                cases last <;> (go_wp2_with fail; go_roundw) <;> first | (exact ⟨t + 1, m3, nn3 + 1, Ag3, ng3, cg3, by omega, by go_num, rfl, Hl3, Lib.hid Hsu.out.symm, Lib.hid (by have := Hnn3.out; omega), HM8, HO8, Hap3⟩) | (simp [intOf]; omega)
              · rw [decide_eq_false hseen] at hlook
                have e1 : mgG last m3 dk = ⟨m3.ds, if last then m3.gs else m3.gs ++ [dk], dk :: m3.seen⟩ := if_neg hseen
                rw [e1] at Hsu
                have Hseen := Lib.hid hseen
                clear e1 hSk hmemk hseen htl
                cases last with
                | true =>
                  obtain ⟨w8, hrun8, hM8, hg8⟩ := HM3.out.put hnn9 dk hk640
                  rw [if_neg Hseen.out] at hM8
                  have HO8 := Lib.hid (own_keepR HO3.out hg8 (fun g h1 e => by have := Option.some.inj e; subst this; exact HM3.out.mp.apart HO3.out h1))
                  have HM8 := Lib.hid hM8
                  clear hM8 hg8
                  go_wp2_with fail
                  go_roundw
                  case rel => exact ⟨t + 1, ⟨m3.ds, m3.gs, dk :: m3.seen⟩, nn3 + 1, Ag3, ng3, cg3, by omega, by go_num, rfl, Hl3, Lib.hid Hsu.out.symm, Lib.hid (by have := Hnn3.out; omega), HM8, HO8, Hap3⟩
                  case measure => simp [intOf]; omega
                | false =>
                  have hC := below_new wr (.cells #[.string (ba dk)] 9)
                  have HMc := Lib.hid (HM3.out.below hC)
                  have HOc := Lib.hid (own_below HO3.out hC)
                  have hlt5 : Hid (∀ g, (Value.slice (some ⟨bk, ok, none⟩) gl c5).ownBlock = some g → g < (wr.alloc (.cells #[.string (ba dk)] 9)).heap.size) := Lib.hid (fun g h => (World.ownsRow.lt HOc.out g h).2)
                  have hs3 := HMc.out.bel.size
                  clear hC
                  go_wp2_with (at_builtin; refine appE el_str rfl _ _ rfl w.heap.size _ ng3 (VS m3.gs) rfl (own_len HMc.out.hg Hl3.out) (some ⟨wr.heap.size, 0, none⟩) 1 1 [encStr dk] rfl (fun e => by cases e) rfl (sl_blk (heap_alloc_new wr _)) (fun u hu => by simp at hu; subst hu; rfl) (by omega) hs3 ?_; intro v7 w7 hown7 hg7 _ hat7; obtain ⟨A7, c7, hv7, -, -, -, -, -, -⟩ := own_form hown7; subst hv7; have hM7 := HMc.out.appG (k := dk) (own_len hown7 (congrArg (· + 1) Hl3.out.symm)) hg7 hat7; obtain ⟨w8, hrun8, hM8, hg8⟩ := hM7.put hnn9 dk hk640; rw [if_neg Hseen.out] at hM8; have HO7 := Lib.hid (own_keepR HOc.out hg7 (fun g h1 e => Hap3.out g e h1)); have HO8 := Lib.hid (own_keepR HO7.out hg8 (fun g h1 e => by have := Option.some.inj e; subst this; exact hM7.mp.apart HO7.out h1)); have HM8 := Lib.hid hM8; have Hap7 : Hid (∀ g, (Value.slice A7 (ng3 + 1) c7).ownBlock = some g → (Value.slice (some ⟨bk, ok, none⟩) gl c5).ownBlock ≠ some g) := Lib.hid (fun g h1 h2 => by rcases hat7 with e4 | e4; exact Hap3.out g (e4.symm.trans h1) h2; rw [h1] at e4; have e5 := Option.some.inj e4; have e6 := hlt5.out g h2; omega); clear hM8 hg8 hM7 hown7 hg7 hat7)
                  go_roundw
                  case rel => exact ⟨t + 1, ⟨m3.ds, m3.gs ++ [dk], dk :: m3.seen⟩, nn3 + 1, A7, ng3 + 1, c7, by omega, by go_num, rfl, Lib.hid (by rw [List.length_append, Hl3.out]; rfl), Lib.hid Hsu.out.symm, Lib.hid (by have := Hnn3.out; omega), HM8, HO8, Hap7⟩
                  case measure => simp [intOf]; omega
            · obtain rfl : t = gl := by omega
              have Hm3' : Hid (m3 = sgs.foldl (mgG last) m2) := Lib.hid (by
                have h := Hm3.out
                rw [List.take_of_length_le (by rw [Hgl.out]; exact Nat.le_refl _)] at h
                exact h)
              have Hnx := Lib.hid (Hnext.out m3 (by rw [Hm3'.out, Hm2'.out]))
              have Hd3 : Hid (es2.map De.dc = m3.ds) := Lib.hid (by rw [Hdc2.out, Hm3'.out, foldG_ds])
              go_wp2_with fail
              go_roundw
              case rel => exact ⟨i + 1, es2, m3, nn3, Ad2, Ag3, nd2, cd2, ng3, cg3, by omega, by go_num, rfl, rfl, Lib.hid ⟨Hl2.out, Hl3.out⟩, Hnx, Hd3, Lib.hid (by have := Hnn3.out; have := Hnn2.out; omega), HM3⟩
              case measure => simp [intOf]; omega
    · obtain rfl : i = n := by omega
      obtain rfl : mm = m := by rw [Hmg.out, Hm.out]
      obtain ⟨A2, c2, hv2, hD2⟩ := HM.out.darg
      obtain ⟨A3, c3, hv3, hG3⟩ := HM.out.garg
      rw [Hlen.out.1] at hv2 hD2
      rw [Hlen.out.2] at hv3 hG3
      injection hv2 with e1 e2 e3
      injection hv3 with e4 e5 e6
      subst e1 e3 e4 e6
      have hLi := Hli.out
      rw [← Hdc.out] at hLi
      have hRi := Hri.out
      rw [← Hdc.out] at hRi
      have HN := Lib.hid (segnew_any wr Ad Ag nd cd ng cg es mm.gs hD2 hG3 hLi)
      have HRi := Lib.hid hRi
      have HB := Lib.hid HM.out.bel
      clear hD2 hG3 hLi hRi e2 e5 HM
      go_wp2_with fail
      go_at_call 16
      refine HN.out.mono ?_
      rintro e w4 (⟨-, x4, sa, rfl, hSM, hB4⟩ | ⟨hR2, -⟩)
      case inr => exact absurd HRi.out hR2
      have HSM := Lib.hid (hSM.mono HB.out.size)
      have HB4 := Lib.hid (below_step HB.out hB4)
      clear hSM hB4 HN
      go_wp2_with fail
      go_ret2
      exact ⟨x4, sa, rfl, by rw [← Hdc.out]; exact HSM.out, HB4.out⟩
end Go.Proofs.YtphccomhggnccaaGreat
namespace Go.Proofs.YtphccomhggnccaaGreat
open Go.RowKit Go.Maps Sg Fm
structure Sr where
  x : Nat
  es : List De
  gs : List Key
deriving Inhabited
def Sr.sg (s : Sr) : Sgm := (s.es.map De.dc, s.gs)
def VR (l : List Sr) : List Value := l.map fun s => .pointer (some ⟨s.x, 0, none⟩)
theorem VR_length (l : List Sr) : (VR l).length = l.length := by simp [VR]
theorem VR_get (l : List Sr) (i : Nat) (h : i < l.length) : (VR l)[i]? = some (.pointer (some ⟨(l.getD i default).x, 0, none⟩)) := by simp [VR, h, List.getD]
structure SgsOk (L : List Sgm) : Prop where
  ok : ∀ s ∈ L, SegOk s.1 s.2
  wt : (L.map wtSg).sum ≤ 20000
theorem SgsOk.mg {L : List Sgm} (h : SgsOk L) (last : Bool) : IsMg last L (mrg last L) := isMg_mrg last _ fun s hs => once_of (h.ok s hs)
theorem SgsOk.rise {L : List Sgm} (h : SgsOk L) (last : Bool) : Rise (keysD (mrg last L).ds ++ (mrg last L).gs) := (h.mg last).rise fun s hs => (h.ok s hs).r
theorem SgsOk.lite {L : List Sgm} (h : SgsOk L) (last : Bool) : Lite (mrg last L).ds (mrg last L).gs :=
  ⟨Nat.le_trans (h.mg last).wt h.wt, fun d hd => by
    obtain ⟨s, hs, ht⟩ := List.exists_of_findSome?_eq_some (((h.mg last).ds d).1 hd)
    exact (h.ok s hs).l.t d ((tellS_text (once_of (h.ok s hs)) d).1 ht)⟩
def MergeRP (w : World) (m : Sg.Mg) (e : Ending) (w' : World) : Prop :=
  ∃ x es', e = .returned (.tuple #[.pointer (some ⟨x, 0, none⟩), .int .i64 0]) ∧ es'.map De.dc = sortD m.ds ∧ RefM w' w.heap.size x es' (srt m.gs) ∧ Below w.heap.size w w'
set_option maxHeartbeats 16000000 in
theorem mergeR_any (w : World) (last : Bool) (A : Option Addr) (n c : Nat) (l : List Sr) (hS : Sl w A (VR l)) (hl : l.length = n) (hn : n ≤ 100000) (hr : ∀ s ∈ l, RefM w 0 s.x s.es s.gs) (hok : SgsOk (l.map Sr.sg)) :
    Calls Tryz.prog 34 #[.bool last, .slice A n c] w (MergeRP w (mrg last (l.map Sr.sg))) := by
  have HS := Lib.hid hS
  have Hl := Lib.hid hl
  have Hok := Lib.hid hok
  have Hr := Lib.hid hr
  have Hri := Lib.hid (hok.rise last)
  have Hli := Lib.hid (hok.lite last)
  have HM0 := Lib.hid (MSt.start w)
  have Hmg : Hid ((mrg last (l.map Sr.sg)) = ((l.map Sr.sg).take n).foldl (mgS last) ⟨[], [], []⟩) := Lib.hid (by
    rw [List.take_of_length_le (by rw [List.length_map, hl]; exact Nat.le_refl _)]; rfl)
  obtain ⟨mm, hmm⟩ : ∃ mm, mrg last (l.map Sr.sg) = mm := ⟨_, rfl⟩
  rw [hmm] at Hri Hli Hmg ⊢
  clear hS hl hok hmm hr
  have hmk := @run_makeMap Tryz.prog
  go_enter Tryz.func34, Tryz.ntmps34
  go_wp2_with fail
  obtain ⟨b, hb⟩ : ∃ b, w.heap.size = b := ⟨_, rfl⟩
  have HM0' : Hid (MSt w (w.alloc (.map #[] 0)) b (.slice none 0 0) (.slice none 0 0) [] [] [] 0) := Lib.hid (by rw [← hb]; exact HM0.out)
  rw [hb]
  clear hb
  go_loopw [6, 7, 9] (fun t7 t8 q wr => ∃ (i : Nat) (es : List De) (m : Sg.Mg) (nn : Nat) (Ad Ag : Option Addr) (nd cd ng cg : Nat), i ≤ n ∧ q = .int .i64 (i : Int) ∧ t7 = .slice Ad nd cd ∧ t8 = .slice Ag ng cg ∧ Hid (es.length = nd ∧ m.gs.length = ng) ∧ Hid (m = ((l.map Sr.sg).take i).foldl (mgS last) ⟨[], [], []⟩) ∧ Hid (es.map De.dc = m.ds) ∧ Hid (nn ≤ 8000 * i ∧ nd ≤ 8000 * i ∧ ng ≤ 8000 * i) ∧ Hid (MSt w wr b (.slice Ad nd cd) (.slice Ag ng cg) es m.gs m.seen nn)) (fun _ _ q _ => n - (intOf q).toNat)
  case atStart => exact ⟨0, [], ⟨[], [], []⟩, 0, none, none, 0, 0, 0, 0, Nat.zero_le _, rfl, rfl, rfl, Lib.hid ⟨rfl, rfl⟩, Lib.hid rfl, Lib.hid rfl, Lib.hid ⟨Nat.zero_le _, Nat.zero_le _, Nat.zero_le _⟩, HM0'⟩
  case round =>
    obtain ⟨i, es, m, nn, Ad, Ag, nd, cd, ng, cg, hi, rfl, rfl, rfl, Hlen, Hm, Hdc, Hnn, HM⟩ := hrel
    by_cases hin : i < n
    · have hil : i < l.length := by rw [Hl.out]; exact hin
      obtain ⟨bs, os, rfl, hc0⟩ := HS.out.lit (j := i) (by rw [VR_length]; exact hil)
      rw [VR_get l i hil] at hc0
      have hmem : l.getD i default ∈ l := by simp [List.getD, hil]
      have hRM := Hr.out _ hmem
      have hSO : SegOk ((l.getD i default).es.map De.dc) (l.getD i default).gs := Hok.out.ok _ (List.mem_map_of_mem (f := Sr.sg) hmem)
      have Hmn := Lib.hid (show mgS last m (l.getD i default).sg = ((l.map Sr.sg).take (i + 1)).foldl (mgS last) ⟨[], [], []⟩ by
        rw [foldl_succ (mgS last) _ _ default (by rw [List.length_map]; exact hil), ← Hm.out]
        simp [List.getD, hil])
      generalize l.getD i default = s at *
      obtain ⟨sx, ses, sgs⟩ := s
      dsimp only [Sr.sg] at *
      obtain ⟨Ax, Agx, cx, cgx, hxb, hxD, hxG, hxa, hxg, hxe⟩ := hRM.blk
      have hx0 : w.cell? ⟨sx, 0, none⟩ = some (.slice Ax ses.length cx) := cell_blk hxb 0
      have hx1 : w.cell? ⟨sx, 1, none⟩ = some (.slice Agx sgs.length cgx) := cell_blk hxb 1
      have hnd := hSO.nd
      rw [List.length_map] at hnd
      have hng := hSO.ng
      have HSO := Lib.hid hSO
      obtain ⟨sl, hsl⟩ : ∃ sl, ses.length = sl := ⟨_, rfl⟩
      obtain ⟨gl, hgl⟩ : ∃ gl, sgs.length = gl := ⟨_, rfl⟩
      have Hsl := Lib.hid hsl
      have Hgl := Lib.hid hgl
      have hsl4 : sl ≤ 4000 := by omega
      have hgl4 : gl ≤ 4000 := by omega
      rw [hsl] at hx0 hxD
      rw [hgl] at hx1 hxG
      have Hnext : Hid (∀ m3, m3 = sgs.foldl (mgG last) ((ses.map De.dc).foldl mgD m) → m3 = ((l.map Sr.sg).take (i + 1)).foldl (mgS last) ⟨[], [], []⟩) := Lib.hid (fun m3 h => by rw [h, ← Hmn.out]; rfl)
      have HC := Lib.hid (fun (W : World) (hB : Below w.heap.size w W) => And.intro ((World.cell?_of_block (hB.block bs (World.block_lt_of_cell? w _ hc0))).trans hc0) (And.intro ((World.cell?_of_block (hB.block sx (World.block_lt_of_cell? w _ hx0))).trans hx0) ((World.cell?_of_block (hB.block sx (World.block_lt_of_cell? w _ hx1))).trans hx1)))
      have HxD := Lib.hid hxD
      have HxG := Lib.hid hxG
      have Hxe := Lib.hid hxe
      clear hil hmem hRM hSO Hmn hxb hxD hxG hxa hxg hxe hx0 hx1 hc0 hsl hgl hnd hng
      have hlb : 8000 * n ≤ 800000000 := by omega
      have hlb2 : 8000 * i + 8000 ≤ 8000 * n := by omega
      obtain ⟨hr0, hr1, hr2⟩ := HC.out wr HM.out.bel
      go_wp2_with fail
      obtain ⟨wo, rfl⟩ : ∃ wo : World, wo = wr := ⟨_, rfl⟩
      go_loopw [6, 10] (fun t7 q wr => ∃ (k : Nat) (es2 : List De) (m2 : Sg.Mg) (nn2 : Nat) (Ad2 : Option Addr) (nd2 cd2 : Nat), k ≤ sl ∧ q = .int .i64 (k : Int) ∧ t7 = .slice Ad2 nd2 cd2 ∧ Hid (es2.length = nd2) ∧ Hid (m2 = ((ses.map De.dc).take k).foldl mgD m) ∧ Hid (es2.map De.dc = m2.ds) ∧ Hid (nn2 ≤ 8000 * i + k ∧ nd2 ≤ 8000 * i + k) ∧ Hid (MSt w wr b (.slice Ad2 nd2 cd2) (.slice Ag ng cg) es2 m.gs m2.seen nn2)) (fun _ q _ => sl - (intOf q).toNat)
      case atStart => exact ⟨0, es, m, nn, Ad, nd, cd, Nat.zero_le _, rfl, rfl, Lib.hid Hlen.out.1, Lib.hid rfl, Hdc, Lib.hid (by have := Hnn.out; omega), HM⟩
      case round =>
        obtain ⟨k, es2, m2, nn2, Ad2, nd2, cd2, hk, rfl, rfl, Hl2, Hm2, Hdc2, Hnn2, HM2⟩ := hrel
        clear hr0 hr1 hr2
        obtain ⟨hr0, hr1, hr2⟩ := HC.out wr HM2.out.bel
        by_cases hks : k < sl
        · have hkl : k < ses.length := by rw [Hsl.out]; exact hks
          obtain ⟨bd, od, rfl, hw0, hw1⟩ := garg_docs0 HxD.out hks
          have hmemd : ses[k]?.getD default ∈ ses := by simp [hkl]
          have htx0 := HxD.out.txt _ hmemd
          have had := Hxe.out _ hmemd
          have hdm : (ses[k]?.getD default).dc ∈ ses.map De.dc := List.mem_map_of_mem hmemd
          have hkm : (ses[k]?.getD default).k ∈ keysD (ses.map De.dc) := List.mem_map_of_mem (f := fun x : Dc => x.1) hdm
          have hk64 := (HSO.out.r.1 _ (List.mem_append_left sgs hkm)).2
          have Hsu := Lib.hid (foldl_succ mgD (ses.map De.dc) m default (k := k) (by rw [List.length_map]; exact hkl))
          rw [show (ses.map De.dc).getD k default = (ses[k]?.getD default).dc by simp [List.getD, hkl]] at Hsu
          generalize ses[k]?.getD default = e at *
          obtain ⟨dk, ea, en, ec, et⟩ := e
          dsimp only [De.dc] at *
          have hblw := World.block_lt_of_cell? w _ hw0
          have HCd := Lib.hid (fun (W : World) (hB : Below w.heap.size w W) => And.intro ((World.cell?_of_block (hB.block bd hblw)).trans hw0) ((World.cell?_of_block (hB.block bd hblw)).trans hw1))
          obtain ⟨hd0, hd1⟩ := HCd.out wr HM2.out.bel
          have hnn9 : nn2 < 1099511627776 := by have := Hnn2.out; omega
          have hnd9 : nd2 + 1 ≤ 1099511627 := by have := Hnn2.out; omega
          have hk640 : dk.length ≤ 1099511627776 := by omega
          have hlook := HM2.out.look dk hk640
          rw [← Hm2.out] at Hsu
          have Had := Lib.hid had
          have Htx := Lib.hid htx0
          clear hkm hdm hmemd htx0 hkl hw0 hw1 had
          by_cases hseen : dk ∈ m2.seen
          · rw [decide_eq_true hseen] at hlook
            have e1 : mgD m2 (dk, et) = m2 := if_pos hseen
            rw [e1] at Hsu
            clear e1 hseen
            go_wp2_with fail
            go_roundw
            case rel => exact ⟨k + 1, es2, m2, nn2, Ad2, nd2, cd2, by omega, by go_num, rfl, Hl2, Lib.hid Hsu.out.symm, Hdc2, Lib.hid (by have := Hnn2.out; omega), HM2⟩
            case measure => simp [intOf]; omega
          · rw [decide_eq_false hseen] at hlook
            obtain ⟨w8, hrun8, hM8, hg8⟩ := HM2.out.put hnn9 dk hk640
            rw [if_neg hseen] at hM8
            have e1 : mgD m2 (dk, et) = ⟨m2.ds ++ [(dk, et)], m2.gs, dk :: m2.seen⟩ := if_neg hseen
            rw [e1] at Hsu
            obtain ⟨h80, h81, h82⟩ := HC.out w8 hM8.bel
            obtain ⟨h8d0, h8d1⟩ := HCd.out w8 hM8.bel
            have hC := below_new w8 (.cells #[.string (ba dk), .slice ea en ec] 36)
            have HM3 := Lib.hid (hM8.below hC)
            have Htk := Lib.hid (Htx.out.below HM3.out.bel)
            have Hap : Hid (∀ a, ea = some a → a.spot = none ∧ a.block < (w8.alloc (.cells #[.string (ba dk), .slice ea en ec] 36)).heap.size ∧ (Value.slice Ad2 nd2 cd2).ownBlock ≠ some a.block ∧ (Value.slice Ag ng cg).ownBlock ≠ some a.block ∧ a.block ≠ b) := Lib.hid (fun a ha => by
              have q0 := (Had.out.ge a ha).2
              refine ⟨Had.out.sp a ha, Nat.lt_of_lt_of_le q0 HM3.out.bel.size, fun e => ?_, fun e => ?_, fun e => ?_⟩
              · have := (World.ownsRow.lt HM3.out.hd _ e).1; omega
              · have := (World.ownsRow.lt HM3.out.hg _ e).1; omega
              · have := HM3.out.mb; omega)
            have hs3 := HM3.out.bel.size
            clear e1 hseen hM8 hg8 hC
            go_wp2_with (at_builtin; refine appE el_doc rfl _ _ rfl w.heap.size _ nd2 (VD es2) rfl (own_len HM3.out.hd Hl2.out) (some ⟨w8.heap.size, 0, none⟩) 1 1 (encD ⟨dk, ea, en, ec, et⟩) rfl (fun e => by cases e) rfl (sl_blk (xs := encD ⟨dk, ea, en, ec, et⟩) (heap_alloc_new w8 _)) (encD_one _) (by omega) hs3 ?_; intro v7 w7 hown7 hg7 _ hat7; obtain ⟨A7, c7, hv7, -, -, -, -, -, -⟩ := own_form hown7; subst hv7; have HM7 := Lib.hid (HM3.out.appD (e := ⟨dk, ea, en, ec, et⟩) Htk.out Hap.out (own_len hown7 (congrArg (· + 1) Hl2.out.symm)) hg7 hat7); clear hown7 hg7 hat7)
            go_roundw
            case rel => exact ⟨k + 1, es2 ++ [⟨dk, ea, en, ec, et⟩], ⟨m2.ds ++ [(dk, et)], m2.gs, dk :: m2.seen⟩, nn2 + 1, A7, nd2 + 1, c7, by omega, by go_num, rfl, Lib.hid (by rw [List.length_append, Hl2.out]; rfl), Lib.hid Hsu.out.symm, Lib.hid (by rw [List.map_append, Hdc2.out]; rfl), Lib.hid (by have := Hnn2.out; omega), HM7⟩
            case measure => simp [intOf]; omega
        · obtain rfl : k = sl := by omega
          have Hm2' : Hid (m2 = (ses.map De.dc).foldl mgD m) := Lib.hid (by
            have h := Hm2.out
            rw [List.take_of_length_le (by rw [List.length_map, Hsl.out]; exact Nat.le_refl _)] at h
            exact h)
          have Hfg : Hid (m2.gs = m.gs) := Lib.hid (by rw [Hm2'.out, fold_gs])
          go_wp2_with fail
          obtain ⟨wp, rfl⟩ : ∃ wo : World, wo = wr := ⟨_, rfl⟩
          go_loopw [7, 11] (fun t8 q wr => ∃ (t : Nat) (m3 : Sg.Mg) (nn3 : Nat) (Ag3 : Option Addr) (ng3 cg3 : Nat), t ≤ gl ∧ q = .int .i64 (t : Int) ∧ t8 = .slice Ag3 ng3 cg3 ∧ Hid (m3.gs.length = ng3) ∧ Hid (m3 = (sgs.take t).foldl (mgG last) m2) ∧ Hid (nn3 ≤ 8000 * i + 4000 + t ∧ ng3 ≤ 8000 * i + t) ∧ Hid (MSt w wr b (.slice Ad2 nd2 cd2) (.slice Ag3 ng3 cg3) es2 m3.gs m3.seen nn3)) (fun _ q _ => gl - (intOf q).toNat)
          case atStart => exact ⟨0, m2, nn2, Ag, ng, cg, Nat.zero_le _, rfl, rfl, Lib.hid (by rw [Hfg.out]; exact Hlen.out.2), Lib.hid rfl, Lib.hid (by have := Hnn2.out; have := Hnn.out; omega), Lib.hid (by rw [Hfg.out]; exact HM2.out)⟩
          case round =>
            obtain ⟨t, m3, nn3, Ag3, ng3, cg3, ht, rfl, rfl, Hl3, Hm3, Hnn3, HM3⟩ := hrel
            clear hr0 hr1 hr2
            obtain ⟨hr0, hr1, hr2⟩ := HC.out wr HM3.out.bel
            by_cases htg : t < gl
            · have htl : t < sgs.length := by rw [Hgl.out]; exact htg
              obtain ⟨bg, og, rfl⟩ := garg_lit HxG.out (Nat.lt_of_le_of_lt (Nat.zero_le _) htg)
              have hwk := garg_cell HxG.out htg
              have hmemk : sgs.getD t [] ∈ sgs := getD_memK htl
              have hk64 := (HSO.out.r.1 _ (List.mem_append_right (keysD (ses.map De.dc)) hmemk)).2
              have Hsu := Lib.hid (foldl_succ (mgG last) sgs m2 [] htl)
              generalize sgs.getD t [] = dk at *
              have hblw := World.block_lt_of_cell? w _ hwk
              have HCk := Lib.hid (fun (W : World) (hB : Below w.heap.size w W) => (World.cell?_of_block (hB.block bg hblw)).trans hwk)
              have hkc := HCk.out wr HM3.out.bel
              have hnn9 : nn3 < 1099511627776 := by have := Hnn3.out; omega
              have hng9 : ng3 + 1 ≤ 1099511627 := by have := Hnn3.out; omega
              have hk640 : dk.length ≤ 1099511627776 := by omega
              have hlook := HM3.out.look dk hk640
              rw [← Hm3.out] at Hsu
              clear hmemk htl hwk
              by_cases hseen : dk ∈ m3.seen
              · rw [decide_eq_true hseen] at hlook
                have e1 : mgG last m3 dk = m3 := if_pos hseen
                rw [e1] at Hsu
                clear e1 hseen
                go_wp2_with fail
                go_roundw
                case rel => exact ⟨t + 1, m3, nn3, Ag3, ng3, cg3, by omega, by go_num, rfl, Hl3, Lib.hid Hsu.out.symm, Lib.hid (by have := Hnn3.out; omega), HM3⟩
                case measure => simp [intOf]; omega
              · rw [decide_eq_false hseen] at hlook
                obtain ⟨w8, hrun8, hM8, hg8⟩ := HM3.out.put hnn9 dk hk640
                rw [if_neg hseen] at hM8
                have e1 : mgG last m3 dk = ⟨m3.ds, if last then m3.gs else m3.gs ++ [dk], dk :: m3.seen⟩ := if_neg hseen
                rw [e1] at Hsu
                obtain ⟨h80, h81, h82⟩ := HC.out w8 hM8.bel
                have h8k := HCk.out w8 hM8.bel
                have HM8 := Lib.hid hM8
                clear e1 hseen hM8 hg8
                cases last with
                | true =>
                  go_wp2_with fail
                  go_roundw
                  case rel => exact ⟨t + 1, ⟨m3.ds, m3.gs, dk :: m3.seen⟩, nn3 + 1, Ag3, ng3, cg3, by omega, by go_num, rfl, Hl3, Lib.hid Hsu.out.symm, Lib.hid (by have := Hnn3.out; omega), HM8⟩
                  case measure => simp [intOf]; omega
                | false =>
                  have HMc := Lib.hid (HM8.out.below (below_new w8 (.cells #[.string (ba dk)] 9)))
                  have hs3 := HMc.out.bel.size
                  go_wp2_with (at_builtin; refine appE el_str rfl _ _ rfl w.heap.size _ ng3 (VS m3.gs) rfl (own_len HMc.out.hg Hl3.out) (some ⟨w8.heap.size, 0, none⟩) 1 1 [encStr dk] rfl (fun e => by cases e) rfl (sl_blk (heap_alloc_new w8 _)) (fun u hu => by simp at hu; subst hu; rfl) (by omega) hs3 ?_; intro v7 w7 hown7 hg7 _ hat7; obtain ⟨A7, c7, hv7, -, -, -, -, -, -⟩ := own_form hown7; subst hv7; have HM7 := Lib.hid (HMc.out.appG (k := dk) (own_len hown7 (congrArg (· + 1) Hl3.out.symm)) hg7 hat7); clear hown7 hg7 hat7)
                  go_roundw
                  case rel => exact ⟨t + 1, ⟨m3.ds, m3.gs ++ [dk], dk :: m3.seen⟩, nn3 + 1, A7, ng3 + 1, c7, by omega, by go_num, rfl, Lib.hid (by rw [List.length_append, Hl3.out]; rfl), Lib.hid Hsu.out.symm, Lib.hid (by have := Hnn3.out; omega), HM7⟩
                  case measure => simp [intOf]; omega
            · obtain rfl : t = gl := by omega
              have Hm3' : Hid (m3 = sgs.foldl (mgG last) m2) := Lib.hid (by
                have h := Hm3.out
                rw [List.take_of_length_le (by rw [Hgl.out]; exact Nat.le_refl _)] at h
                exact h)
              have Hnx := Lib.hid (Hnext.out m3 (by rw [Hm3'.out, Hm2'.out]))
              have Hd3 : Hid (es2.map De.dc = m3.ds) := Lib.hid (by rw [Hdc2.out, Hm3'.out, foldG_ds])
              go_wp2_with fail
              go_roundw
              case rel => exact ⟨i + 1, es2, m3, nn3, Ad2, Ag3, nd2, cd2, ng3, cg3, by omega, by go_num, rfl, rfl, Lib.hid ⟨Hl2.out, Hl3.out⟩, Hnx, Hd3, Lib.hid (by have := Hnn3.out; have := Hnn2.out; omega), HM3⟩
              case measure => simp [intOf]; omega
    · obtain rfl : i = n := by omega
      obtain rfl : mm = m := by rw [Hmg.out, Hm.out]
      obtain ⟨A2, c2, hv2, hD2⟩ := HM.out.darg
      obtain ⟨A3, c3, hv3, hG3⟩ := HM.out.garg
      rw [Hlen.out.1] at hv2 hD2
      rw [Hlen.out.2] at hv3 hG3
      injection hv2 with e1 e2 e3
      injection hv3 with e4 e5 e6
      subst e1 e3 e4 e6
      have hLi := Hli.out
      rw [← Hdc.out] at hLi
      have hRi := Hri.out
      rw [← Hdc.out] at hRi
      have HN := Lib.hid (new9_any wr Ad Ag nd cd ng cg es mm.gs hD2 hG3 hLi)
      have HRi := Lib.hid hRi
      have HB := Lib.hid HM.out.bel
      clear hD2 hG3 hLi hRi e2 e5 HM
      go_wp2_with fail
      go_at_call 13
      refine HN.out.mono ?_
      rintro e w4 (⟨-, x4, es4, rfl, hso, hRM, hB4⟩ | ⟨hR2, -⟩)
      case inr => exact absurd HRi.out hR2
      have HRM := Lib.hid (hRM.mono HB.out.size)
      have HB4 := Lib.hid (below_step HB.out hB4)
      have Hso := Lib.hid hso
      clear hRM hB4 HN hso
      go_wp2_with fail
      go_ret2
      exact ⟨x4, es4, rfl, by rw [← Hdc.out]; exact Hso.out, HRM.out, HB4.out⟩
end Go.Proofs.YtphccomhggnccaaGreat
