/- The order of rows of numbers; the endings of a row in order; backward search: plain lists, no program. -/
import Derived.Test.YtphccomhggnccaaGreatGen
import Derived.Lib.SlicesCompact
namespace Go.Proofs.YtphccomhggnccaaGreat.Fm
set_option maxRecDepth 100000
set_option linter.unusedVariables false
set_option linter.unusedSimpArgs false
open Rank
def lx : List Nat → List Nat → Bool
  | _, [] => false
  | [], _ :: _ => true
  | a :: x, b :: y => decide (a < b) || (a == b && lx x y)
theorem lx_nil (x : List Nat) : lx x [] = false := by cases x <;> rfl
theorem lx_irrefl (x : List Nat) : lx x x = false := by
  induction x with
  | nil => rfl
  | cons a x ih => simp [lx, ih]
def cut (b : Bool) : List Nat → List Nat → Bool
  | _, [] => b
  | [], _ :: _ => true
  | y :: x, c :: P => decide (y < c) || (y == c && cut b x P)
theorem cut_nil (b : Bool) (x : List Nat) : cut b x [] = b := by cases x <;> rfl
theorem cut_false (x P : List Nat) : cut false x P = lx x P := by
  induction x generalizing P with
  | nil => cases P <;> rfl
  | cons y x ih =>
    cases P with
    | nil => rfl
    | cons c P => simp only [cut, lx, ih]
theorem cut_mono (b : Bool) {x y P : List Nat} (h : lx x y = true) (k : cut b y P = true) : cut b x P = true := by
  induction P generalizing x y with
  | nil => rw [cut_nil] at k ⊢; exact k
  | cons c P ih =>
    cases x with
    | nil => rfl
    | cons a x =>
      cases y with
      | nil => rw [lx_nil] at h; cases h
      | cons d y =>
        simp only [cut, lx, Bool.or_eq_true, Bool.and_eq_true, decide_eq_true_eq, beq_iff_eq] at h k ⊢
        rcases h with h | ⟨h1, h2⟩ <;> rcases k with k | ⟨k1, k2⟩
        · exact .inl (by omega)
        · exact .inl (by omega)
        · exact .inl (by omega)
        · exact .inr ⟨by omega, ih h2 k2⟩
theorem cut_prefix (x P : List Nat) : (cut true x P && !cut false x P) = P.isPrefixOf x := by
  induction P generalizing x with
  | nil => rw [cut_nil, cut_nil]; rfl
  | cons c P ih =>
    cases x with
    | nil => rfl
    | cons y x =>
      have := ih x
      simp only [cut, List.isPrefixOf]
      by_cases h : y < c
      · have : (c == y) = false := by rw [beq_eq_false_iff_ne]; omega
        simp [h, this]
      · by_cases e : y = c
        · subst e
          simp [ih x]
        · have h1 : (y == c) = false := by rw [beq_eq_false_iff_ne]; exact e
          have h2 : (c == y) = false := by rw [beq_eq_false_iff_ne]; omega
          simp [h, h1, h2]
theorem cut_le (x P : List Nat) (h : cut false x P = true) : cut true x P = true := by
  induction P generalizing x with
  | nil => rw [cut_nil] at h; cases h
  | cons c P ih =>
    cases x with
    | nil => rfl
    | cons y x =>
      simp only [cut, Bool.or_eq_true, Bool.and_eq_true] at h ⊢
      rcases h with h | ⟨h1, h2⟩
      · exact .inl h
      · exact .inr ⟨h1, ih x h2⟩

theorem filter_take {α : Type} (Q : α → Bool) (l : List α) (h : l.Pairwise fun a b => Q b = true → Q a = true) : l.filter Q = l.take (l.filter Q).length := by
  induction l with
  | nil => rfl
  | cons a l ih =>
    obtain ⟨h1, h2⟩ := List.pairwise_cons.1 h
    cases hq : Q a with
    | true =>
      rw [List.filter_cons, if_pos hq, List.length_cons, List.take_succ_cons, ← ih h2]
    | false =>
      have : l.filter Q = [] := by
        rw [List.filter_eq_nil_iff]
        intro b hb k
        have := h1 b hb k
        rw [hq] at this; cases this
      rw [List.filter_cons, if_neg (by rw [hq]; decide), this]
      rfl
theorem filter_iff {α : Type} (Q : α → Bool) (l : List α) (h : l.Pairwise fun a b => Q b = true → Q a = true) {i : Nat} {a : α} (ha : l[i]? = some a) : Q a = true ↔ i < (l.filter Q).length := by
  induction l generalizing i with
  | nil => cases ha
  | cons x l ih =>
    obtain ⟨h1, h2⟩ := List.pairwise_cons.1 h
    cases i with
    | zero =>
      injection ha with ha
      subst ha
      rw [List.filter_cons]
      cases hq : Q x with
      | true => simp
      | false =>
        have : l.filter Q = [] := by
          rw [List.filter_eq_nil_iff]
          intro b hb k
          have := h1 b hb k
          rw [hq] at this; cases this
        simp [this]
    | succ i =>
      have ha' : l[i]? = some a := by simpa using ha
      rw [List.filter_cons]
      cases hq : Q x with
      | true =>
        simp only [if_true, List.length_cons]
        rw [ih h2 ha']
        omega
      | false =>
        have hm : a ∈ l := List.mem_of_getElem? ha'
        have : l.filter Q = [] := by
          rw [List.filter_eq_nil_iff]
          intro b hb k
          have := h1 b hb k
          rw [hq] at this; cases this
        simp only [Bool.false_eq_true, if_false, this, List.length_nil, Nat.not_lt_zero, iff_false]
        intro k
        have := h1 a hm k
        rw [hq] at this; cases this

structure IsSA (s sa : List Nat) : Prop where
  perm : sa.Perm (List.range s.length)
  sorted : sa.Pairwise fun a b => lx (s.drop a) (s.drop b) = true
theorem IsSA.length {s sa : List Nat} (h : IsSA s sa) : sa.length = s.length := by rw [h.perm.length_eq, List.length_range]
theorem IsSA.lt {s sa : List Nat} (h : IsSA s sa) {p : Nat} (hp : p ∈ sa) : p < s.length := List.mem_range.1 (h.perm.mem_iff.1 hp)
def cnt (s : List Nat) (Q : List Nat → Bool) : Nat := ((List.range s.length).filter fun p => Q (s.drop p)).length
theorem IsSA.cnt {s sa : List Nat} (h : IsSA s sa) (Q : List Nat → Bool) : (sa.filter fun p => Q (s.drop p)).length = Fm.cnt s Q := (h.perm.filter _).length_eq
theorem IsSA.down {s sa : List Nat} (h : IsSA s sa) (b : Bool) (P : List Nat) : sa.Pairwise fun x y => cut b (s.drop y) P = true → cut b (s.drop x) P = true :=
  h.sorted.imp fun hxy hy => cut_mono b hxy hy
theorem IsSA.at_cut {s sa : List Nat} (h : IsSA s sa) (b : Bool) (P : List Nat) {i p : Nat} (hp : sa[i]? = some p) : cut b (s.drop p) P = true ↔ i < Fm.cnt s (cut b · P) := by
  rw [← h.cnt]
  exact filter_iff (fun p => cut b (s.drop p) P) sa (h.down b P) hp
theorem IsSA.pos {s sa : List Nat} (h : IsSA s sa) {i p : Nat} (hp : sa[i]? = some p) : Fm.cnt s (cut false · (s.drop p)) = i := by
  have hd := fun {j q : Nat} (hq : sa[j]? = some q) => h.at_cut false (s.drop p) hq
  have h1 : ¬ i < Fm.cnt s (cut false · (s.drop p)) := by
    rw [← hd hp, cut_false, lx_irrefl]; decide
  by_cases h2 : Fm.cnt s (cut false · (s.drop p)) < i
  · exfalso
    have hi : i < sa.length := by
      rcases Nat.lt_or_ge i sa.length with h | h
      · exact h
      · rw [List.getElem?_eq_none h] at hp; cases hp
    have hj := List.getElem?_eq_getElem (l := sa) (i := Fm.cnt s (cut false · (s.drop p))) (by omega)
    have hlt : lx (s.drop sa[Fm.cnt s (cut false · (s.drop p))]) (s.drop p) = true := by
      have := List.pairwise_iff_getElem.1 h.sorted _ i (by omega) hi h2
      rw [List.getElem?_eq_getElem hi] at hp
      injection hp with hp
      rwa [hp] at this
    have := (hd hj).1 (by rw [cut_false]; exact hlt)
    omega
  · omega
theorem IsSA.pos_inv {s sa : List Nat} (h : IsSA s sa) {p : Nat} (hp : p < s.length) : sa[Fm.cnt s (cut false · (s.drop p))]? = some p := by
  have hm : p ∈ sa := h.perm.mem_iff.2 (List.mem_range.2 hp)
  obtain ⟨i, hi⟩ := List.getElem?_of_mem hm
  rw [h.pos hi]; exact hi
theorem IsSA.unique {s sa sb : List Nat} (h : IsSA s sa) (k : IsSA s sb) : sa = sb := by
  apply List.ext_getElem?
  intro i
  by_cases hi : i < s.length
  · have e := List.getElem?_eq_getElem (l := sa) (i := i) (by rw [h.length]; exact hi)
    rw [e]
    have hlt := h.lt (List.getElem_mem (l := sa) (by rw [h.length]; exact hi))
    have := k.pos_inv hlt
    rw [h.pos e] at this
    exact this.symm
  · rw [List.getElem?_eq_none (by rw [h.length]; omega), List.getElem?_eq_none (by rw [k.length]; omega)]
end Go.Proofs.YtphccomhggnccaaGreat.Fm
namespace Go.Proofs.YtphccomhggnccaaGreat.Fm
set_option maxRecDepth 100000
set_option linter.unusedVariables false
set_option linter.unusedSimpArgs false
open Rank
structure Closed (s : List Nat) : Prop where
  pos : 0 < s.length
  zero : ∀ i, i < s.length → (s.getD i 0 = 0 ↔ i = s.length - 1)
def ahd (s : List Nat) (p : Nat) : Nat := s.getD ((p + s.length - 1) % s.length) 0
def trn (s sa : List Nat) : List Nat := sa.map (ahd s)
def lessN (s : List Nat) (c : Nat) : Nat := (s.filter (fun x => decide (x < c))).length

theorem getD_at {s : List Nat} {i : Nat} (h : i < s.length) : s.getD i 0 = s[i] := by simp [List.getD, List.getElem?_eq_getElem h]
theorem self_range (s : List Nat) : s = (List.range s.length).map (fun i => s.getD i 0) := by
  apply List.ext_getElem
  · simp
  · intro i h1 h2
    simp [List.getElem?_eq_getElem h1]
theorem drop_at {s : List Nat} {p : Nat} (h : p < s.length) : s.drop p = s.getD p 0 :: s.drop (p + 1) := by
  rw [List.drop_eq_getElem_cons h, getD_at h]
theorem len_filter_or {α : Type} (l : List α) (p q : α → Bool) (h : ∀ x ∈ l, (p x && q x) = false) : (l.filter fun x => p x || q x).length = (l.filter p).length + (l.filter q).length := by
  induction l with
  | nil => rfl
  | cons a l ih =>
    have h1 := h a (by simp)
    have h2 := ih fun x hx => h x (by simp [hx])
    cases hp : p a <;> cases hq : q a <;> rw [hp, hq] at h1 <;> simp at h1 <;> simp [List.filter_cons, hp, hq, h2] <;> omega
theorem filter_same {α : Type} (l : List α) (p q : α → Bool) (h : ∀ x ∈ l, p x = q x) : l.filter p = l.filter q := List.filter_congr h
theorem lessN_range (s : List Nat) (c : Nat) : lessN s c = ((List.range s.length).filter fun p => decide (s.getD p 0 < c)).length := by
  unfold lessN
  conv => lhs; rw [self_range s]
  rw [List.filter_map, List.length_map]
  rfl
theorem ahd_succ {s : List Nat} {p : Nat} (h : p + 1 < s.length) : ahd s (p + 1) = s.getD p 0 := by
  unfold ahd
  rw [show p + 1 + s.length - 1 = p + s.length by omega, Nat.add_mod_right, Nat.mod_eq_of_lt (by omega)]
theorem ahd_zero {s : List Nat} (h : 0 < s.length) : ahd s 0 = s.getD (s.length - 1) 0 := by
  unfold ahd
  rw [show 0 + s.length - 1 = s.length - 1 by omega, Nat.mod_eq_of_lt (by omega)]
theorem shift_count {s : List Nat} (hs : Closed s) (c : Nat) (hc : 1 ≤ c) (Q : Nat → Bool) :
    ((List.range s.length).filter fun p => s.getD p 0 == c && Q (p + 1)).length = ((List.range s.length).filter fun q => Q q && ahd s q == c).length := by
  obtain ⟨m, hm⟩ : ∃ m, s.length = m + 1 := ⟨s.length - 1, by have := hs.pos; omega⟩
  have hlast : s.getD m 0 = 0 := (hs.zero m (by omega)).2 (by omega)
  have h0 : ahd s 0 = 0 := by rw [ahd_zero hs.pos, show s.length - 1 = m by omega]; exact hlast
  rw [hm]
  conv => lhs; rw [List.range_succ, List.filter_append]
  conv => rhs; rw [List.range_succ_eq_map, List.filter_cons]
  have e1 : (s.getD m 0 == c) = false := by rw [beq_eq_false_iff_ne]; omega
  have e2 : (ahd s 0 == c) = false := by rw [beq_eq_false_iff_ne]; omega
  simp only [List.filter_cons, e1, e2, Bool.false_and, Bool.and_false, Bool.false_eq_true, if_false, List.filter_nil, List.append_nil, List.filter_map, List.length_map]
  congr 1
  refine filter_same _ _ _ fun p hp => ?_
  have hpm : p < m := List.mem_range.1 hp
  simp only [Function.comp, Nat.succ_eq_add_one]
  rw [ahd_succ (by omega), Bool.and_comm]
theorem rk_trn {s sa : List Nat} (h : IsSA s sa) (b : Bool) (P : List Nat) (c : Nat) : rk (trn s sa) c (cnt s (cut b · P)) = ((List.range s.length).filter fun q => cut b (s.drop q) P && ahd s q == c).length := by
  have ht := filter_take (fun p => cut b (s.drop p) P) sa (h.down b P)
  rw [h.cnt (cut b · P)] at ht
  unfold rk trn
  rw [← List.map_take, ← ht, List.count_eq_countP, List.countP_map, List.countP_eq_length_filter, List.filter_filter]
  have := (h.perm.filter (fun q => cut b (s.drop q) P && ahd s q == c)).length_eq
  rw [← this]
  congr 1
  refine filter_same _ _ _ fun q _ => ?_
  simp only [Function.comp]
  rw [Bool.and_comm]
theorem cnt_step {s sa : List Nat} (hs : Closed s) (h : IsSA s sa) (b : Bool) (c : Nat) (hc : 1 ≤ c) (P : List Nat) :
    cnt s (cut b · (c :: P)) = lessN s c + rk (trn s sa) c (cnt s (cut b · P)) := by
  rw [rk_trn h, ← shift_count hs c hc (fun q => cut b (s.drop q) P), lessN_range]
  unfold cnt
  rw [← len_filter_or]
  · congr 1
    refine filter_same _ _ _ fun p hp => ?_
    have hpl := List.mem_range.1 hp
    rw [drop_at hpl]
    rfl
  · intro p _
    by_cases e : s.getD p 0 = c
    · rw [e]; simp
    · have : (s.getD p 0 == c) = false := by rw [beq_eq_false_iff_ne]; exact e
      rw [this]; simp
theorem cnt_nil (s : List Nat) (b : Bool) : cnt s (cut b · []) = if b then s.length else 0 := by
  unfold cnt
  cases b with
  | false =>
    rw [List.filter_eq_nil_iff.2 (fun p _ => by show ¬ cut false (s.drop p) [] = true; rw [cut_nil]; decide)]; rfl
  | true =>
    rw [List.filter_eq_self.2 (fun p _ => cut_nil true _), List.length_range]; rfl
theorem cnt_le (s : List Nat) (Q : List Nat → Bool) : cnt s Q ≤ s.length := by
  unfold cnt
  exact Nat.le_trans (List.length_filter_le _ _) (by rw [List.length_range]; exact Nat.le_refl _)
theorem trn_length {s sa : List Nat} (h : IsSA s sa) : (trn s sa).length = s.length := by unfold trn; rw [List.length_map, h.length]
theorem trn_get {s sa : List Nat} {i p : Nat} (hp : sa[i]? = some p) : (trn s sa)[i]? = some (ahd s p) := by
  unfold trn; rw [List.getElem?_map, hp]; rfl
theorem lf_at {s sa : List Nat} (hs : Closed s) (h : IsSA s sa) {i p : Nat} (hp : sa[i]? = some (p + 1)) :
    (trn s sa)[i]? = some (s.getD p 0) ∧ sa[lessN s (s.getD p 0) + rk (trn s sa) (s.getD p 0) i]? = some p := by
  have hlt : p + 1 < s.length := h.lt (List.mem_of_getElem? hp)
  have hc : 1 ≤ s.getD p 0 := by
    have := (hs.zero p (by omega)).1
    by_cases e : s.getD p 0 = 0
    · have := this e; omega
    · omega
  refine ⟨by rw [trn_get hp, ahd_succ hlt], ?_⟩
  have := h.pos_inv (p := p) (by omega)
  rw [drop_at (by omega), cnt_step hs h false _ hc, h.pos hp] at this
  exact this
theorem sa_first {s sa : List Nat} (hs : Closed s) (h : IsSA s sa) : sa[0]? = some (s.length - 1) := by
  have hp := hs.pos
  have := h.pos_inv (p := s.length - 1) (by omega)
  have e : cnt s (cut false · (s.drop (s.length - 1))) = 0 := by
    unfold cnt
    rw [List.filter_eq_nil_iff.2]
    · rfl
    · intro p hpm
      have hpl := List.mem_range.1 hpm
      have hz : s.getD (s.length - 1) 0 = 0 := (hs.zero _ (by omega)).2 rfl
      have hd : s.drop (s.length - 1) = [0] := by
        rw [drop_at (by omega), hz, List.drop_eq_nil_of_le (by omega)]
      rw [hd, drop_at hpl]
      simp only [cut, Nat.not_lt_zero, decide_false, Bool.false_or, cut_nil, Bool.and_false]
      decide
  rw [e] at this
  exact this
theorem trn_perm {s sa : List Nat} (hs : Closed s) (h : IsSA s sa) : (trn s sa).Perm s := by
  have h1 : (trn s sa).Perm ((List.range s.length).map (ahd s)) := h.perm.map _
  refine h1.trans ?_
  obtain ⟨m, hm⟩ : ∃ m, s.length = m + 1 := ⟨s.length - 1, by have := hs.pos; omega⟩
  conv => rhs; rw [self_range s]
  rw [hm]
  conv => lhs; rw [List.range_succ_eq_map, List.map_cons, List.map_map]
  conv => rhs; rw [List.range_succ, List.map_append]
  have e : (List.range m).map (ahd s ∘ Nat.succ) = (List.range m).map (fun i => s.getD i 0) := by
    refine List.map_congr_left fun p hp => ?_
    have hpm := List.mem_range.1 hp
    simp only [Function.comp, Nat.succ_eq_add_one]
    rw [ahd_succ (by omega)]
  rw [e, ahd_zero hs.pos, show s.length - 1 = m by omega]
  exact (List.perm_append_comm (l₁ := [s.getD m 0])).trans (List.Perm.refl _)
theorem lessN_perm {s t : List Nat} (h : s.Perm t) (c : Nat) : lessN s c = lessN t c := (h.filter _).length_eq
end Go.Proofs.YtphccomhggnccaaGreat.Fm
namespace Go.Proofs.YtphccomhggnccaaGreat.Fm
set_option maxRecDepth 100000
set_option linter.unusedVariables false
set_option linter.unusedSimpArgs false
open Rank
/-! ### Sorting by keys -/
def bucket (places : List Nat) (key : Nat → Nat) (many : Nat) : List Nat := (List.range many).flatMap fun k => places.filter fun p => key p == k
def st (places : List Nat) (key : Nat → Nat) (k : Nat) : Nat := (places.filter fun p => decide (key p < k)).length
theorem st_zero (places : List Nat) (key : Nat → Nat) : st places key 0 = 0 := by
  unfold st; rw [List.filter_eq_nil_iff.2]; rfl
  intro p _; simp
theorem st_succ (places : List Nat) (key : Nat → Nat) (k : Nat) : st places key (k + 1) = st places key k + (places.filter fun p => key p == k).length := by
  unfold st
  rw [← len_filter_or]
  · congr 1
    refine filter_same _ _ _ fun p _ => ?_
    rw [Bool.eq_iff_iff, Bool.or_eq_true, decide_eq_true_eq, decide_eq_true_eq, beq_iff_eq]
    omega
  · intro p _
    by_cases e : key p = k
    · rw [e]; simp
    · have : (key p == k) = false := by rw [beq_eq_false_iff_ne]; exact e
      rw [this, Bool.and_false]
theorem st_mono (places : List Nat) (key : Nat → Nat) {a b : Nat} (h : a ≤ b) : st places key a ≤ st places key b := by
  induction b with
  | zero => obtain rfl : a = 0 := by omega
            exact Nat.le_refl _
  | succ b ih =>
    by_cases e : a = b + 1
    · subst e; exact Nat.le_refl _
    · have := ih (by omega); rw [st_succ]; omega
theorem st_all (places : List Nat) (key : Nat → Nat) (many : Nat) (h : ∀ p ∈ places, key p < many) : st places key many = places.length := by
  unfold st; rw [List.filter_eq_self.2]
  intro p hp; simpa using h p hp
theorem bucket_take (places : List Nat) (key : Nat → Nat) (out : List Nat) (many : Nat)
    (h : ∀ k, k < many → ∀ r, r < (places.filter fun p => key p == k).length → out[st places key k + r]? = (places.filter fun p => key p == k)[r]?) :
    out.take (st places key many) = bucket places key many := by
  induction many with
  | zero => rw [st_zero]; rfl
  | succ m ih =>
    have h1 := ih fun k hk => h k (by omega)
    unfold bucket at h1 ⊢
    rw [List.range_succ, List.flatMap_append, ← h1, st_succ]
    have hm := h m (by omega)
    rw [List.take_add]
    congr 1
    simp only [List.flatMap_cons, List.flatMap_nil, List.append_nil]
    apply List.ext_getElem?
    intro r
    rw [List.getElem?_take, List.getElem?_drop]
    by_cases hr : r < (places.filter fun p => key p == m).length
    · rw [if_pos hr]; exact hm r hr
    · rw [if_neg hr, List.getElem?_eq_none (by omega)]
theorem bucket_mem (places : List Nat) (key : Nat → Nat) (many p : Nat) : p ∈ bucket places key many ↔ p ∈ places ∧ key p < many := by
  unfold bucket
  simp only [List.mem_flatMap, List.mem_range, List.mem_filter, beq_iff_eq]
  constructor
  · rintro ⟨k, hk, hp, rfl⟩; exact ⟨hp, hk⟩
  · rintro ⟨hp, hk⟩; exact ⟨key p, hk, hp, rfl⟩
theorem bucket_count (places : List Nat) (key : Nat → Nat) (many a : Nat) : (bucket places key many).count a = if key a < many then places.count a else 0 := by
  induction many with
  | zero => simp [bucket]
  | succ m ih =>
    unfold bucket at ih ⊢
    rw [List.range_succ, List.flatMap_append, List.count_append, ih]
    simp only [List.flatMap_cons, List.flatMap_nil, List.append_nil]
    by_cases e : key a = m
    · rw [List.count_filter (by simpa using e), if_neg (by omega), if_pos (by omega), Nat.zero_add]
    · have : (places.filter fun p => key p == m).count a = 0 := by
        rw [List.count_eq_zero]
        intro hm
        have := (List.mem_filter.1 hm).2
        exact e (by simpa using this)
      rw [this, Nat.add_zero]
      by_cases h : key a < m
      · rw [if_pos h, if_pos (by omega)]
      · rw [if_neg h, if_neg (by omega)]
theorem bucket_perm (places : List Nat) (key : Nat → Nat) (many : Nat) (h : ∀ p ∈ places, key p < many) : (bucket places key many).Perm places := by
  rw [List.perm_iff_count]
  intro a
  rw [bucket_count]
  by_cases e : key a < many
  · rw [if_pos e]
  · rw [if_neg e]
    symm
    rw [List.count_eq_zero]
    intro hm
    exact e (h a hm)
theorem bucket_sorted (places : List Nat) (key : Nat → Nat) (many : Nat) {R : Nat → Nat → Prop} (h : places.Pairwise R) : (bucket places key many).Pairwise fun a b => key a < key b ∨ (key a = key b ∧ R a b) := by
  induction many with
  | zero => exact List.Pairwise.nil
  | succ m ih =>
    have hm := fun p => bucket_mem places key m p
    unfold bucket at ih hm ⊢
    rw [List.range_succ, List.flatMap_append, List.pairwise_append]
    refine ⟨ih, ?_, ?_⟩
    · simp only [List.flatMap_cons, List.flatMap_nil, List.append_nil]
      have := (h.filter (fun p => key p == m))
      refine List.Pairwise.imp_of_mem ?_ this
      intro a b ha hb hr
      have ka : key a = m := by have := (List.mem_filter.1 ha).2; simpa using this
      have kb : key b = m := by have := (List.mem_filter.1 hb).2; simpa using this
      exact .inr ⟨by omega, hr⟩
    · intro a ha b hb
      have k1 := ((hm a).1 ha).2
      have k2 : key b = m := by
        simp only [List.flatMap_cons, List.flatMap_nil, List.append_nil] at hb
        have := (List.mem_filter.1 hb).2; simpa using this
      exact .inl (by omega)

/-! ### Doubling -/
def pre (s : List Nat) (k p : Nat) : List Nat := (s.drop p).take k
theorem pre_double (s : List Nat) (k p : Nat) : pre s (2 * k) p = pre s k p ++ pre s k (p + k) := by
  unfold pre
  rw [show 2 * k = k + k by omega, List.take_add, List.drop_drop]
theorem lx_take (x y : List Nat) (k : Nat) (h : x.take k ≠ y.take k) : lx x y = lx (x.take k) (y.take k) := by
  induction k generalizing x y with
  | zero => simp at h
  | succ k ih =>
    cases x with
    | nil =>
      cases y with
      | nil => simp at h
      | cons b y => rfl
    | cons a x =>
      cases y with
      | nil => rfl
      | cons b y =>
        simp only [List.take_succ_cons, lx]
        by_cases e : a = b
        · subst e
          have : x.take k ≠ y.take k := fun e => h (by simp [e])
          rw [ih x y this]
        · have h1 : (a == b) = false := by rw [beq_eq_false_iff_ne]; exact e
          rw [h1, Bool.false_and, Bool.false_and]
theorem lx_append (x y z : List Nat) : lx (x ++ y) (x ++ z) = lx y z := by
  induction x with
  | nil => rfl
  | cons a x ih => simp [lx, ih]
theorem pre_length (s : List Nat) (k p : Nat) : (pre s k p).length = min k (s.length - p) := by
  unfold pre; rw [List.length_take, List.length_drop]
theorem pre_short {s : List Nat} {k a b : Nat} (ha : a < s.length) (hb : b < s.length) (h : pre s k a = pre s k b) (hk : s.length ≤ a + k) (hk2 : s.length ≤ b + k) : a = b := by
  have := congrArg List.length h
  rw [pre_length, pre_length] at this
  omega
theorem pre_inj {s : List Nat} {k a b : Nat} (ha : a < s.length) (hb : b < s.length) (hk : s.length ≤ k) (h : pre s k a = pre s k b) : a = b :=
  pre_short ha hb h (by omega) (by omega)
structure Emb (s : List Nat) (k : Nat) (rank : Nat → Nat) : Prop where
  lt : ∀ a b, a < s.length → b < s.length → (rank a < rank b ↔ lx (pre s k a) (pre s k b) = true)
  eq : ∀ a b, a < s.length → b < s.length → (rank a = rank b ↔ pre s k a = pre s k b)
def sec (s : List Nat) (k : Nat) (rank : Nat → Nat) (p : Nat) : Nat := if p + k < s.length then rank (p + k) + 1 else 0
theorem lx_nil_iff (x : List Nat) : lx [] x = true ↔ x ≠ [] := by cases x <;> simp [lx]
theorem sec_pre {s : List Nat} {k : Nat} {rank : Nat → Nat} (h : Emb s k rank) (hk : 1 ≤ k) (a b : Nat) :
    (sec s k rank a < sec s k rank b ↔ lx (pre s k (a + k)) (pre s k (b + k)) = true) ∧ (sec s k rank a = sec s k rank b ↔ pre s k (a + k) = pre s k (b + k)) := by
  have hn : ∀ p, ¬ p + k < s.length → pre s k (p + k) = [] := fun p hp => by unfold pre; rw [List.drop_eq_nil_of_le (by omega)]; exact List.take_nil
  have hp : ∀ p, p + k < s.length → pre s k (p + k) ≠ [] := fun p hp e => by
    have := congrArg List.length e
    rw [pre_length] at this
    simp at this
    omega
  unfold sec
  by_cases ha : a + k < s.length <;> by_cases hb : b + k < s.length
  · rw [if_pos ha, if_pos hb, ← h.lt _ _ ha hb, ← h.eq _ _ ha hb]
    omega
  · rw [if_pos ha, if_neg hb, hn b hb, lx_nil]
    refine ⟨by simp, ?_⟩
    constructor
    · intro e; omega
    · intro e; exact absurd e (hp a ha)
  · rw [if_neg ha, if_pos hb, hn a ha, lx_nil_iff]
    refine ⟨?_, ?_⟩
    · constructor
      · intro _; exact hp b hb
      · intro _; omega
    · constructor
      · intro e; omega
      · intro e; exact absurd e.symm (hp b hb)
  · rw [if_neg ha, if_neg hb, hn a ha, hn b hb, lx_nil]
    simp
theorem double_lt {s : List Nat} {k : Nat} {rank : Nat → Nat} (h : Emb s k rank) (hk : 1 ≤ k) {a b : Nat} (ha : a < s.length) (hb : b < s.length) :
    (rank a < rank b ∨ (rank a = rank b ∧ sec s k rank a < sec s k rank b) ↔ lx (pre s (2 * k) a) (pre s (2 * k) b) = true) ∧
    (rank a = rank b ∧ sec s k rank a = sec s k rank b ↔ pre s (2 * k) a = pre s (2 * k) b) := by
  obtain ⟨h1, h2⟩ := sec_pre h hk a b
  have hl := h.lt a b ha hb
  have he := h.eq a b ha hb
  have tk : ∀ p, (pre s (2 * k) p).take k = pre s k p := fun p => by unfold pre; rw [List.take_take]; congr 1; omega
  constructor
  · by_cases e : pre s k a = pre s k b
    · rw [pre_double, pre_double, e, lx_append, ← h1]
      have := he.2 e
      constructor
      · rintro (h | ⟨_, h⟩)
        · omega
        · exact h
      · intro h; exact .inr ⟨this, h⟩
    · rw [lx_take _ _ k (by rw [tk, tk]; exact e), tk, tk, ← hl]
      constructor
      · rintro (h | ⟨h, _⟩)
        · exact h
        · exact absurd (he.1 h) e
      · intro h; exact .inl h
  · constructor
    · rintro ⟨e1, e2⟩
      rw [pre_double, pre_double, he.1 e1, h2.1 e2]
    · intro e
      have e1 : pre s k a = pre s k b := by rw [← tk, ← tk, e]
      refine ⟨he.2 e1, h2.2 ?_⟩
      rw [pre_double, pre_double, e1] at e
      exact List.append_cancel_left e

/-! ### Numbers along a sorted row -/
def lad (d : Nat → Nat → Bool) (l : List Nat) : Nat → Nat
  | 0 => 0
  | i + 1 => lad d l i + if d (l.getD i 0) (l.getD (i + 1) 0) then 1 else 0
theorem lad_mono (d : Nat → Nat → Bool) (l : List Nat) {i j : Nat} (h : i ≤ j) : lad d l i ≤ lad d l j := by
  induction j with
  | zero => obtain rfl : i = 0 := by omega
            exact Nat.le_refl _
  | succ j ih =>
    by_cases e : i = j + 1
    · subst e; exact Nat.le_refl _
    · have := ih (by omega); rw [lad]; omega
theorem lad_le (d : Nat → Nat → Bool) (l : List Nat) (i : Nat) : lad d l i ≤ i := by
  induction i with
  | zero => exact Nat.le_refl _
  | succ i ih => rw [lad]; split <;> omega
theorem lad_key {l : List Nat} {key : Nat → Nat × Nat} (hs : l.Pairwise fun a b => (key a).1 < (key b).1 ∨ ((key a).1 = (key b).1 ∧ (key a).2 ≤ (key b).2)) (i j : Nat) (hij : i ≤ j) (hj : j < l.length) :
    (lad (fun a b => key a != key b) l i = lad (fun a b => key a != key b) l j ↔ key (l.getD i 0) = key (l.getD j 0)) := by
  induction j with
  | zero => obtain rfl : i = 0 := by omega
            simp
  | succ j ih =>
    by_cases e : i = j + 1
    · subst e; simp
    · have ih := ih (by omega) (by omega)
      have hm := lad_mono (fun a b => key a != key b) l (show i ≤ j by omega)
      have hij2 := List.pairwise_iff_getElem.1 hs i (j + 1) (by omega) hj (by omega)
      have hjj := List.pairwise_iff_getElem.1 hs j (j + 1) (by omega) hj (by omega)
      have hij1 : i = j ∨ ((key (l.getD i 0)).1 < (key (l.getD j 0)).1 ∨ ((key (l.getD i 0)).1 = (key (l.getD j 0)).1 ∧ (key (l.getD i 0)).2 ≤ (key (l.getD j 0)).2)) := by
        by_cases e2 : i = j
        · exact .inl e2
        · have := List.pairwise_iff_getElem.1 hs i j (by omega) (by omega) (by omega)
          rw [← getD_at, ← getD_at] at this
          exact .inr this
      rw [← getD_at, ← getD_at] at hij2 hjj
      rw [lad]
      by_cases d : key (l.getD j 0) = key (l.getD (j + 1) 0)
      · rw [if_neg (by simpa using d), Nat.add_zero, ih, d]
      · rw [if_pos (by simpa using d)]
        constructor
        · intro h; omega
        · intro h
          exfalso
          apply d
          rw [h] at hij1 ih
          generalize key (l.getD j 0) = kj at *
          generalize key (l.getD (j + 1) 0) = kl at *
          rcases hij1 with e2 | h1
          · subst e2
            exact (ih.1 rfl).symm
          · obtain ⟨a1, a2⟩ := kj
            obtain ⟨b1, b2⟩ := kl
            simp only [Prod.mk.injEq]
            simp only at h1 hjj
            omega
theorem lad_all {d : Nat → Nat → Bool} {l : List Nat} (i : Nat) (h : lad d l i = i) : ∀ j, j < i → d (l.getD j 0) (l.getD (j + 1) 0) = true := by
  induction i with
  | zero => intro j hj; omega
  | succ i ih =>
    rw [lad] at h
    have := lad_le d l i
    intro j hj
    cases hd : d (l.getD i 0) (l.getD (i + 1) 0) with
    | false => rw [hd] at h; simp at h; omega
    | true =>
      rw [hd] at h
      by_cases e : j = i
      · subst e; exact hd
      · exact ih (by simpa using h) j (by omega)
theorem lad_full {d : Nat → Nat → Bool} {l : List Nat} (i : Nat) (h : ∀ j, j < i → d (l.getD j 0) (l.getD (j + 1) 0) = true) : lad d l i = i := by
  induction i with
  | zero => rfl
  | succ i ih => rw [lad, ih fun j hj => h j (by omega), if_pos (h i (by omega))]
end Go.Proofs.YtphccomhggnccaaGreat.Fm
namespace Go.Proofs.YtphccomhggnccaaGreat.Fm
set_option maxRecDepth 100000
set_option linter.unusedVariables false
set_option linter.unusedSimpArgs false
open Rank
def klt (x y : Nat × Nat) : Prop := x.1 < y.1 ∨ (x.1 = y.1 ∧ x.2 < y.2)
def kle (x y : Nat × Nat) : Prop := x.1 < y.1 ∨ (x.1 = y.1 ∧ x.2 ≤ y.2)
theorem lad_lt {l : List Nat} {key : Nat → Nat × Nat} (hs : l.Pairwise fun a b => kle (key a) (key b)) (i j : Nat) (hi : i < l.length) (hj : j < l.length) :
    (lad (fun a b => key a != key b) l i < lad (fun a b => key a != key b) l j ↔ klt (key (l.getD i 0)) (key (l.getD j 0))) ∧
    (lad (fun a b => key a != key b) l i = lad (fun a b => key a != key b) l j ↔ key (l.getD i 0) = key (l.getD j 0)) := by
  rcases Nat.lt_trichotomy i j with h | h | h
  · have e := lad_key hs i j (by omega) hj
    have m := lad_mono (fun a b => key a != key b) l (show i ≤ j by omega)
    have p := List.pairwise_iff_getElem.1 hs i j hi hj h
    rw [← getD_at, ← getD_at] at p
    refine ⟨?_, e⟩
    generalize lad (fun a b => key a != key b) l i = x at *
    generalize lad (fun a b => key a != key b) l j = y at *
    generalize key (l.getD i 0) = u at *
    generalize key (l.getD j 0) = v at *
    obtain ⟨u1, u2⟩ := u
    obtain ⟨v1, v2⟩ := v
    simp only [klt, kle, Prod.mk.injEq] at *
    omega
  · subst h
    refine ⟨?_, by simp⟩
    simp only [klt]
    omega
  · have e := lad_key hs j i (by omega) hi
    have m := lad_mono (fun a b => key a != key b) l (show j ≤ i by omega)
    have p := List.pairwise_iff_getElem.1 hs j i hj hi h
    rw [← getD_at, ← getD_at] at p
    generalize lad (fun a b => key a != key b) l i = x at *
    generalize lad (fun a b => key a != key b) l j = y at *
    generalize key (l.getD i 0) = u at *
    generalize key (l.getD j 0) = v at *
    obtain ⟨u1, u2⟩ := u
    obtain ⟨v1, v2⟩ := v
    simp only [klt, kle, Prod.mk.injEq] at *
    omega

def tmpL (n k : Nat) (sa : List Nat) : List Nat := (List.range k).map (fun i => n - k + i) ++ (sa.filter fun p => decide (k ≤ p)).map fun p => p - k
theorem filter_range (k m : Nat) : ((List.range (k + m)).filter fun p => decide (k ≤ p)).map (fun p => p - k) = List.range m := by
  induction m with
  | zero =>
    rw [List.filter_eq_nil_iff.2]; rfl
    intro p hp
    have := List.mem_range.1 hp
    simp; omega
  | succ m ih =>
    rw [← Nat.add_assoc, List.range_succ, List.filter_append, List.map_append, ih, List.range_succ]
    congr 1
    simp
theorem tmp_perm {n k : Nat} {sa : List Nat} (h : sa.Perm (List.range n)) (hk : k ≤ n) : (tmpL n k sa).Perm (List.range n) := by
  have h1 : ((sa.filter fun p => decide (k ≤ p)).map fun p => p - k).Perm (List.range (n - k)) := by
    have := (h.filter fun p => decide (k ≤ p)).map fun p => p - k
    have e := filter_range k (n - k)
    rw [show k + (n - k) = n by omega] at e
    rwa [e] at this
  have h2 : List.range n = List.range (n - k) ++ (List.range k).map (fun i => n - k + i) := by
    conv => lhs; rw [show n = (n - k) + k by omega]
    rw [List.range_add]
  rw [h2]
  unfold tmpL
  exact List.perm_append_comm.trans (h1.append (List.Perm.refl _))
theorem tmp_sorted {s : List Nat} {k : Nat} {rank : Nat → Nat} {sa : List Nat} (h : sa.Perm (List.range s.length)) (hk : k ≤ s.length) (hs : sa.Pairwise fun a b => rank a ≤ rank b) :
    (tmpL s.length k sa).Pairwise fun a b => sec s k rank a ≤ sec s k rank b := by
  unfold tmpL
  rw [List.pairwise_append]
  have z : ∀ p ∈ (List.range k).map (fun i => s.length - k + i), sec s k rank p = 0 := by
    intro p hp
    obtain ⟨i, _, rfl⟩ := List.mem_map.1 hp
    unfold sec; rw [if_neg (by omega)]
  refine ⟨?_, ?_, ?_⟩
  · exact List.Pairwise.imp_of_mem (R := fun _ _ => True) (fun ha hb _ => by rw [z _ ha]; exact Nat.zero_le _) (List.pairwise_of_forall fun _ _ => trivial)
  · rw [List.pairwise_map]
    refine List.Pairwise.imp_of_mem ?_ (hs.filter _)
    intro a b ha hb hr
    have ka : k ≤ a := by have := (List.mem_filter.1 ha).2; simpa using this
    have kb : k ≤ b := by have := (List.mem_filter.1 hb).2; simpa using this
    have la := List.mem_range.1 (h.mem_iff.1 (List.mem_filter.1 ha).1)
    have lb := List.mem_range.1 (h.mem_iff.1 (List.mem_filter.1 hb).1)
    unfold sec
    rw [show a - k + k = a by omega, show b - k + k = b by omega, if_pos la, if_pos lb]
    omega
  · intro a ha b _
    rw [z a ha]; exact Nat.zero_le _

structure Inv (s : List Nat) (k : Nat) (rank : Nat → Nat) (many : Nat) (sa : List Nat) : Prop where
  k1 : 1 ≤ k
  emb : Emb s k rank
  lt : ∀ p, p < s.length → rank p < many
  perm : sa.Perm (List.range s.length)
  sorted : sa.Pairwise fun a b => rank a ≤ rank b
  le : many ≤ s.length
  inj : s.length ≤ many ↔ ∀ a b, a < s.length → b < s.length → rank a = rank b → a = b
theorem Inv.small {s : List Nat} {k : Nat} {rank : Nat → Nat} {many : Nat} {sa : List Nat} (h : Inv s k rank many sa) (hm : many < s.length) : k < s.length := by
  rcases Nat.lt_or_ge k s.length with hk | hk
  · exact hk
  · exfalso
    have := h.inj.2 fun a b ha hb e => pre_inj ha hb hk ((h.emb.eq a b ha hb).1 e)
    omega
theorem Inv.done {s : List Nat} {k : Nat} {rank : Nat → Nat} {many : Nat} {sa : List Nat} (h : Inv s k rank many sa) (hm : s.length ≤ many) : IsSA s sa := by
  refine ⟨h.perm, ?_⟩
  have hnd : sa.Nodup := h.perm.nodup_iff.2 List.nodup_range
  refine List.Pairwise.imp_of_mem ?_ (h.sorted.and hnd)
  rintro a b ha hb ⟨h1, h2⟩
  have la := List.mem_range.1 (h.perm.mem_iff.1 ha)
  have lb := List.mem_range.1 (h.perm.mem_iff.1 hb)
  have hne : rank a ≠ rank b := fun e => h2 (h.inj.1 hm a b la lb e)
  have hl := (h.emb.lt a b la lb).1 (by omega)
  have hd : pre s k a ≠ pre s k b := fun e => hne ((h.emb.eq a b la lb).2 e)
  rw [lx_take _ _ k hd]
  exact hl
theorem perm_at {n : Nat} {l : List Nat} (h : l.Perm (List.range n)) : l.length = n ∧ (∀ p, p < n → ∃ i, i < n ∧ l.getD i 0 = p) ∧ (∀ i, i < n → l.getD i 0 < n) ∧ (∀ i j, i < n → j < n → l.getD i 0 = l.getD j 0 → i = j) := by
  have hl : l.length = n := by rw [h.length_eq, List.length_range]
  refine ⟨hl, fun p hp => ?_, fun i hi => ?_, fun i j hi hj e => ?_⟩
  · obtain ⟨i, hi, e⟩ := List.getElem_of_mem (h.mem_iff.2 (List.mem_range.2 hp))
    exact ⟨i, by omega, by rw [getD_at hi]; exact e⟩
  · rw [getD_at (by omega)]
    exact List.mem_range.1 (h.mem_iff.1 (List.getElem_mem _))
  · rw [getD_at (by omega), getD_at (by omega)] at e
    have hnd : l.Nodup := h.nodup_iff.2 List.nodup_range
    have hp := List.pairwise_iff_getElem.1 hnd
    rcases Nat.lt_trichotomy i j with h1 | h1 | h1
    · exact absurd e (hp i j (by omega) (by omega) h1)
    · exact h1
    · exact absurd e.symm (hp j i (by omega) (by omega) h1)
theorem Inv.next {s : List Nat} {k : Nat} {rank : Nat → Nat} {many : Nat} {sa : List Nat} (h : Inv s k rank many sa) (hm : many < s.length) (nx : Nat → Nat) (m : Nat)
    (hn : ∀ i, i < s.length → nx ((bucket (tmpL s.length k sa) rank many).getD i 0) = lad (fun a b => (rank a, sec s k rank a) != (rank b, sec s k rank b)) (bucket (tmpL s.length k sa) rank many) i)
    (hmm : m = lad (fun a b => (rank a, sec s k rank a) != (rank b, sec s k rank b)) (bucket (tmpL s.length k sa) rank many) (s.length - 1) + 1) :
    Inv s (2 * k) nx m (bucket (tmpL s.length k sa) rank many) := by
  have hk := h.small hm
  have hk1 := h.k1
  have tp := tmp_perm h.perm (Nat.le_of_lt hk)
  have ts := tmp_sorted (rank := rank) h.perm (Nat.le_of_lt hk) h.sorted
  have hb : (bucket (tmpL s.length k sa) rank many).Perm (List.range s.length) :=
    (bucket_perm _ _ _ fun p hp => h.lt p (List.mem_range.1 (tp.mem_iff.1 hp))).trans tp
  have hs : (bucket (tmpL s.length k sa) rank many).Pairwise fun a b => kle (rank a, sec s k rank a) (rank b, sec s k rank b) := bucket_sorted _ _ _ ts
  generalize bucket (tmpL s.length k sa) rank many = sb at *
  obtain ⟨bl, bs, blt, binj⟩ := perm_at hb
  have hd := fun {a b : Nat} (ha : a < s.length) (hb : b < s.length) => double_lt h.emb hk1 ha hb
  have hll := fun i j (hi : i < s.length) (hj : j < s.length) => lad_lt (key := fun p => (rank p, sec s k rank p)) hs i j (by omega) (by omega)
  have hlm := fun {i j : Nat} (h : i ≤ j) => lad_mono (fun a b => (rank a, sec s k rank a) != (rank b, sec s k rank b)) sb h
  have hle := lad_le (fun a b => (rank a, sec s k rank a) != (rank b, sec s k rank b)) sb
  have hla := fun i => lad_all (d := fun a b => (rank a, sec s k rank a) != (rank b, sec s k rank b)) (l := sb) i
  have hlf := fun i => lad_full (d := fun a b => (rank a, sec s k rank a) != (rank b, sec s k rank b)) (l := sb) i
  refine ⟨by omega, ⟨?_, ?_⟩, ?_, hb, ?_, ?_, ?_⟩
  · intro a b ha hb2
    obtain ⟨i, hi, rfl⟩ := bs a ha
    obtain ⟨j, hj, rfl⟩ := bs b hb2
    rw [hn i hi, hn j hj, (hll i j hi hj).1, ← (hd ha hb2).1]
    rfl
  · intro a b ha hb2
    obtain ⟨i, hi, rfl⟩ := bs a ha
    obtain ⟨j, hj, rfl⟩ := bs b hb2
    rw [hn i hi, hn j hj, (hll i j hi hj).2, ← (hd ha hb2).2]
    simp
  · intro p hp
    obtain ⟨i, hi, rfl⟩ := bs p hp
    rw [hn i hi, hmm]
    have := hlm (show i ≤ s.length - 1 by omega)
    omega
  · rw [List.pairwise_iff_getElem]
    intro i j hi hj hij
    have := hlm (show i ≤ j by omega)
    rw [← hn i (by omega), ← hn j (by omega), getD_at hi, getD_at hj] at this
    exact this
  · have := hle (s.length - 1)
    omega
  · constructor
    · intro hnm a b ha hb2 e
      obtain ⟨i, hi, rfl⟩ := bs a ha
      obtain ⟨j, hj, rfl⟩ := bs b hb2
      rw [hn i hi, hn j hj] at e
      have hfull : lad (fun a b => (rank a, sec s k rank a) != (rank b, sec s k rank b)) sb (s.length - 1) = s.length - 1 := by
        have := hle (s.length - 1); omega
      have hstep := hla _ hfull
      have hi2 : lad (fun a b => (rank a, sec s k rank a) != (rank b, sec s k rank b)) sb i = i := hlf i fun q hq => hstep q (by omega)
      have hj2 : lad (fun a b => (rank a, sec s k rank a) != (rank b, sec s k rank b)) sb j = j := hlf j fun q hq => hstep q (by omega)
      have : i = j := by omega
      rw [this]
    · intro hin
      have hfull : lad (fun a b => (rank a, sec s k rank a) != (rank b, sec s k rank b)) sb (s.length - 1) = s.length - 1 := by
        refine hlf _ fun j hj => ?_
        cases hx : ((fun a b => (rank a, sec s k rank a) != (rank b, sec s k rank b)) (sb.getD j 0) (sb.getD (j + 1) 0)) with
        | true => exact hx
        | false =>
          exfalso
          have hx2 : (rank (sb.getD j 0), sec s k rank (sb.getD j 0)) = (rank (sb.getD (j + 1) 0), sec s k rank (sb.getD (j + 1) 0)) := by simpa using hx
          have := (hll j (j + 1) (by omega) (by omega)).2.2 hx2
          rw [← hn j (by omega), ← hn (j + 1) (by omega)] at this
          have := binj j (j + 1) (by omega) (by omega) (hin _ _ (blt j (by omega)) (blt (j + 1) (by omega)) this)
          omega
      omega
end Go.Proofs.YtphccomhggnccaaGreat.Fm
namespace Go.Proofs.YtphccomhggnccaaGreat.Fm
set_option maxRecDepth 100000
set_option linter.unusedVariables false
set_option linter.unusedSimpArgs false
open Rank Go.Lib
theorem arr_get (t : List Int) (j : Nat) (h : j < t.length) : (t.toArray)[j]! = t.getD j 0 := by
  rw [getElem!_pos _ _ (by simpa using h)]
  simp [List.getD, List.getElem?_eq_getElem h]
theorem int_range (t : List Int) : (List.range t.length).map (fun j => (t.toArray)[j]!) = t := by
  have := range_map_get t.toArray
  simpa using this
theorem compact_sub (t : List Int) : (compact t).Sublist t := by
  unfold compact compactUpTo
  have h := (List.filter_sublist (l := List.range t.length) (p := keeps t.toArray)).map (fun j => (t.toArray)[j]!)
  rwa [int_range] at h
theorem compact_mem (t : List Int) (x : Int) (hx : x ∈ t) : x ∈ compact t := by
  obtain ⟨j, hj, rfl⟩ := List.getElem_of_mem hx
  clear hx
  have key : ∀ j, j < t.length → t.getD j 0 ∈ compact t := by
    intro j
    induction j with
    | zero =>
      intro hj
      unfold compact compactUpTo
      refine List.mem_map.2 ⟨0, List.mem_filter.2 ⟨List.mem_range.2 hj, by simp [keeps]⟩, arr_get t 0 hj⟩
    | succ j ih =>
      intro hj
      by_cases e : t.getD (j + 1) 0 = t.getD j 0
      · rw [e]; exact ih (by omega)
      · unfold compact compactUpTo
        refine List.mem_map.2 ⟨j + 1, List.mem_filter.2 ⟨List.mem_range.2 hj, ?_⟩, arr_get t (j + 1) hj⟩
        simp only [keeps, decide_eq_true_eq]
        right
        rw [arr_get t (j + 1) hj, show j + 1 - 1 = j by omega, arr_get t j (by omega)]
        exact e
  have := key j hj
  rwa [List.getD_eq_getElem?_getD, List.getElem?_eq_getElem hj] at this
theorem compact_len (t : List Int) : (compact t).length ≤ t.length := (compact_sub t).length_le
theorem compact_full (t : List Int) (hs : t.Pairwise (· ≤ ·)) : t.length ≤ (compact t).length ↔ t.Nodup := by
  constructor
  · intro h
    have e := (compact_sub t).eq_of_length (Nat.le_antisymm (compact_len t) h)
    have hk : ∀ j, j < t.length → keeps t.toArray j = true := by
      unfold compact compactUpTo at h
      rw [List.length_map] at h
      have h2 : (List.range t.length).filter (keeps t.toArray) = List.range t.length := (List.filter_sublist).eq_of_length (Nat.le_antisymm (List.length_filter_le _ _) (by rw [List.length_range]; exact h))
      intro j hj
      exact List.filter_eq_self.1 h2 j (List.mem_range.2 hj)
    have hadj : ∀ j, j + 1 < t.length → t.getD j 0 < t.getD (j + 1) 0 := by
      intro j hj
      have := hk (j + 1) hj
      simp only [keeps, decide_eq_true_eq] at this
      rw [arr_get t (j + 1) hj, show j + 1 - 1 = j by omega, arr_get t j (by omega)] at this
      have hp := List.pairwise_iff_getElem.1 hs j (j + 1) (by omega) hj (by omega)
      have e1 : t.getD j 0 = t[j] := by rw [List.getD_eq_getElem?_getD, List.getElem?_eq_getElem (by omega)]; rfl
      have e2 : t.getD (j + 1) 0 = t[j + 1] := by rw [List.getD_eq_getElem?_getD, List.getElem?_eq_getElem (by omega)]; rfl
      rw [e1, e2] at this ⊢
      rcases this with h | h
      · omega
      · omega
    have hmono : ∀ i d, i + d + 1 < t.length → t.getD i 0 < t.getD (i + d + 1) 0 := by
      intro i d
      induction d with
      | zero => intro h; exact hadj i h
      | succ d ih =>
        intro h
        have a := ih (by omega)
        have b := hadj (i + d + 1) (by omega)
        rw [show i + (d + 1) + 1 = i + d + 1 + 1 by omega]
        omega
    refine List.pairwise_iff_getElem.2 fun i j hi hj hij => ?_
    have := hmono i (j - i - 1) (by omega)
    rw [show i + (j - i - 1) + 1 = j by omega] at this
    rw [List.getD_eq_getElem?_getD, List.getElem?_eq_getElem hi, List.getD_eq_getElem?_getD, List.getElem?_eq_getElem hj] at this
    simp at this
    intro e; omega
  · intro h
    have : compact t = t := by
      refine compact_all t fun j hj => ?_
      simp only [keeps, decide_eq_true_eq]
      cases j with
      | zero => exact .inl rfl
      | succ j =>
        right
        rw [arr_get t (j + 1) hj, show j + 1 - 1 = j by omega, arr_get t j (by omega)]
        have := List.pairwise_iff_getElem.1 h j (j + 1) (by omega) hj (by omega)
        rw [List.getD_eq_getElem?_getD, List.getElem?_eq_getElem hj, List.getD_eq_getElem?_getD, List.getElem?_eq_getElem (by omega)]
        exact fun e => this e.symm
    rw [this]; exact Nat.le_refl _

def rk0 (u : List Int) (s : List Nat) (p : Nat) : Nat := u.countP fun x => decide (x < ((s.getD p 0 : Nat) : Int))
theorem countP_lt {u : List Int} {a b : Int} (ha : a ∈ u) : u.countP (fun x => decide (x < a)) < u.countP (fun x => decide (x < b)) ↔ a < b := by
  have mono : ∀ {a b : Int}, a ≤ b → u.countP (fun x => decide (x < a)) ≤ u.countP (fun x => decide (x < b)) := fun {a b} h =>
    List.countP_mono_left fun x _ hx => by simp only [decide_eq_true_eq] at hx ⊢; omega
  constructor
  · intro h
    by_cases e : a < b
    · exact e
    · have := mono (show b ≤ a by omega); omega
  · intro h
    clear mono
    induction u with
    | nil => cases ha
    | cons y u ih =>
      rw [List.countP_cons, List.countP_cons]
      have m2 : u.countP (fun x => decide (x < a)) ≤ u.countP (fun x => decide (x < b)) := List.countP_mono_left fun x _ hx => by simp only [decide_eq_true_eq] at hx ⊢; omega
      rcases List.mem_cons.1 ha with rfl | hm
      · rw [if_neg (by simp), if_pos (by simpa using h)]; omega
      · have := ih hm
        by_cases hy : y < a
        · rw [if_pos (by simpa using hy), if_pos (by simp; omega)]; omega
        · rw [if_neg (by simpa using hy)]; split <;> omega
theorem pre_one {s : List Nat} {p : Nat} (h : p < s.length) : pre s 1 p = [s.getD p 0] := by
  unfold pre; rw [drop_at h]; rfl
theorem ints_mem {s : List Nat} {p : Nat} (h : p < s.length) : ((s.getD p 0 : Nat) : Int) ∈ s.map fun x : Nat => (x : Int) := by
  refine List.mem_map.2 ⟨s.getD p 0, ?_, rfl⟩
  rw [getD_at h]; exact List.getElem_mem h
theorem Inv.first {s : List Nat} {t : List Int} (hp : t.Perm (s.map fun x : Nat => (x : Int))) (hs : t.Pairwise (· ≤ ·)) :
    Inv s 1 (rk0 (compact t) s) (compact t).length (bucket (List.range s.length) (rk0 (compact t) s) (compact t).length) := by
  have hm : ∀ p, p < s.length → ((s.getD p 0 : Nat) : Int) ∈ compact t := fun p h => compact_mem t _ (hp.mem_iff.2 (ints_mem h))
  have hlt : ∀ p, p < s.length → rk0 (compact t) s p < (compact t).length := by
    intro p h
    have hne := hm p h
    unfold rk0
    rcases Nat.lt_or_ge ((compact t).countP fun x => decide (x < ((s.getD p 0 : Nat) : Int))) (compact t).length with h2 | h2
    · exact h2
    · have h3 := Nat.le_antisymm List.countP_le_length h2
      have := List.countP_eq_length.1 h3 _ hne
      simp at this
  have hcmp : ∀ a b, a < s.length → b < s.length → (rk0 (compact t) s a < rk0 (compact t) s b ↔ s.getD a 0 < s.getD b 0) := by
    intro a b ha hb
    unfold rk0
    rw [countP_lt (hm a ha)]
    omega
  have heq : ∀ a b, a < s.length → b < s.length → (rk0 (compact t) s a = rk0 (compact t) s b ↔ s.getD a 0 = s.getD b 0) := by
    intro a b ha hb
    have h1 := hcmp a b ha hb
    have h2 := hcmp b a hb ha
    omega
  have hlen : t.length = s.length := by rw [hp.length_eq, List.length_map]
  refine ⟨Nat.le_refl _, ⟨?_, ?_⟩, hlt, bucket_perm _ _ _ fun p h => hlt p (List.mem_range.1 h), ?_, ?_, ?_⟩
  · intro a b ha hb
    rw [hcmp a b ha hb, pre_one ha, pre_one hb]
    simp [lx]
  · intro a b ha hb
    rw [heq a b ha hb, pre_one ha, pre_one hb]
    simp
  · have := bucket_sorted (List.range s.length) (rk0 (compact t) s) (compact t).length (R := fun _ _ => True) (List.pairwise_of_forall fun _ _ => trivial)
    exact this.imp fun h => by rcases h with h | ⟨h, _⟩ <;> omega
  · rw [← hlen]; exact compact_len t
  · rw [← hlen, compact_full t hs]
    have hnd : t.Nodup ↔ (s.map fun x : Nat => (x : Int)).Nodup := hp.nodup_iff
    rw [hnd, List.Nodup, List.pairwise_iff_getElem]
    simp only [List.length_map, List.getElem_map]
    constructor
    · intro h a b ha hb e
      rw [hlen] at ha hb
      have e2 := (heq a b ha hb).1 e
      rw [getD_at ha, getD_at hb] at e2
      rcases Nat.lt_trichotomy a b with h1 | h1 | h1
      · exact absurd (by rw [e2]) (h a b ha hb h1)
      · exact h1
      · exact absurd (by rw [e2]) (h b a hb ha h1)
    · intro h a b ha hb hab e
      have e2 : s.getD a 0 = s.getD b 0 := by rw [getD_at ha, getD_at hb]; omega
      have := h a b (by rw [hlen]; exact ha) (by rw [hlen]; exact hb) ((heq a b ha hb).2 e2)
      omega
end Go.Proofs.YtphccomhggnccaaGreat.Fm
namespace Go.Proofs.YtphccomhggnccaaGreat.Fm
set_option maxRecDepth 100000
set_option linter.unusedVariables false
set_option linter.unusedSimpArgs false
open Rank
def txt (t : List Nat) : List Nat := t.map (· + 2) ++ [1]
def body (ts : List (List Nat)) : List Nat := ts.flatMap txt
def rowT (ts : List (List Nat)) : List Nat := body ts ++ [0]
theorem txt_length (t : List Nat) : (txt t).length = t.length + 1 := by simp [txt]
theorem body_cons (t : List Nat) (ts : List (List Nat)) : body (t :: ts) = txt t ++ body ts := rfl
theorem body_append (a b : List (List Nat)) : body (a ++ b) = body a ++ body b := by simp [body]
theorem rowT_cons (t : List Nat) (ts : List (List Nat)) : rowT (t :: ts) = txt t ++ rowT ts := by
  unfold rowT; rw [body_cons, List.append_assoc]
theorem rowT_length (ts : List (List Nat)) : (rowT ts).length = (body ts).length + 1 := by simp [rowT]
theorem body_pos (ts : List (List Nat)) : ∀ x ∈ body ts, 1 ≤ x := by
  intro x hx
  obtain ⟨t, _, h⟩ := List.mem_flatMap.1 hx
  unfold txt at h
  rcases List.mem_append.1 h with h | h
  · obtain ⟨y, _, rfl⟩ := List.mem_map.1 h; omega
  · simp at h; omega
theorem rowT_closed (ts : List (List Nat)) : Closed (rowT ts) := by
  refine ⟨by rw [rowT_length]; omega, fun i hi => ?_⟩
  rw [rowT_length] at hi ⊢
  rw [show (body ts).length + 1 - 1 = (body ts).length by omega]
  unfold rowT
  by_cases h : i < (body ts).length
  · have h1 : (body ts ++ [0]).getD i 0 = (body ts)[i] := by
      rw [List.getD_eq_getElem?_getD, List.getElem?_append_left h, List.getElem?_eq_getElem h]; rfl
    rw [h1]
    have := body_pos ts _ (List.getElem_mem h)
    omega
  · obtain rfl : i = (body ts).length := by omega
    have h1 : (body ts ++ [0]).getD (body ts).length 0 = 0 := by
      rw [List.getD_eq_getElem?_getD, List.getElem?_append_right (Nat.le_refl _), Nat.sub_self]; rfl
    rw [h1]; simp

def stf (o : Nat) : List (List Nat) → List Nat
  | [] => [o]
  | t :: ts => o :: stf (o + t.length + 1) ts
theorem stf_length (o : Nat) (ts : List (List Nat)) : (stf o ts).length = ts.length + 1 := by
  induction ts generalizing o with
  | nil => rfl
  | cons t ts ih => simp [stf, ih]
theorem stf_head (o : Nat) (ts : List (List Nat)) : (stf o ts).getD 0 0 = o := by cases ts <;> rfl
theorem stf_ge (o : Nat) (ts : List (List Nat)) : ∀ x ∈ stf o ts, o ≤ x := by
  induction ts generalizing o with
  | nil => intro x hx; simp [stf] at hx; omega
  | cons t ts ih =>
    intro x hx
    rcases List.mem_cons.1 hx with rfl | h
    · exact Nat.le_refl _
    · have := ih _ x h; omega
theorem stf_sorted (o : Nat) (ts : List (List Nat)) : (stf o ts).Pairwise (· < ·) := by
  induction ts generalizing o with
  | nil => exact List.pairwise_singleton _ _
  | cons t ts ih =>
    refine List.pairwise_cons.2 ⟨fun x hx => ?_, ih _⟩
    have := stf_ge _ ts x hx; omega
theorem stf_next (o : Nat) (ts : List (List Nat)) (d : Nat) (h : d < ts.length) : (stf o ts).getD (d + 1) 0 = (stf o ts).getD d 0 + (ts.getD d []).length + 1 := by
  induction ts generalizing o d with
  | nil => cases h
  | cons t ts ih =>
    cases d with
    | zero =>
      show (stf (o + t.length + 1) ts).getD 0 0 = o + t.length + 1
      exact stf_head _ _
    | succ d =>
      show (stf (o + t.length + 1) ts).getD (d + 1) 0 = (stf (o + t.length + 1) ts).getD d 0 + (ts.getD d []).length + 1
      exact ih _ d (by simpa using h)
theorem stf_last (o : Nat) (ts : List (List Nat)) : (stf o ts).getD ts.length 0 = o + (body ts).length := by
  induction ts generalizing o with
  | nil => simp [stf, body]
  | cons t ts ih =>
    show (stf (o + t.length + 1) ts).getD ts.length 0 = _
    rw [ih, body_cons, List.length_append, txt_length]
    omega
def docOf (st : List Nat) (p : Nat) : Nat := (st.countP fun x => decide (x ≤ p)) - 1
theorem docOf_in (o : Nat) (ts : List (List Nat)) (d f : Nat) (hd : d < ts.length) (hf : f ≤ (ts.getD d []).length) : docOf (stf o ts) ((stf o ts).getD d 0 + f) = d := by
  have key : (stf o ts).countP (fun x => decide (x ≤ (stf o ts).getD d 0 + f)) = d + 1 := by
    induction ts generalizing o d with
    | nil => cases hd
    | cons t ts ih =>
      cases d with
      | zero =>
        have hz : (stf o (t :: ts)).getD 0 0 = o := stf_head _ _
        rw [hz]
        show (o :: stf (o + t.length + 1) ts).countP _ = _
        rw [List.countP_cons_of_pos (by simp)]
        have : (stf (o + t.length + 1) ts).countP (fun x => decide (x ≤ o + f)) = 0 := by
          rw [List.countP_eq_zero]
          intro x hx
          have h1 := stf_ge _ ts x hx
          have h2 : f ≤ t.length := hf
          simp; omega
        rw [this]
      | succ d =>
        have hs : (stf o (t :: ts)).getD (d + 1) 0 = (stf (o + t.length + 1) ts).getD d 0 := rfl
        rw [hs]
        show (o :: stf (o + t.length + 1) ts).countP _ = _
        have hge : o + t.length + 1 ≤ (stf (o + t.length + 1) ts).getD d 0 := by
          have hl : d < (stf (o + t.length + 1) ts).length := by rw [stf_length]; simp at hd; omega
          rw [getD_at hl]
          exact stf_ge _ ts _ (List.getElem_mem hl)
        rw [List.countP_cons_of_pos (by show decide (o ≤ _) = true; rw [decide_eq_true_eq]; omega), ih _ d (by simpa using hd) hf]
  unfold docOf
  rw [key]; rfl

def locF (d0 : Nat) (P : List Nat) : List (List Nat) → List (Nat × Nat)
  | [] => []
  | t :: ts => (((List.range t.length).filter fun f => P.isPrefixOf (t.drop f)).map fun f => (d0, f)) ++ locF (d0 + 1) P ts
theorem filter_range_add (a b : Nat) (Q : Nat → Bool) : (List.range (a + b)).filter Q = (List.range a).filter Q ++ ((List.range b).filter fun i => Q (a + i)).map fun i => a + i := by
  rw [List.range_add, List.filter_append, List.filter_map]
  rfl
theorem prefix_txt (P x r : List Nat) (hP : P ≠ []) : (P.map (· + 2)).isPrefixOf (x.map (· + 2) ++ 1 :: r) = P.isPrefixOf x := by
  induction P generalizing x with
  | nil => exact absurd rfl hP
  | cons c P ih =>
    cases x with
    | nil =>
      have : (c + 2 == 1) = false := by rw [beq_eq_false_iff_ne]; omega
      simp [List.isPrefixOf, this]
    | cons y x =>
      simp only [List.map_cons, List.cons_append, List.isPrefixOf]
      have e : (c + 2 == y + 2) = (c == y) := by
        rw [Bool.eq_iff_iff, beq_iff_eq, beq_iff_eq]; omega
      rw [e]
      cases P with
      | nil => simp [List.isPrefixOf]
      | cons c2 P => rw [ih x (by simp)]
theorem drop_txt (t r : List Nat) (f : Nat) (hf : f ≤ t.length) : (txt t ++ r).drop f = (t.drop f).map (· + 2) ++ 1 :: r := by
  unfold txt
  rw [List.append_assoc, List.drop_append_of_le_length (by rw [List.length_map]; exact hf), ← List.map_drop]
  rfl
theorem places_eq (P : List Nat) (hP : P ≠ []) (ts : List (List Nat)) :
    (List.range (rowT ts).length).filter (fun p => (P.map (· + 2)).isPrefixOf ((rowT ts).drop p)) = (locF 0 P ts).map fun x => (stf 0 ts).getD x.1 0 + x.2 := by
  have gen : ∀ (o d0 : Nat), ((List.range (rowT ts).length).filter (fun p => (P.map (· + 2)).isPrefixOf ((rowT ts).drop p))).map (fun p => o + p) = (locF d0 P ts).map fun x => (stf o ts).getD (x.1 - d0) 0 + x.2 := by
    induction ts with
    | nil =>
      intro o d0
      obtain ⟨c, P', rfl⟩ := List.exists_cons_of_ne_nil hP
      have : (c + 2 == 0) = false := by rw [beq_eq_false_iff_ne]; omega
      simp [rowT, body, locF, List.isPrefixOf, this]
    | cons t ts ih =>
      intro o d0
      rw [rowT_cons, List.length_append, txt_length, filter_range_add, List.map_append, List.map_map, locF, List.map_append]
      congr 1
      · rw [List.range_succ, List.filter_append]
        have e1 : ([t.length].filter fun p => (P.map (· + 2)).isPrefixOf ((txt t ++ rowT ts).drop p)) = [] := by
          rw [List.filter_eq_nil_iff]
          intro p hp
          have : p = t.length := by simpa using hp
          subst this
          rw [drop_txt _ _ _ (Nat.le_refl _), List.drop_length, prefix_txt P [] _ hP]
          obtain ⟨c, P', rfl⟩ := List.exists_cons_of_ne_nil hP
          simp [List.isPrefixOf]
        rw [e1, List.append_nil, List.map_map]
        have e2 : (List.range t.length).filter (fun p => (P.map (· + 2)).isPrefixOf ((txt t ++ rowT ts).drop p)) = (List.range t.length).filter (fun f => P.isPrefixOf (t.drop f)) := by
          refine filter_same _ _ _ fun f hf => ?_
          have := List.mem_range.1 hf
          rw [drop_txt _ _ _ (by omega), prefix_txt P _ _ hP]
        rw [e2]
        refine List.map_congr_left fun f _ => ?_
        simp only [Function.comp, Nat.sub_self]
        rw [stf_head]
      · have e3 : (List.range (rowT ts).length).filter (fun i => (P.map (· + 2)).isPrefixOf ((txt t ++ rowT ts).drop (t.length + 1 + i))) = (List.range (rowT ts).length).filter (fun p => (P.map (· + 2)).isPrefixOf ((rowT ts).drop p)) := by
          refine filter_same _ _ _ fun i _ => ?_
          rw [← txt_length, List.drop_append, List.drop_eq_nil_of_le (by omega), List.nil_append, Nat.add_sub_cancel_left]
        rw [e3]
        have h := ih (o + t.length + 1) (d0 + 1)
        have e4 : ((fun p => o + p) ∘ fun i => t.length + 1 + i) = fun p => o + t.length + 1 + p := by funext p; simp only [Function.comp]; omega
        rw [e4, h]
        refine List.map_congr_left fun x hx => ?_
        have hge : d0 + 1 ≤ x.1 := by
          have : ∀ (ts : List (List Nat)) (d : Nat), ∀ x ∈ locF d P ts, d ≤ x.1 := by
            intro ts
            induction ts with
            | nil => intro d x hx; cases hx
            | cons t ts ih =>
              intro d x hx
              rcases List.mem_append.1 hx with h | h
              · obtain ⟨f, _, rfl⟩ := List.mem_map.1 h; exact Nat.le_refl _
              · have := ih _ x h; omega
          exact this ts _ x hx
        show (stf (o + t.length + 1) ts).getD (x.1 - (d0 + 1)) 0 + x.2 = (stf o (t :: ts)).getD (x.1 - d0) 0 + x.2
        rw [show x.1 - d0 = (x.1 - (d0 + 1)) + 1 by omega]
        rfl
  have := gen 0 0
  simp only [Nat.zero_add, Nat.sub_zero, List.map_id'] at this
  exact this
theorem locF_mem (P : List Nat) (ts : List (List Nat)) (d0 : Nat) : ∀ x ∈ locF d0 P ts, d0 ≤ x.1 ∧ x.1 < d0 + ts.length ∧ x.2 < (ts.getD (x.1 - d0) []).length := by
  induction ts generalizing d0 with
  | nil => intro x hx; cases hx
  | cons t ts ih =>
    intro x hx
    rcases List.mem_append.1 hx with h | h
    · obtain ⟨f, hf, rfl⟩ := List.mem_map.1 h
      have := List.mem_range.1 (List.mem_filter.1 hf).1
      refine ⟨Nat.le_refl _, by simp, ?_⟩
      simp only [Nat.sub_self]
      exact this
    · obtain ⟨h1, h2, h3⟩ := ih _ x h
      refine ⟨by omega, by simp; omega, ?_⟩
      rw [show x.1 - d0 = (x.1 - (d0 + 1)) + 1 by omega]
      exact h3
theorem loc_back (P : List Nat) (hP : P ≠ []) (ts : List (List Nat)) :
    ((List.range (rowT ts).length).filter (fun p => (P.map (· + 2)).isPrefixOf ((rowT ts).drop p))).map (fun p => (docOf (stf 0 ts) p, p - (stf 0 ts).getD (docOf (stf 0 ts) p) 0)) = locF 0 P ts := by
  rw [places_eq P hP, List.map_map]
  conv => rhs; rw [← List.map_id (locF 0 P ts)]
  refine List.map_congr_left fun x hx => ?_
  obtain ⟨_, h2, h3⟩ := locF_mem P ts 0 x hx
  rw [Nat.sub_zero] at h3
  have := docOf_in 0 ts x.1 x.2 (by omega) (by omega)
  simp only [Function.comp, this, id]
  rw [Nat.add_sub_cancel_left]
theorem locF_sorted (P : List Nat) (ts : List (List Nat)) (d0 : Nat) : (locF d0 P ts).Pairwise fun a b => a.1 < b.1 ∨ (a.1 = b.1 ∧ a.2 < b.2) := by
  induction ts generalizing d0 with
  | nil => exact List.Pairwise.nil
  | cons t ts ih =>
    rw [locF, List.pairwise_append]
    refine ⟨?_, ih _, ?_⟩
    · rw [List.pairwise_map]
      refine ((List.pairwise_lt_range).filter _).imp fun h => .inr ⟨rfl, h⟩
    · intro a ha b hb
      obtain ⟨f, _, rfl⟩ := List.mem_map.1 ha
      have := (locF_mem P ts (d0 + 1) b hb).1
      exact .inl (by simp only; omega)
end Go.Proofs.YtphccomhggnccaaGreat.Fm
namespace Go.Proofs.YtphccomhggnccaaGreat.Fm
set_option maxRecDepth 100000
set_option linter.unusedVariables false
set_option linter.unusedSimpArgs false
open Rank
def FA (m : Nat) (f : Nat → Int) : List Int := (List.range m).map f
theorem FA_length (m : Nat) (f : Nat → Int) : (FA m f).length = m := by simp [FA]
theorem FA_getD (m : Nat) (f : Nat → Int) (i : Nat) (h : i < m) : (FA m f).getD i 0 = f i := by
  simp [FA, List.getD, List.getElem?_map, List.getElem?_range h]
theorem FA_same {m : Nat} {f g : Nat → Int} (h : ∀ i, i < m → f i = g i) : FA m f = FA m g :=
  List.map_congr_left fun i hi => h i (List.mem_range.1 hi)
theorem FA_set (m : Nat) (f : Nat → Int) (i : Nat) (v : Int) : (FA m f).set i v = FA m fun x => if x = i then v else f x := by
  apply List.ext_getElem
  · simp [FA]
  · intro j h1 h2
    simp only [FA, List.getElem_set, List.getElem_map, List.getElem_range]
    by_cases e : i = j
    · subst e; simp
    · rw [if_neg e, if_neg (by omega)]
theorem FA_const (m : Nat) (v : Int) : List.replicate m v = FA m fun _ => v := by
  apply List.ext_getElem
  · simp [FA]
  · intro j h1 h2; simp [FA]
def kc (keys : List Nat) (k j : Nat) : Nat := (keys.take j).count k
theorem kc_zero (keys : List Nat) (k : Nat) : kc keys k 0 = 0 := by simp [kc]
theorem kc_succ (keys : List Nat) (k j : Nat) (h : j < keys.length) : kc keys k (j + 1) = kc keys k j + if keys.getD j 0 = k then 1 else 0 := by
  unfold kc
  rw [List.take_succ_eq_append_getElem h, List.count_append, List.count_singleton, getD_at h]
  simp [beq_iff_eq]
theorem kc_le (keys : List Nat) (k j : Nat) : kc keys k j ≤ keys.length := by
  unfold kc
  exact Nat.le_trans List.count_le_length (by rw [List.length_take]; omega)
def c1 (keys : List Nat) (j : Nat) : Nat → Int := fun x => if x = 0 then 0 else ((kc keys (x - 1) j : Nat) : Int)
theorem c1_step (keys : List Nat) (many j : Nat) (h : j < keys.length) : (FA (many + 1) (c1 keys j)).set (keys.getD j 0 + 1) (c1 keys j (keys.getD j 0 + 1) + 1) = FA (many + 1) (c1 keys (j + 1)) := by
  rw [FA_set]
  refine FA_same fun x hx => ?_
  unfold c1
  by_cases e : x = keys.getD j 0 + 1
  · subst e
    rw [if_pos rfl, if_neg (by omega), if_neg (by omega), Nat.add_sub_cancel, kc_succ _ _ _ h, if_pos rfl]
    omega
  · rw [if_neg e]
    by_cases z : x = 0
    · rw [if_pos z, if_pos z]
    · rw [if_neg z, if_neg z, kc_succ _ _ _ h, if_neg (by omega), Nat.add_zero]
theorem c1_zero (keys : List Nat) (many : Nat) : FA (many + 1) (c1 keys 0) = List.replicate (many + 1) 0 := by
  rw [FA_const]
  refine FA_same fun x _ => ?_
  unfold c1
  split
  · rfl
  · rw [kc_zero]; rfl
theorem kc_all {places keys : List Nat} (hp : places.Perm (List.range keys.length)) (k : Nat) : kc keys k keys.length = (places.filter fun p => keys.getD p 0 == k).length := by
  have h := (hp.filter fun p => keys.getD p 0 == k).length_eq
  rw [h]
  unfold kc
  rw [List.take_length]
  conv => lhs; rw [self_range keys]
  rw [List.count_eq_countP, List.countP_map, List.countP_eq_length_filter]
  rfl
def c2 (places keys : List Nat) (i : Nat) : Nat → Int := fun x => if x < i then ((st places (fun p => keys.getD p 0) x : Nat) : Int) else c1 keys keys.length x
theorem c2_start (places keys : List Nat) (many : Nat) : FA (many + 1) (c1 keys keys.length) = FA (many + 1) (c2 places keys 1) := by
  refine FA_same fun x _ => ?_
  unfold c2 c1
  by_cases h : x < 1
  · obtain rfl : x = 0 := by omega
    rw [if_pos rfl, if_pos (by omega), st_zero]; rfl
  · rw [if_neg h]
theorem c2_step {places keys : List Nat} (hp : places.Perm (List.range keys.length)) (many i : Nat) (h1 : 1 ≤ i) : (FA (many + 1) (c2 places keys i)).set i (c2 places keys i i + c2 places keys i (i - 1)) = FA (many + 1) (c2 places keys (i + 1)) := by
  rw [FA_set]
  refine FA_same fun x hx => ?_
  by_cases e : x = i
  · subst e
    obtain ⟨q, rfl⟩ : ∃ q, x = q + 1 := ⟨x - 1, by omega⟩
    unfold c2 c1
    rw [if_pos rfl, if_neg (by omega), if_neg (by omega), if_pos (by omega), if_pos (by omega), Nat.add_sub_cancel, kc_all hp, st_succ]
    omega
  · rw [if_neg e]
    unfold c2
    by_cases h : x < i
    · rw [if_pos h, if_pos (by omega)]
    · rw [if_neg h, if_neg (by omega)]
def pk (places keys : List Nat) (k j : Nat) : List Nat := (places.take j).filter fun p => keys.getD p 0 == k
theorem pk_succ (places keys : List Nat) (k j : Nat) (h : j < places.length) : pk places keys k (j + 1) = pk places keys k j ++ if keys.getD (places.getD j 0) 0 = k then [places.getD j 0] else [] := by
  unfold pk
  rw [List.take_succ_eq_append_getElem h, List.filter_append, getD_at h, List.filter_cons, List.filter_nil]
  simp [beq_iff_eq]
theorem pk_all (places keys : List Nat) (k : Nat) : pk places keys k places.length = places.filter fun p => keys.getD p 0 == k := by
  unfold pk; rw [List.take_length]
theorem pk_prefix (places keys : List Nat) (k j : Nat) : ∃ r, places.filter (fun p => keys.getD p 0 == k) = pk places keys k j ++ r := by
  refine ⟨(places.drop j).filter fun p => keys.getD p 0 == k, ?_⟩
  unfold pk
  rw [← List.filter_append, List.take_append_drop]
def c3 (places keys : List Nat) (j : Nat) : Nat → Int := fun x => ((st places (fun p => keys.getD p 0) x + (pk places keys x j).length : Nat) : Int)
theorem c3_start (places keys : List Nat) (many : Nat) : FA (many + 1) (c2 places keys (many + 1)) = FA (many + 1) (c3 places keys 0) := by
  refine FA_same fun x hx => ?_
  unfold c2 c3
  rw [if_pos hx]
  simp [pk]
theorem c3_step (places keys : List Nat) (many j : Nat) (h : j < places.length) :
    (FA (many + 1) (c3 places keys j)).set (keys.getD (places.getD j 0) 0) (c3 places keys j (keys.getD (places.getD j 0) 0) + 1) = FA (many + 1) (c3 places keys (j + 1)) := by
  rw [FA_set]
  refine FA_same fun x _ => ?_
  unfold c3
  rw [pk_succ _ _ _ _ h]
  by_cases e : x = keys.getD (places.getD j 0) 0
  · subst e
    rw [if_pos rfl, if_pos rfl, List.length_append]
    simp only [List.length_cons, List.length_nil]
    omega
  · rw [if_neg e, if_neg (fun h => e h.symm), List.append_nil]
def Laid3 (places keys : List Nat) (many j : Nat) (o : List Int) : Prop :=
  o.length = places.length ∧ ∀ k, k < many → ∀ r, r < (pk places keys k j).length → o[st places (fun p => keys.getD p 0) k + r]? = ((pk places keys k j)[r]?).map fun p : Nat => (p : Int)
theorem laid3_zero (places keys : List Nat) (many : Nat) (o : List Int) (h : o.length = places.length) : Laid3 places keys many 0 o :=
  ⟨h, fun k _ r hr => by simp [pk] at hr⟩
theorem next_lt (places keys : List Nat) {many : Nat} (k j : Nat) (hk : k < many) (hj : j < places.length) (he : keys.getD (places.getD j 0) 0 = k) (hl : ∀ p ∈ places, keys.getD p 0 < many) :
    st places (fun p => keys.getD p 0) k + (pk places keys k j).length < st places (fun p => keys.getD p 0) (k + 1) ∧ st places (fun p => keys.getD p 0) (k + 1) ≤ places.length := by
  have h1 := st_succ places (fun p => keys.getD p 0) k
  obtain ⟨r, hr⟩ := pk_prefix places keys k (j + 1)
  have h2 := congrArg List.length hr
  rw [List.length_append, pk_succ _ _ _ _ hj, if_pos he, List.length_append] at h2
  simp only [List.length_cons, List.length_nil] at h2
  have h3 := st_mono places (fun p => keys.getD p 0) (show k + 1 ≤ many by omega)
  rw [st_all places (fun p => keys.getD p 0) many hl] at h3
  exact ⟨by omega, h3⟩
theorem laid3_step {places keys : List Nat} {many j : Nat} {o : List Int} (h : Laid3 places keys many j o) (hj : j < places.length) (hl : ∀ p ∈ places, keys.getD p 0 < many) :
    Laid3 places keys many (j + 1) (o.set (st places (fun p => keys.getD p 0) (keys.getD (places.getD j 0) 0) + (pk places keys (keys.getD (places.getD j 0) 0) j).length) ((places.getD j 0 : Nat) : Int)) := by
  obtain ⟨h1, h2⟩ := h
  refine ⟨by rw [List.length_set]; exact h1, fun k hk r hr => ?_⟩
  generalize hk0 : keys.getD (places.getD j 0) 0 = k0
  have hk0m : k0 < many := by rw [← hk0]; exact hl _ (by rw [getD_at hj]; exact List.getElem_mem hj)
  obtain ⟨n1, n2⟩ := next_lt places keys k0 j hk0m hj hk0 hl
  rw [pk_succ _ _ _ _ hj] at hr ⊢
  rw [hk0] at hr ⊢
  by_cases e : k0 = k
  · subst e
    rw [if_pos rfl] at hr ⊢
    by_cases hr2 : r < (pk places keys k0 j).length
    · rw [List.getElem?_set_ne (by omega), List.getElem?_append_left hr2]
      exact h2 _ hk0m r hr2
    · have : r = (pk places keys k0 j).length := by simp at hr; omega
      subst this
      rw [List.getElem?_set_self (by omega), List.getElem?_append_right (Nat.le_refl _), Nat.sub_self]
      rfl
  · rw [if_neg e, List.append_nil] at hr ⊢
    have hlt : st places (fun p => keys.getD p 0) k + r < st places (fun p => keys.getD p 0) (k + 1) := by
      rw [st_succ]
      obtain ⟨q, hq⟩ := pk_prefix places keys k j
      have := congrArg List.length hq
      rw [List.length_append] at this
      omega
    have hne : ¬ (st places (fun p => keys.getD p 0) k0 + (pk places keys k0 j).length = st places (fun p => keys.getD p 0) k + r) := by
      rcases Nat.lt_or_gt_of_ne e with h | h
      · have := st_mono places (fun p => keys.getD p 0) (show k0 + 1 ≤ k by omega); omega
      · have := st_mono places (fun p => keys.getD p 0) (show k + 1 ≤ k0 by omega); omega
    rw [List.getElem?_set_ne hne]
    exact h2 k hk r hr
theorem laid3_all {places keys : List Nat} {many : Nat} {o : List Int} (h : Laid3 places keys many places.length o) (hl : ∀ p ∈ places, keys.getD p 0 < many) :
    o = (bucket places (fun p => keys.getD p 0) many).map fun p : Nat => (p : Int) := by
  obtain ⟨h1, h2⟩ := h
  have hb := bucket_take places (fun p => keys.getD p 0) (o.map Int.toNat) many (fun k hk r hr => by
    have := h2 k hk r (by rw [pk_all]; exact hr)
    rw [List.getElem?_map, this, pk_all, Option.map_map]
    have e : (Int.toNat ∘ fun p : Nat => (p : Int)) = id := by funext p; simp
    rw [e, Option.map_id]; rfl)
  rw [st_all _ _ _ hl, List.take_of_length_le (by rw [List.length_map]; omega)] at hb
  have hnn : ∀ i, i < o.length → 0 ≤ o.getD i 0 := by
    intro i hi
    have hi2 : i < st places (fun p => keys.getD p 0) many := by rw [st_all _ _ _ hl]; omega
    have : ∃ k, k < many ∧ st places (fun p => keys.getD p 0) k ≤ i ∧ i < st places (fun p => keys.getD p 0) (k + 1) := by
      clear h2 hb hl
      induction many with
      | zero => rw [st_zero] at hi2; omega
      | succ m ih =>
        by_cases h : i < st places (fun p => keys.getD p 0) m
        · obtain ⟨k, a, b, c⟩ := ih h; exact ⟨k, by omega, b, c⟩
        · exact ⟨m, by omega, by omega, hi2⟩
    obtain ⟨k, hk, ha, hb2⟩ := this
    rw [st_succ] at hb2
    have := h2 k hk (i - st places (fun p => keys.getD p 0) k) (by rw [pk_all]; omega)
    rw [Nat.add_sub_cancel' ha, pk_all] at this
    rw [List.getD_eq_getElem?_getD, this]
    cases (places.filter fun p => keys.getD p 0 == k)[i - st places (fun p => keys.getD p 0) k]? <;> simp
  rw [← hb, List.map_map]
  apply List.ext_getElem
  · simp
  · intro i a b
    have := hnn i a
    rw [List.getD_eq_getElem?_getD, List.getElem?_eq_getElem a] at this
    simp only [List.getElem_map, Function.comp]
    simp at this
    omega
end Go.Proofs.YtphccomhggnccaaGreat.Fm
