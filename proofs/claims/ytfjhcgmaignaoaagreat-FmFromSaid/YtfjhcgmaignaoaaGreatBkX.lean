/- Turned rows turned back (chapter 6): what a row must be that was turned, in plain lists, no program. -/
import Derived.Test.YtfjhcgmaignaoaaGreatPl
import Derived.Test.YtfjhcgmaignaoaaGreatFmTurnB
import Derived.Test.YtfjhcgmaignaoaaGreatFmRes
import Derived.Test.YtfjhcgmaignaoaaGreatSt3
import Derived.Test.YtfjhcgmaignaoaaGreatFmSorted2
namespace Go.Proofs.YtfjhcgmaignaoaaGreat.Fm
set_option maxRecDepth 100000
set_option linter.unusedVariables false
set_option linter.unusedSimpArgs false
open Rank
/-- places by their numbers, alike ones as they stand -/
def slt (l : List Int) (a b : Nat) : Prop := l.getD a 0 < l.getD b 0 ∨ (l.getD a 0 = l.getD b 0 ∧ a < b)
instance sltDec (l : List Int) (a b : Nat) : Decidable (slt l a b) := by unfold slt; infer_instance
structure IsStable (l : List Int) (o : List Nat) : Prop where
  perm : o.Perm (List.range l.length)
  sorted : o.Pairwise (slt l)
theorem slt_irr (l : List Int) (a : Nat) : ¬ slt l a a := by unfold slt; omega
theorem slt_asym {l : List Int} {a b : Nat} (h : slt l a b) : ¬ slt l b a := by unfold slt at *; omega
theorem slt_tot {l : List Int} {a b : Nat} (h : ¬ slt l a b) (h2 : ¬ slt l b a) : a = b := by unfold slt at *; omega
/-- which one in its order a place is -/
theorem pos_of {n : Nat} {l : List Int} {o : List Nat} (hp : o.Perm (List.range n)) (hs : o.Pairwise (slt l)) {i p : Nat} (h : o[i]? = some p) : ((List.range n).filter fun q => decide (slt l q p)).length = i := by
  rw [← (hp.filter _).length_eq]
  obtain ⟨hi, he⟩ := List.getElem?_eq_some_iff.1 h
  have e1 : o = o.take i ++ p :: o.drop (i + 1) := by
    conv => lhs; rw [← List.take_append_drop i o, List.drop_eq_getElem_cons hi, he]
  rw [e1] at hs
  obtain ⟨h1, h2, h3⟩ := List.pairwise_append.1 hs
  obtain ⟨h4, _⟩ := List.pairwise_cons.1 h2
  rw [e1, List.filter_append, List.filter_cons, if_neg (by simp [slt_irr])]
  have e2 : (o.take i).filter (fun q => decide (slt l q p)) = o.take i := List.filter_eq_self.2 fun q hq => by simpa using h3 q hq p (by simp)
  have e3 : (o.drop (i + 1)).filter (fun q => decide (slt l q p)) = [] := List.filter_eq_nil_iff.2 fun q hq => by simpa using slt_asym (h4 q hq)
  rw [e2, e3, List.append_nil, List.length_take]
  omega
theorem rk_range (s : List Nat) (c i : Nat) (h : i ≤ s.length) : rk s c i = ((List.range s.length).filter fun q => decide (s.getD q 0 = c ∧ q < i)).length := by
  unfold rk
  have e : s.take i = (List.range i).map fun q => s.getD q 0 := by
    apply List.ext_getElem
    · simp; omega
    · intro j h1 h2
      have : j < s.length := by simp at h1; omega
      simp [List.getElem?_eq_getElem this]
  rw [e, List.count, List.countP_map, List.countP_eq_length_filter]
  conv => rhs; rw [show s.length = i + (s.length - i) by omega, List.range_add, List.filter_append]
  have e2 : ((List.range (s.length - i)).map (i + ·)).filter (fun q => decide (s.getD q 0 = c ∧ q < i)) = [] := by
    rw [List.filter_eq_nil_iff]
    intro q hq
    obtain ⟨k, _, rfl⟩ := List.mem_map.1 hq
    simp
  rw [e2, List.append_nil]
  congr 1
  refine List.filter_congr fun q hq => ?_
  have := List.mem_range.1 hq
  rw [Bool.eq_iff_iff]
  simp [this]
def NZ (l : List Nat) : List Int := l.map fun x : Nat => (x : Int)
theorem NZ_length (l : List Nat) : (NZ l).length = l.length := by simp [NZ]
theorem NZ_getD (l : List Nat) (i : Nat) : (NZ l).getD i 0 = ((l.getD i 0 : Nat) : Int) := by
  unfold NZ
  rcases Nat.lt_or_ge i l.length with h | h
  · simp [List.getD, List.getElem?_eq_getElem h]
  · simp [List.getD, List.getElem?_eq_none h]
theorem NZ_inj {a b : List Nat} (h : NZ a = NZ b) : a = b := by
  unfold NZ at h
  exact List.map_inj_right (fun x y e => by exact Int.ofNat.inj e) |>.1 h
/-- the places that go before a place of a row: those of less, and the same ones ahead -/
theorem before_at (s : List Nat) (p : Nat) (hp : p < s.length) : ((List.range s.length).filter fun q => decide (slt (NZ s) q p)).length = lessN s (s.getD p 0) + rk s (s.getD p 0) p := by
  rw [lessN_range, rk_range s _ p (by omega), ← len_filter_or]
  · congr 1
    refine List.filter_congr fun q hq => ?_
    rw [Bool.eq_iff_iff, Bool.or_eq_true, decide_eq_true_eq, decide_eq_true_eq, decide_eq_true_eq]
    unfold slt
    rw [NZ_getD, NZ_getD]
    omega
  · intro q _
    rw [← Bool.not_eq_true, Bool.and_eq_true, decide_eq_true_eq, decide_eq_true_eq]
    omega
/-- going from place to place -/
def itr (t : List Nat) : Nat → Nat
  | 0 => 0
  | k + 1 => t.getD (itr t k) 0
/-- t tells of each place which one in the order it is -/
structure Inv1 (o t : List Nat) : Prop where
  len : t.length = o.length
  at' : ∀ i, i < o.length → t.getD (o.getD i 0) 0 = i
theorem itr_lf {s sa o t : List Nat} (hs : Closed s) (h : IsSA s sa) (ho : IsStable (NZ (trn s sa)) o) (ht : Inv1 o t) : ∀ k, k < s.length → sa[itr t k]? = some (s.length - 1 - k) := by
  intro k
  induction k with
  | zero => intro _; simpa [itr] using sa_first hs h
  | succ k ih =>
    intro hk
    have h1 := ih (by omega)
    rw [show s.length - 1 - k = (s.length - 1 - (k + 1)) + 1 by omega] at h1
    obtain ⟨h2, h3⟩ := lf_at hs h h1
    have hi : itr t k < sa.length := (List.getElem?_eq_some_iff.1 h1).1
    have hl : (trn s sa).length = s.length := trn_length h
    have hil : itr t k < (trn s sa).length := by rw [hl, ← h.length]; exact hi
    have h4 : (trn s sa).getD (itr t k) 0 = s.getD (s.length - 1 - (k + 1)) 0 := by simp [List.getD, h2]
    have h5 := before_at (trn s sa) (itr t k) hil
    rw [h4] at h5
    have hol : o.length = s.length := by rw [ho.perm.length_eq, List.length_range, NZ_length, hl]
    have hmem : itr t k ∈ o := ho.perm.mem_iff.2 (List.mem_range.2 (by rw [NZ_length]; exact hil))
    obtain ⟨j, hj, hje⟩ := List.getElem_of_mem hmem
    have h6 := pos_of ho.perm ho.sorted (i := j) (p := itr t k) (by rw [List.getElem?_eq_getElem hj, hje])
    rw [NZ_length, h5] at h6
    have h7 := ht.at' j hj
    rw [getD_at hj, hje] at h7
    show sa[t.getD (itr t k) 0]? = _
    rw [h7, ← h6, ← lessN_perm (trn_perm hs h).symm]
    exact h3
/-- a row that a closed row's turning gives -/
def Turns (l : List Int) (s : List Nat) : Prop := Closed s ∧ ∃ sa, IsSA s sa ∧ l = NZ (trn s sa)
/-- what is read on the way from place to place, the last first, and one number behind it -/
def wayS (l : List Int) (t : List Nat) (z : Int) : List Int := ((List.range (l.length - 1)).map fun j => l.getD (itr t (l.length - 2 - j)) 0) ++ [z]
theorem wayS_length (l : List Int) (t : List Nat) (z : Int) (h : 0 < l.length) : (wayS l t z).length = l.length := by simp [wayS]; omega
theorem Turns.way {l : List Int} {s o t : List Nat} (h : Turns l s) (ho : IsStable l o) (ht : Inv1 o t) : l.length = s.length ∧ (∀ k, k < l.length → itr t k < l.length) ∧ l.getD (itr t (l.length - 1)) 0 = 0 ∧ wayS l t 0 = NZ s := by
  obtain ⟨hc, sa, hs, rfl⟩ := h
  have hl : (NZ (trn s sa)).length = s.length := by rw [NZ_length, trn_length hs]
  have hlf := itr_lf hc hs ho ht
  have hp := hc.pos
  have hin : ∀ k, k < s.length → itr t k < s.length := fun k hk => by rw [← hs.length]; exact (List.getElem?_eq_some_iff.1 (hlf k hk)).1
  have hat : ∀ k, k < s.length → (NZ (trn s sa)).getD (itr t k) 0 = ((ahd s (s.length - 1 - k) : Nat) : Int) := fun k hk => by
    rw [NZ_getD]
    have := trn_get (s := s) (hlf k hk)
    simp [List.getD, this]
  refine ⟨hl, by rw [hl]; exact hin, ?_, ?_⟩
  · rw [hl, hat _ (by omega), show s.length - 1 - (s.length - 1) = 0 by omega, ahd_zero hp, (hc.zero _ (by omega)).2 rfl]; rfl
  · unfold wayS
    rw [hl]
    conv => rhs; rw [self_range s]
    unfold NZ
    rw [show s.length = (s.length - 1) + 1 by omega, List.range_succ, List.map_append, List.map_append]
    congr 1
    · rw [List.map_map]
      refine List.map_congr_left fun j hj => ?_
      have hj2 := List.mem_range.1 hj
      simp only [Nat.add_sub_cancel] at hj2
      have := hat (s.length - 2 - j) (by omega)
      simp only [Nat.add_sub_cancel, Function.comp]
      rw [show s.length - 1 + 1 - 2 - j = s.length - 2 - j by omega]
      refine this.trans ?_
      rw [show s.length - 1 - (s.length - 2 - j) = j + 1 by omega, ahd_succ (by omega)]
    · have := (hc.zero (s.length - 1) (by omega)).2 rfl
      simp only [List.map_cons, List.map_nil]
      rw [this]
      rfl
theorem Turns.unique {l : List Int} {s s' : List Nat} (h : Turns l s) (h' : Turns l s') {o t : List Nat} (ho : IsStable l o) (ht : Inv1 o t) : s = s' :=
  NZ_inj ((h.way ho ht).2.2.2.symm.trans (h'.way ho ht).2.2.2)
theorem Turns.nat {l : List Int} {s : List Nat} (h : Turns l s) : (∀ x ∈ l, 0 ≤ x) ∧ l.count 0 = 1 := by
  obtain ⟨hc, sa, hs, rfl⟩ := h
  refine ⟨fun x hx => ?_, ?_⟩
  · obtain ⟨y, _, rfl⟩ := List.mem_map.1 hx
    exact Int.natCast_nonneg y
  · have hp := hc.pos
    have e : (NZ (trn s sa)).count 0 = s.count 0 := by
      have h1 : (NZ (trn s sa)).count 0 = (trn s sa).count 0 := by
        unfold NZ List.count
        rw [List.countP_map]
        refine List.countP_congr fun x _ => ?_
        simp only [Function.comp, beq_iff_eq]
        omega
      rw [h1, (trn_perm hc hs).count_eq]
    rw [e]
    have h2 := rk_range s 0 s.length (Nat.le_refl _)
    unfold rk at h2
    rw [List.take_length] at h2
    rw [h2]
    have h3 : (List.range s.length).filter (fun q => decide (s.getD q 0 = 0 ∧ q < s.length)) = (List.range s.length).filter (fun q => q == s.length - 1) := by
      refine List.filter_congr fun q hq => ?_
      have hq2 := List.mem_range.1 hq
      have := hc.zero q hq2
      rw [Bool.eq_iff_iff, decide_eq_true_eq, beq_iff_eq]
      constructor
      · rintro ⟨a, _⟩; exact this.1 a
      · intro a; exact ⟨this.2 a, hq2⟩
    rw [h3, ← List.countP_eq_length_filter]
    have h4 : (List.range s.length).countP (fun q => q == s.length - 1) = (List.range s.length).count (s.length - 1) := rfl
    rw [h4]
    rw [List.nodup_range.count, if_pos (List.mem_range.2 (by omega))]
end Go.Proofs.YtfjhcgmaignaoaaGreat.Fm
/- bwt: isClosed, Turn at any row; slices.Equal of ints; Back's comparison. -/
namespace Go.Proofs.YtfjhcgmaignaoaaGreat
set_option maxRecDepth 100000
set_option linter.unusedVariables false
set_option linter.unusedSimpArgs false
set_option maxRecDepth 100000
open Go.RowKit Fm Rank
/-- one 0, the last number, and none less -/
def ClosedI (s : List Int) : Prop := (∀ i, i < s.length → 0 ≤ s.getD i 0 ∧ (s.getD i 0 = 0 → i + 1 = s.length)) ∧ 0 < s.length ∧ s.getD (s.length - 1) 0 = 0
theorem NZ_NI (l : List Nat) : NZ l = NI l := rfl
theorem closedI_nat {s : List Nat} (h : Closed s) : ClosedI (NI s) := by
  have hp := h.pos
  refine ⟨fun i hi => ?_, by rw [NI_length]; exact hp, ?_⟩
  · rw [NI_length] at hi ⊢
    rw [NI_getD _ _ hi]
    refine ⟨by omega, fun e => ?_⟩
    have := (h.zero i hi).1 (by omega)
    omega
  · rw [NI_length, NI_getD _ _ (by omega), (h.zero _ (by omega)).2 rfl]; rfl
theorem closedI_of {s : List Int} (h : ClosedI s) : ∃ t : List Nat, Closed t ∧ s = NI t := by
  obtain ⟨h1, h2, h3⟩ := h
  have hs : s = NI (s.map Int.toNat) := by
    apply List.ext_getElem
    · simp [NI]
    · intro i q1 q2
      have := (h1 i q1).1
      simp only [List.getD, List.getElem?_eq_getElem q1, Option.getD_some] at this
      simp [NI]
      omega
  refine ⟨s.map Int.toNat, ⟨by simpa using h2, fun i hi => ?_⟩, hs⟩
  have hi' : i < s.length := by simpa using hi
  have e : (s.map Int.toNat).getD i 0 = (s.getD i 0).toNat := by simp [List.getD, List.getElem?_eq_getElem hi']
  obtain ⟨q1, q2⟩ := h1 i hi'
  rw [e]
  simp only [List.length_map]
  constructor
  · intro q
    have := q2 (by omega)
    omega
  · rintro rfl
    rw [h3]; rfl
def ClosedP (w : World) (s : List Int) (e : Ending) (w' : World) : Prop := ∃ b : Bool, e = .returned (.bool b) ∧ (b = true ↔ ClosedI s) ∧ w = w'
theorem isClosed_any (w : World) (A : Option Addr) (n cap : Nat) (s : List Int) (hl : s.length = n) (hn : n ≤ 65536) (hS : Sl w A (VI s)) :
    Calls Tryz.prog 60 #[.slice A n cap] w (ClosedP w s) := by
  have HS := Lib.hid hS
  have Hl := Lib.hid hl
  clear hS hl
  go_enter Tryz.func60, Tryz.ntmps60
  go_wp2_with fail
  go_loop [3, 4, 7] (fun x y i => ∃ k : Nat, k ≤ n ∧ i = .int .i64 (k : Int) ∧ Hid (∀ j, j < k → 0 ≤ s.getD j 0 ∧ (s.getD j 0 = 0 → j + 1 = s.length))) (fun _ _ i => n - (intOf i).toNat)
  case atStart => exact ⟨0, Nat.zero_le _, rfl, Lib.hid fun j hj => absurd hj (Nat.not_lt_zero _)⟩
  case round =>
    obtain ⟨k, hk, rfl, HX⟩ := hrel
    by_cases hkm : k < n
    · obtain ⟨b, off, rfl, hca⟩ := HS.out.lit (j := k) (by rw [VI_length, Hl.out]; exact hkm)
      rw [VI_get _ _ (by rw [Hl.out]; exact hkm)] at hca
      obtain ⟨x, hx⟩ : ∃ x, s.getD k 0 = x := ⟨_, rfl⟩
      rw [hx] at hca
      have Hx := Lib.hid hx
      clear hx
      by_cases h1 : x < 0
      · have HN := Lib.hid (show ¬ ClosedI s from fun h => by have := (h.1 k (by rw [Hl.out]; exact hkm)).1; rw [Hx.out] at this; omega)
        clear HX Hx
        go_wp2_with fail
        go_ret
        exact ⟨false, rfl, ⟨fun h => (by cases h), fun h => absurd h HN.out⟩, rfl⟩
      · by_cases h2 : x = 0 ∧ k + 1 < n
        · obtain ⟨rfl, h3⟩ := h2
          have h4 : (k : Int) < (n : Int) - 1 := by omega
          have HN := Lib.hid (show ¬ ClosedI s from fun h => by have := (h.1 k (by rw [Hl.out]; exact hkm)).2 Hx.out; rw [Hl.out] at this; omega)
          clear HX Hx
          go_wp2_with fail
          go_ret
          exact ⟨false, rfl, ⟨fun h => (by cases h), fun h => absurd h HN.out⟩, rfl⟩
        · have HX2 := Lib.hid (show ∀ j, j < k + 1 → 0 ≤ s.getD j 0 ∧ (s.getD j 0 = 0 → j + 1 = s.length) from fun j hj => by
            by_cases e : j < k
            · exact HX.out j e
            · obtain rfl : j = k := by omega
              rw [Hx.out, Hl.out]
              exact ⟨by omega, fun e => by omega⟩)
          by_cases h3 : x = 0
          · subst h3
            have h4 : ¬ (k : Int) < (n : Int) - 1 := by omega
            clear HX Hx h2
            go_wp2_with fail
            refine ⟨⟨k + 1, by omega, by go_num, HX2⟩, by simp [intOf]; omega⟩
          · have h5 : (x == 0) = false := by rw [beq_eq_false_iff_ne]; exact h3
            clear HX Hx h2
            go_wp2_with fail
            first
              | (refine ⟨⟨k + 1, by omega, by go_num, HX2⟩, by simp [intOf]; omega⟩)
              | (go_round
                 case rel => exact ⟨_, _, _, _, ⟨k + 1, by omega, rfl, HX2⟩, rfl, rfl, rfl, rfl⟩
                 case measure => simp [intOf]; omega)
    · obtain rfl : n = k := by omega
      by_cases h0 : n = 0
      · subst h0
        have HN := Lib.hid (show ¬ ClosedI s from fun h => by have := h.2.1; rw [Hl.out] at this; omega)
        go_wp2_with fail
        go_ret
        exact ⟨false, rfl, ⟨fun h => (by cases h), fun h => absurd h HN.out⟩, rfl⟩
      · obtain ⟨d, hd⟩ : ∃ d, n = d + 1 := ⟨n - 1, by omega⟩
        have hdn : (n : Int) - 1 = (d : Int) := by omega
        have hn0 : (0 : Int) < (n : Int) := by omega
        obtain ⟨b, off, rfl, hca⟩ := HS.out.lit (j := d) (by rw [VI_length, Hl.out]; omega)
        rw [VI_get _ _ (by rw [Hl.out]; omega)] at hca
        obtain ⟨x, hx⟩ : ∃ x, s.getD d 0 = x := ⟨_, rfl⟩
        rw [hx] at hca
        have HC := Lib.hid (show (decide (x = 0) = true ↔ ClosedI s) by
          rw [decide_eq_true_eq]
          have e : s.length - 1 = d := by rw [Hl.out]; omega
          constructor
          · intro q
            exact ⟨by rw [Hl.out]; intro i hi; have := HX.out i hi; rwa [Hl.out] at this, by rw [Hl.out]; omega, by rw [e, hx]; exact q⟩
          · intro q
            have := q.2.2
            rw [e, hx] at this
            exact this)
        clear HX hx h0 hd hkm hk
        have hdlt : (d : Int) < (n : Int) := by omega
        go_wp2_with fail
        go_ret
        exact ⟨decide (x = 0), ret_bool (show (x == 0) = decide (x = 0) from by rw [Bool.eq_iff_iff]; simp), HC.out, rfl⟩
def EqualP (w : World) (xs ys : List Int) (e : Ending) (w' : World) : Prop := ∃ b : Bool, e = .returned (.bool b) ∧ (b = true ↔ xs = ys) ∧ ∃ q, w' = w.drewN q
/-- two rows of ints: are they the same? -/
theorem equal_any (w : World) (A B : Option Addr) (n c m d : Nat) (xs ys : List Int) (hA : Sl w A (VI xs)) (hB : Sl w B (VI ys)) (hl : xs.length = n) (hm : ys.length = m) (hn : n ≤ 1099511627776) :
    Calls Tryz.prog 53 #[.slice A n c, .slice B m d] w (EqualP w xs ys) := by
  have HA := Lib.hid hA
  have HB := Lib.hid hB
  have Hl := Lib.hid hl
  have Hm := Lib.hid hm
  clear hA hB hl hm
  by_cases hnm : n = m
  · subst hnm
    have hnn : (n == n) = true := by simp
    go_enter Tryz.func53, Tryz.ntmps53
    go_wp2_with fail
    go_loopw [5, 13] (fun s5 i wr => ∃ k q : Nat, k ≤ n ∧ i = .int .i64 (k : Int) ∧ wr = w.drewN q ∧ Hid (xs.take k = ys.take k)) (fun _ i _ => n - (intOf i).toNat)
    case atStart => exact ⟨0, 0, Nat.zero_le _, rfl, rfl, Lib.hid (by simp)⟩
    case round =>
      obtain ⟨k, q, hk, rfl, rfl, HX⟩ := hrel
      by_cases hlt : k < n
      · obtain ⟨ba, oa, rfl, hca⟩ := HA.out.lit (j := k) (by rw [VI_length, Hl.out]; exact hlt)
        obtain ⟨bb, ob, rfl, hcb⟩ := HB.out.lit (j := k) (by rw [VI_length, Hm.out]; exact hlt)
        rw [VI_get _ _ (by rw [Hl.out]; exact hlt)] at hca
        rw [VI_get _ _ (by rw [Hm.out]; exact hlt)] at hcb
        obtain ⟨x, hx⟩ : ∃ x, xs.getD k 0 = x := ⟨_, rfl⟩
        obtain ⟨y, hy⟩ : ∃ y, ys.getD k 0 = y := ⟨_, rfl⟩
        rw [hx] at hca
        rw [hy] at hcb
        by_cases hxy : x = y
        · subst hxy
          have HX2 := Lib.hid (show xs.take (k + 1) = ys.take (k + 1) by
            rw [List.take_succ_eq_append_getElem (by rw [Hl.out]; exact hlt), List.take_succ_eq_append_getElem (by rw [Hm.out]; exact hlt), HX.out]
            simp only [List.getD, List.getElem?_eq_getElem (show k < xs.length by rw [Hl.out]; exact hlt), Option.getD_some] at hx
            simp only [List.getD, List.getElem?_eq_getElem (show k < ys.length by rw [Hm.out]; exact hlt), Option.getD_some] at hy
            rw [hx, hy])
          clear hx hy HX
          go_wp2_with fail
          go_quiet (fail)
          go_wp2_with fail
          go_roundw
          case rel => exact ⟨k + 1, q + nq, by omega, by go_num, by simp, HX2⟩
          case measure => simp [intOf]; omega
        · have HN := Lib.hid (show ¬ xs = ys from fun h => hxy (by rw [← hx, ← hy, h]))
          clear hx hy HX
          go_wp2_with fail
          go_quiet (fail)
          go_wp2_with fail
          go_ret
          exact ⟨false, rfl, ⟨fun h => (by cases h), fun h => absurd h HN.out⟩, q + nq, World.drewN_drewN ..⟩
      · obtain rfl : n = k := by omega
        have HE := Lib.hid (show xs = ys by have := HX.out; rwa [List.take_of_length_le (by rw [Hl.out]; exact Nat.le_refl _), List.take_of_length_le (by rw [Hm.out]; exact Nat.le_refl _)] at this)
        go_wp2_with fail
        go_ret
        exact ⟨true, rfl, ⟨fun _ => HE.out, fun _ => rfl⟩, q, rfl⟩
  · have hne : ¬ (n : Int) = (m : Int) := by omega
    have hnb : (n == m) = false := by rw [beq_eq_false_iff_ne]; exact hnm
    have HN := Lib.hid (show ¬ xs = ys from fun h => hnm (by rw [← Hl.out, ← Hm.out, h]))
    go_enter Tryz.func53, Tryz.ntmps53
    go_wp2_with fail
    go_ret
    exact ⟨false, rfl, ⟨fun h => (by cases h), fun h => absurd h HN.out⟩, 0, rfl⟩
/-- how Back compares two places -/
def cmpI (x y : Int) : Int := if x < y then -1 else if x > y then 1 else 0
theorem bcmp_any (w : World) (bx : Nat) (A : Option Addr) (n c : Nat) (l : List Int) (a b : Nat) (hbx : w.cell? ⟨bx, 0, none⟩ = some (.slice A n c)) (hS : Sl w A (VI l)) (hl : l.length = n) (ha : a < n) (hb : b < n) :
    Calls Tryz.prog 52 #[.int .i64 (a : Int), .int .i64 (b : Int), .pointer (some ⟨bx, 0, none⟩)] w fun e w' => e = .returned (.int .i64 (cmpI (l.getD a 0) (l.getD b 0))) ∧ ∃ q, w' = w.drewN q := by
  obtain ⟨b2, o2, rfl, hca⟩ := hS.lit (j := a) (by rw [VI_length, hl]; exact ha)
  have hcb := hS.cell _ rfl b _ (VI_get l b (by rw [hl]; exact hb))
  rw [show (⟨b2, o2, none⟩ : Addr).add b = ⟨b2, o2 + b, none⟩ by unfold Addr.add; split <;> simp_all] at hcb
  rw [VI_get _ _ (by rw [hl]; exact ha)] at hca
  clear hS hl
  generalize l.getD a 0 = x at *
  generalize l.getD b 0 = y at *
  by_cases h1 : x < y
  · have hc : cmpI x y = -1 := by unfold cmpI; rw [if_pos h1]
    rw [hc]
    go_enter Tryz.func52, Tryz.ntmps52
    go_wp2_with fail
    go_quiet (fail)
    go_wp2_with fail
    go_ret
    exact ⟨rfl, _, rfl⟩
  · by_cases h2 : x > y
    · have hc : cmpI x y = 1 := by unfold cmpI; rw [if_neg h1, if_pos h2]
      rw [hc]
      have h2' : y < x := h2
      go_enter Tryz.func52, Tryz.ntmps52
      go_wp2_with fail
      go_quiet (fail)
      go_wp2_with fail
      go_quiet (fail)
      go_wp2_with fail
      go_ret
      exact ⟨rfl, _, World.drewN_drewN ..⟩
    · have hc : cmpI x y = 0 := by unfold cmpI; rw [if_neg h1, if_neg h2]
      obtain rfl : x = y := by omega
      rw [hc]
      go_enter Tryz.func52, Tryz.ntmps52
      go_wp2_with fail
      go_quiet (fail)
      go_wp2_with fail
      go_quiet (fail)
      go_wp2_with fail
      go_ret
      exact ⟨rfl, _, World.drewN_drewN ..⟩
end Go.Proofs.YtfjhcgmaignaoaaGreat
/- bwt: Turn at any row; the places of a row in the order of their numbers, alike ones as they stand. -/
namespace Go.Proofs.YtfjhcgmaignaoaaGreat
set_option maxRecDepth 100000
open Go.Proofs
set_option linter.unusedVariables false
set_option linter.unusedSimpArgs false
set_option maxRecDepth 1000000
open Go.Shelf Go.RowKit Go.Sort Fm Rank
/-- what Turn hands back: a closed row turned, or refused -/
def TurnP (w : World) (n : Nat) (s : List Int) (e : Ending) (w' : World) : Prop :=
  (∃ A c t sa, e = .returned (.tuple #[.slice A n c, .int .i64 0]) ∧ Closed t ∧ s = NI t ∧ IsSA t sa ∧ Sl w' A (VI (NI (trn t sa))) ∧ Below w.heap.size w w') ∨
  (¬ ClosedI s ∧ e = .returned (.tuple #[.slice none 0 0, .int .i64 1]) ∧ Below w.heap.size w w')
theorem turnG_any (w : World) (A : Option Addr) (n cap : Nat) (s : List Int) (hl : s.length = n) (hn : n ≤ 65536) (hS : Sl w A (VI s)) :
    Calls Tryz.prog 33 #[.slice A n cap] w (TurnP w n s) := by
  by_cases hc : ClosedI s
  · obtain ⟨t, ht, rfl⟩ := closedI_of hc
    have hp := ht.pos
    rw [NI_length] at hl
    obtain ⟨b, off, rfl, _⟩ := hS.lit (j := 0) (by rw [VI_length, NI_length]; exact hp)
    refine (turn_any w b off n cap t hl ht hn hS (hS.lt _ rfl (fun e => by have := congrArg List.length e; rw [VI_length, NI_length] at this; have h0 : t.length = 0 := this; omega))).mono ?_
    rintro e w' ⟨A', c', sa, rfl, hsa, hS', _, hB⟩
    exact .inl ⟨A', c', t, sa, rfl, ht, rfl, hsa, hS', hB⟩
  · have HC := Lib.hid (isClosed_any w A n cap s hl hn hS)
    have Hc := Lib.hid hc
    clear hc hS hl
    go_enter Tryz.func33, Tryz.ntmps33
    go_wp2_with fail
    go_at_call 60
    refine HC.out.mono ?_
    rintro e w' ⟨b, rfl, hb, rfl⟩
    obtain rfl : b = false := by
      cases b with
      | false => rfl
      | true => exact absurd (hb.1 rfl) Hc.out
    go_wp2_with fail
    go_ret2
    exact .inr ⟨Hc.out, rfl, Below.refl _ _⟩
section
variable {α : Type} [Inhabited α] {enc : α → Value} {w0 W : World} {blk off : Nat} {dk : Array α}
theorem sw_frame (h : SW enc w0 blk off dk W) : w0.grownBy W (some blk) := by
  obtain ⟨n, os, rfl⟩ := h
  unfold sortWorld
  exact grown_trans (grown_trans (b := Sort.ahead w0 n) ⟨rfl, rfl, rfl, Nat.le_refl _, fun _ _ _ => rfl⟩ (grown_map _ _ _)) (grown_grow _ os (some blk))
end
/-- a place of a row of n -/
def encF (n : Nat) (x : Fin n) : Value := .int .i64 ((x.val : Nat) : Int)
theorem oneF (n : Nat) : OneCell (encF n) := fun x => rfl
set_option maxHeartbeats 4000000 in
theorem sortB_any (w : World) (g bx n : Nat) (A : Option Addr) (c : Nat) (l : List Int) (hl : l.length = n) (hn0 : 0 < n) (hn : n ≤ 65536) (hO : IB w g (NI (List.range n))) (hbx : w.cell? ⟨bx, 0, none⟩ = some (.slice A n c)) (hS : Sl w A (VI l)) (hgb : bx ≠ g) (hgA : ∀ a, A = some a → a.block ≠ g) :
    Calls Tryz.prog 51 #[.slice (some ⟨g, 0, none⟩) n n, .func (.func 52) #[] #[.pointer (some ⟨bx, 0, none⟩)]] w
      fun e w' => e = .returned (.tuple #[]) ∧ ∃ o, IsStable l o ∧ Sl w' (some ⟨g, 0, none⟩) (VI (NI o)) ∧ w.grownBy w' (some g) := by
  haveI : Inhabited (Fin n) := ⟨⟨0, hn0⟩⟩
  obtain ⟨d, hd⟩ : ∃ d : Array (Fin n), d = Array.ofFn (fun i : Fin n => i) := ⟨_, rfl⟩
  have hds : d.size = n := by rw [hd]; simp
  have hdx : ∀ x, (hx : x < n) → d[x]! = ⟨x, hx⟩ := fun x hx => by
    subst hd
    simp [getElem!_def, hx]
  have hR : Row1 (encF n) w g 0 d := ⟨oneF n, fun j hj => by
    rw [hds] at hj
    rw [Nat.zero_add, hO.cell (by rw [NI_length, List.length_range]; exact hj), hdx j hj]
    exact ⟨by rw [NI_getD _ _ (by simpa using hj)]; simp [encF, List.getD, hj], hO.free j⟩, hO.lt⟩
  have hcmp : CmpLays1 Tryz.prog 52 #[.pointer (some ⟨bx, 0, none⟩)] (encF n) (fun x y => cmpI (l.getD x.val 0) (l.getD y.val 0)) g 0 d.size w := fun m os dk hs x y => by
    have hfr := sw_frame (enc := encF n) (w0 := w) (blk := g) (off := 0) (dk := dk) ⟨m, os, rfl⟩
    have hb := World.block_lt_of_cell? w _ hbx
    have hb2 := (World.cell?_of_block (hfr.block bx hb (fun e => hgb (Option.some.inj e)))).trans hbx
    refine (bcmp_any _ bx A n c l x.val y.val hb2 (hS.grown hfr fun a ha _ e => hgA a ha (Option.some.inj e)) hl x.isLt y.isLt).mono ?_
    rintro e w' ⟨he, q, hq⟩
    exact ⟨he, q, #[], by rw [hq, grow_empty]⟩
  have hT : St.Weak (fun x y : Fin n => slt l x.val y.val) := ⟨fun x y h => slt_asym h, fun x y z h1 h2 h3 => by unfold slt at *; omega⟩
  have hfd : ∀ x, (hx : x < n) → fA d x = ⟨x, hx⟩ := hdx
  have HSt := Lib.hid (stable_any (encF n) (fun x y => cmpI (l.getD x.val 0) (l.getD y.val 0)) (fun x y : Fin n => slt l x.val y.val) hT 52 #[.pointer (some ⟨bx, 0, none⟩)] g 0 n d d w w (fun _ _ => rfl) hcmp hR (by omega) rfl (by omega) (SW.start hR.hH) (fun i j hij hj => by
    rw [hds] at hj
    rw [hfd i (by omega), hfd j hj]
    show cmpI (l.getD j 0) (l.getD i 0) < 0 ↔ slt l j i
    unfold cmpI slt
    split
    · rename_i h; exact ⟨fun _ => .inl h, fun _ => by omega⟩
    · split <;> omega))
  rw [hds] at HSt
  have HR := Lib.hid hR
  have Hfd := Lib.hid hfd
  have Hds := Lib.hid hds
  have Hl := Lib.hid hl
  clear hcmp hR hfd hdx hd hS hbx hO hl
  go_enter Tryz.func51, Tryz.ntmps51
  go_wp2_with fail
  go_at_call 80
  refine HSt.out.mono ?_
  rintro e w1 ⟨rfl, dk, hSW, hM⟩
  have HSW := Lib.hid hSW
  have HM := Lib.hid hM
  clear hSW hM HSt
  go_wp2_with fail
  go_end0
  have hfr := sw_frame HSW.out
  obtain ⟨σ, τ, p1, p2, p3, p4⟩ := HM.out.shuf
  have hin : ∀ x, x < n → σ x < n := fun x hx => by
    by_cases h : σ x < n
    · exact h
    · have h4 := congrArg τ (p3 (σ x) (by omega))
      rw [p2, p2] at h4
      omega
  have hit : ∀ x, x < n → τ x < n := fun x hx => by
    by_cases h : τ x < n
    · exact h
    · have h4 := p3 (τ x) (by omega)
      rw [p1] at h4
      omega
  have hv : ∀ x, x < n → (fA dk x).val = σ x := fun x hx => by rw [p4, Hfd.out _ (hin x hx)]
  refine ⟨rfl, (List.range n).map fun x => (fA dk x).val, ⟨?_, ?_⟩, ?_, hfr⟩
  · rw [Hl.out, List.map_congr_left (fun x hx => hv x (List.mem_range.1 hx))]
    rw [List.perm_iff_count]
    intro a
    have e1 : ((List.range n).map σ).count a = (List.range n).count (τ a) := by
      unfold List.count
      rw [List.countP_map]
      refine List.countP_congr fun x _ => ?_
      simp only [Function.comp, beq_iff_eq]
      constructor
      · intro h; rw [← h, p2]
      · intro h; rw [h, p1]
    rw [e1, List.nodup_range.count, List.nodup_range.count]
    by_cases h : a < n
    · rw [if_pos (List.mem_range.2 (hit a h)), if_pos (List.mem_range.2 h)]
    · have h2 : ¬ τ a < n := fun q => h (by have := hin _ q; rwa [p1] at this)
      rw [if_neg (fun q => h2 (List.mem_range.1 q)), if_neg (fun q => h (List.mem_range.1 q))]
  · rw [List.pairwise_map]
    refine List.Pairwise.imp_of_mem ?_ (List.pairwise_lt_range (n := n))
    intro i j hi hj hij
    have hi' := List.mem_range.1 hi
    have hj' := List.mem_range.1 hj
    have h1 := HM.out.srt i j (Nat.zero_le _) hij (by first | exact hj' | (rw [Hds.out]; exact hj'))
    by_cases h2 : slt l (fA dk i).val (fA dk j).val
    · exact h2
    · exfalso
      have h3 := slt_tot h2 h1
      rw [hv i hi', hv j hj'] at h3
      have h4 := congrArg τ h3
      rw [p2, p2] at h4
      omega
  · refine ⟨fun e => (by cases e), fun a ha j u hu => ?_⟩
    cases ha
    have hj : j < n := by
      rcases Nat.lt_or_ge j n with h | h
      · exact h
      · rw [List.getElem?_eq_none (by rw [VI_length, NI_length]; simpa using h)] at hu; cases hu
    have hc := HSW.out.c1 HR.out HM.out.size j (by rw [HM.out.size, Hds.out]; exact hj)
    rw [show (⟨g, 0, none⟩ : Addr).add j = ⟨g, j, none⟩ by unfold Addr.add; split <;> simp_all]
    rw [Nat.zero_add] at hc
    rw [hc, ← hu, VI_get _ _ (by rw [NI_length]; simpa using hj), NI_getD _ _ (by simpa using hj)]
    simp [List.getD, hj, encF, fA]
end Go.Proofs.YtfjhcgmaignaoaaGreat
