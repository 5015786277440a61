/- bits: New, Of, Flip, by the function that lays. -/
import Derived.Test.YtfgkkffgcgjhfaaBtMadeB
namespace Go.Proofs.Ytfgkkffgcgjhfaa
set_option linter.unusedVariables false
set_option linter.unusedSimpArgs false
open Go.RowKit PkMath Pop Rank BtMath

/-- the first j bits of l, and no others -/
def part (l : List Bool) (j : Nat) : List Bool := (List.range l.length).map fun i => decide (i < j) && l.getD i false
theorem part_length (l : List Bool) (j : Nat) : (part l j).length = l.length := by simp [part]
theorem getD_out {l : List Bool} {i : Nat} (h : l.length ≤ i) : l.getD i false = false := by
  simp [List.getD, List.getElem?_eq_none h]
theorem part_getD (l : List Bool) (j i : Nat) : (part l j).getD i false = (decide (i < j) && l.getD i false) := by
  by_cases h : i < l.length
  · simp [part, List.getD, List.getElem?_map, List.getElem?_range h]
  · have h1 : (part l j).getD i false = false := getD_out (by rw [part_length]; omega)
    have h2 : l.getD i false = false := getD_out (by omega)
    rw [h1, h2]; simp
theorem getD_ext {l m : List Bool} (h : l.length = m.length) (h2 : ∀ i, i < l.length → l.getD i false = m.getD i false) : l = m := by
  apply List.ext_getElem h
  intro i h3 h4
  have := h2 i h3
  simpa [List.getD, List.getElem?_eq_getElem h3, List.getElem?_eq_getElem h4] using this
theorem part_zero (l : List Bool) : part l 0 = List.replicate l.length false :=
  getD_ext (by simp [part_length]) fun i hi => by
    rw [part_getD]
    rw [part_length] at hi
    simp [List.getD, List.getElem?_replicate, hi]
theorem part_all (l : List Bool) : part l l.length = l :=
  getD_ext (part_length _ _) fun i hi => by rw [part_length] at hi; rw [part_getD]; simp [hi]
theorem part_succ_false (l : List Bool) (j : Nat) (h : l.getD j false = false) : part l (j + 1) = part l j :=
  getD_ext (by simp [part_length]) fun i hi => by
    rw [part_getD, part_getD]
    by_cases e : i = j
    · subst e; rw [h]; simp
    · have : (i < j + 1) ↔ (i < j) := by omega
      simp [this]
theorem part_succ_true (l : List Bool) (j : Nat) (hj : j < l.length) (h : l.getD j false = true) : part l (j + 1) = laid (part l j) (j : Int) := by
  have e : laid (part l j) (j : Int) = (part l j).set j true := by unfold laid; rw [if_pos (by rw [part_length]; omega), Int.toNat_natCast]
  rw [e]
  refine getD_ext (by simp [part_length]) fun i hi => ?_
  rw [getD_setB _ _ _ (by rw [part_length]; exact hj), part_getD, part_getD]
  by_cases e : i = j
  · subst e; rw [h]; simp
  · rw [if_neg e]
    have : (i < j + 1) ↔ (i < j) := by omega
    simp [this]

def VB (l : List Bool) : List Value := l.map Value.bool
theorem VB_length (l : List Bool) : (VB l).length = l.length := by simp [VB]
theorem VB_get (l : List Bool) (j : Nat) (h : j < l.length) : (VB l)[j]? = some (.bool (l.getD j false)) := by
  simp [VB, List.getElem?_map, List.getD, List.getElem?_eq_getElem h]

/-- the places xs are set, one behind the other -/
def laidAll (l : List Bool) (xs : List Int) (j : Nat) : List Bool := (xs.take j).foldl laid l
theorem laidAll_zero (l : List Bool) (xs : List Int) : laidAll l xs 0 = l := rfl
theorem laidAll_succ (l : List Bool) (xs : List Int) (j : Nat) (h : j < xs.length) : laidAll l xs (j + 1) = laid (laidAll l xs j) (xs.getD j 0) := by
  unfold laidAll
  rw [List.take_add_one, List.foldl_append, List.getElem?_eq_getElem h]
  simp [List.getD, List.getElem?_eq_getElem h]
theorem laidAll_length (l : List Bool) (xs : List Int) (j : Nat) : (laidAll l xs j).length = l.length := by
  unfold laidAll
  generalize xs.take j = ys
  induction ys generalizing l with
  | nil => rfl
  | cons y ys ih => rw [List.foldl_cons, ih, laid_length]

theorem Laid.step {w W : World} {nb vb bs bw : Nat} {l : List Bool} {e : Ending} {w' : World} (hg : W.grownBy w (some bw)) (h : Laid w nb vb bs bw l e w') : W.grownBy w' (some bw) := grown_trans hg h.2.2

set_option maxHeartbeats 1000000 in
theorem lay_new {W : World} {nb vb bs bw : Nat} {l : List Bool} (hMk : Mk W nb vb bs bw l) {cb K cap : Nat} {A : Option Addr} {xs : List Int}
    (hc : W.cell? ⟨cb, 0, none⟩ = some (.slice A K cap)) (hK : xs.length = K) (hK2 : K < 4611686018427387904) (hSl : ∀ W', W.grownBy W' (some bw) → Sl W' A (VI xs)) :
    Calls Try.prog 41 #[.func (.func 53) #[] #[.pointer (some ⟨nb, 0, none⟩), .pointer (some ⟨vb, 0, none⟩)], .pointer (some ⟨cb, 0, none⟩)] W (Laid W nb vb bs bw (laidAll l xs K)) := by
  have HK := Lib.hid hK
  have HSl := Lib.hid hSl
  clear hK hSl
  go_enter Try.func41, Try.ntmps41
  go_wp2_with fail
  go_loopw [7] (fun i wr => ∃ j : Nat, j ≤ K ∧ i = .int .i64 (j : Int) ∧ Mk wr nb vb bs bw (laidAll l xs j) ∧ W.grownBy wr (some bw)) (fun i _ => K - (intOf i).toNat)
  case atStart => exact ⟨0, Nat.zero_le _, rfl, hMk, grown_refl _ _⟩
  case round =>
    clear hc
    obtain ⟨j, hj, rfl, hM, hg⟩ := hrel
    by_cases hlt : j < K
    · obtain ⟨a, rfl, hca⟩ := (HSl.out _ hg).some (j := j) (by rw [VI_length, HK.out]; exact hlt)
      rw [VI_get _ _ (by rw [HK.out]; exact hlt)] at hca
      have Hsucc := Lib.hid (laidAll_succ l xs j (by rw [HK.out]; exact hlt))
      generalize xs.getD j 0 = x at *
      go_wp2_with fail
      refine (set_bit hM x).mono ?_
      rintro e w' ⟨rfl, hM', hg'⟩
      rw [← Hsucc.out] at hM'
      go_wp2_with fail
      refine ⟨⟨j + 1, by omega, rfl, hM', grown_trans hg hg'⟩, ?_⟩
      show K - ((j : Int) + 1).toNat < K - ((j : Int)).toNat
      omega
    · obtain rfl : j = K := by omega
      go_wp2_with fail
      go_end0
      exact ⟨rfl, hM, hg⟩

set_option maxHeartbeats 1000000 in
theorem lay_of {W : World} {nb vb bs bw : Nat} {l : List Bool} {n : Nat} (hMk : Mk W nb vb bs bw (List.replicate n false)) {cb cap : Nat} {A : Option Addr}
    (hc : W.cell? ⟨cb, 0, none⟩ = some (.slice A n cap)) (hn : l.length = n) (hn2 : n < 1048576) (hSl : ∀ W', W.grownBy W' (some bw) → Sl W' A (VB l)) :
    Calls Try.prog 47 #[.func (.func 53) #[] #[.pointer (some ⟨nb, 0, none⟩), .pointer (some ⟨vb, 0, none⟩)], .pointer (some ⟨cb, 0, none⟩)] W (Laid W nb vb bs bw l) := by
  have hz := part_zero l
  rw [hn] at hz
  rw [← hz] at hMk
  have Hn := Lib.hid hn
  have HSl := Lib.hid hSl
  clear hn hSl hz
  go_enter Try.func47, Try.ntmps47
  go_wp2_with fail
  go_loopw [7] (fun i wr => ∃ j : Nat, j ≤ n ∧ i = .int .i64 (j : Int) ∧ Mk wr nb vb bs bw (part l j) ∧ W.grownBy wr (some bw)) (fun i _ => n - (intOf i).toNat)
  case atStart => exact ⟨0, Nat.zero_le _, rfl, hMk, grown_refl _ _⟩
  case round =>
    clear hc
    obtain ⟨j, hj, rfl, hM, hg⟩ := hrel
    by_cases hlt : j < n
    · obtain ⟨a, rfl, hca⟩ := (HSl.out _ hg).some (j := j) (by rw [VB_length, Hn.out]; exact hlt)
      rw [VB_get _ _ (by rw [Hn.out]; exact hlt)] at hca
      cases hb : l.getD j false with
      | true =>
        rw [hb] at hca
        have Hsucc := Lib.hid (part_succ_true l j (by rw [Hn.out]; exact hlt) hb)
        clear hb
        go_wp2_with fail
        refine (set_bit hM (j : Int)).mono ?_
        rintro e w' ⟨rfl, hM', hg'⟩
        rw [← Hsucc.out] at hM'
        go_wp2_with fail
        refine ⟨⟨j + 1, by omega, rfl, hM', grown_trans hg hg'⟩, ?_⟩
        show n - ((j : Int) + 1).toNat < n - ((j : Int)).toNat
        omega
      | false =>
        rw [hb] at hca
        have Hsucc := Lib.hid (part_succ_false l j hb)
        clear hb
        rw [← Hsucc.out] at hM
        go_wp2_with fail
        refine ⟨⟨j + 1, by omega, rfl, hM, hg⟩, ?_⟩
        show n - ((j : Int) + 1).toNat < n - ((j : Int)).toNat
        omega
    · obtain rfl : j = n := by omega
      have hall := part_all l
      rw [Hn.out] at hall
      rw [hall] at hM
      clear hall
      go_wp2_with fail
      go_end0
      exact ⟨rfl, hM, hg⟩

set_option maxHeartbeats 1000000 in
theorem lay_flip {W : World} {nb vb bs bw : Nat} {l : List Bool} {n : Nat} (hMk : Mk W nb vb bs bw (List.replicate n false)) {cb base b : Nat}
    (hc : W.cell? ⟨cb, 0, none⟩ = some (.pointer (some ⟨b, 0, none⟩))) (hcb : cb ≠ bw) (hn : l.length = n) (hn2 : n < 1048576) (hB : ∀ W', W.grownBy W' (some bw) → BVec W' base b l) :
    Calls Try.prog 48 #[.func (.func 53) #[] #[.pointer (some ⟨nb, 0, none⟩), .pointer (some ⟨vb, 0, none⟩)], .pointer (some ⟨cb, 0, none⟩)] W (Laid W nb vb bs bw (l.map (!·))) := by
  have hz := part_zero (l.map (!·))
  rw [List.length_map, hn] at hz
  rw [← hz] at hMk
  have hc0 := (hB W (grown_refl _ _)).c0
  rw [hn] at hc0
  have Hn := Lib.hid hn
  have HB := Lib.hid hB
  have Hc : Hid (∀ W', W.grownBy W' (some bw) → W'.cell? ⟨cb, 0, none⟩ = some (.pointer (some ⟨b, 0, none⟩))) := fun W' hg => by
    rw [World.cell?_of_block (w := W) (hg.block cb (World.block_lt_of_cell? W _ hc) (fun e => hcb (by injection e)))]; exact hc
  clear hn hB hz hcb
  go_enter Try.func48, Try.ntmps48
  go_wp2_with (go_at_call 24; refine (blen_cell _ _ _ hc0).mono ?_; rintro e w' ⟨rfl, rfl⟩)
  go_loopw [6] (fun i wr => ∃ j : Nat, j ≤ n ∧ i = .int .i64 (j : Int) ∧ Mk wr nb vb bs bw (part (l.map (!·)) j) ∧ W.grownBy wr (some bw)) (fun i _ => n - (intOf i).toNat)
  case atStart => exact ⟨0, Nat.zero_le _, rfl, hMk, grown_refl _ _⟩
  case round =>
    clear hc hc0
    obtain ⟨j, hj, rfl, hM, hg⟩ := hrel
    by_cases hlt : j < n
    · have hc := Hc.out _ hg
      have hG := bget_any (HB.out _ hg) (j : Int)
      rw [Int.toNat_natCast] at hG
      have hm : (l.map (!·)).getD j false = !(l.getD j false) := by
        simp [List.getD, List.getElem?_map, List.getElem?_eq_getElem (show j < l.length by rw [Hn.out]; exact hlt)]
      have hml : (l.map (!·)).length = n := by rw [List.length_map, Hn.out]
      cases hb : l.getD j false with
      | false =>
        rw [hb] at hm
        have Hsucc := Lib.hid (part_succ_true (l.map (!·)) j (by rw [hml]; exact hlt) hm)
        have hG2 : (decide ((0 : Int) ≤ j) && l.getD j false) = false := by rw [hb, Bool.and_false]
        rw [hG2] at hG
        have HG := Lib.hid hG
        clear hb hm hml hG hG2
        go_wp2_with (go_at_call 23; refine HG.out.mono ?_; rintro e w' ⟨rfl, rfl⟩)
        refine (set_bit hM (j : Int)).mono ?_
        rintro e w' ⟨rfl, hM', hg'⟩
        rw [← Hsucc.out] at hM'
        go_wp2_with fail
        refine ⟨⟨j + 1, by omega, rfl, hM', grown_trans hg hg'⟩, ?_⟩
        show n - ((j : Int) + 1).toNat < n - ((j : Int)).toNat
        omega
      | true =>
        rw [hb] at hm
        have Hsucc := Lib.hid (part_succ_false (l.map (!·)) j hm)
        have hG2 : (decide ((0 : Int) ≤ j) && l.getD j false) = true := by rw [hb]; simp
        rw [hG2] at hG
        have HG := Lib.hid hG
        clear hb hm hml hG hG2
        rw [← Hsucc.out] at hM
        go_wp2_with (go_at_call 23; refine HG.out.mono ?_; rintro e w' ⟨rfl, rfl⟩)
        refine ⟨⟨j + 1, by omega, rfl, hM, hg⟩, ?_⟩
        show n - ((j : Int) + 1).toNat < n - ((j : Int)).toNat
        omega
    · obtain rfl : j = n := by omega
      have hall := part_all (l.map (!·))
      rw [List.length_map, Hn.out] at hall
      rw [hall] at hM
      clear hall
      go_wp2_with fail
      go_end0
      exact ⟨rfl, hM, hg⟩

/-- nothing is laid -/
theorem lay_flip_nil {W : World} {nb vb bs bw : Nat} (hMk : Mk W nb vb bs bw (List.replicate 0 false)) {cb : Nat}
    (hc : W.cell? ⟨cb, 0, none⟩ = some (.pointer none)) :
    Calls Try.prog 48 #[.func (.func 53) #[] #[.pointer (some ⟨nb, 0, none⟩), .pointer (some ⟨vb, 0, none⟩)], .pointer (some ⟨cb, 0, none⟩)] W (Laid W nb vb bs bw []) := by
  go_enter Try.func48, Try.ntmps48
  go_wp2_with (go_at_call 24; refine (blen_nil _).mono ?_; rintro e w' ⟨rfl, rfl⟩)
  go_loopw [6] (fun i wr => i = .int .i64 0 ∧ wr = W) (fun i _ => 0)
  case atStart => exact ⟨rfl, rfl⟩
  case round =>
    obtain ⟨rfl, rfl⟩ := hrel
    go_wp2_with fail
    go_end0
    exact ⟨rfl, hMk, grown_refl _ _⟩

/-- a Vector by the places of its ones -/
theorem new_any (w : World) (n0 : Int) (n : Nat) (hn : n < 1048576) (hn0 : (n0 < 0 ∧ n = 0) ∨ n0 = (n : Int)) (A : Option Addr) (K cap : Nat) (xs : List Int) (hK : xs.length = K) (hK2 : K < 4611686018427387904) (hSl : Sl w A (VI xs)) :
    Calls Try.prog 16 #[.int .i64 n0, .slice A K cap] w (MadeVec w (laidAll (List.replicate n false) xs K)) := by
  have hM := made_any (w.alloc (.cells #[.slice A K cap] 23)) n0 n 41 w.heap.size (fun _ _ => rfl) (laidAll (List.replicate n false) xs K) (by rw [laidAll_length, List.length_replicate]) hn hn0
    (by
      intro W nb vb bs bw h1 h2 h3 h4 hMk hB
      have hs : (w.alloc (.cells #[.slice A K cap] 23)).heap.size = w.heap.size + 1 := by simp
      have hc : W.heap[w.heap.size]? = some (.cells #[.slice A K cap] 23 (0, 0)) := by
        rw [hB.block _ (by omega)]; exact heap_alloc_new w _
      refine lay_new hMk ((cell_blk hc 0).trans rfl) hK hK2 fun W' hg => ?_
      refine hSl.kept fun a ha hne => ?_
      have hlt := hSl.lt a ha hne
      rw [hg.block _ (by have := hB.size; omega) (by intro e; injection e; omega), hB.block _ (by omega), Below.heap_alloc _ _ _ hlt])
  have HM := Lib.hid hM
  clear hM
  go_enter Try.func16, Try.ntmps16
  go_wp2_with (go_at_call 40; refine HM.out.mono ?_; rintro e w' ⟨b, rfl, hBV, hB⟩)
  go_ret
  exact ⟨b, rfl, hBV.mono (by simp), ⟨hB.os, hB.tape, hB.output, by have := hB.size; simp at this; omega, fun k hk => by rw [hB.block k (by simp; omega), Below.heap_alloc _ _ _ hk]⟩⟩

theorem MadeVec.out {w : World} {o : Obj} {l : List Bool} {e : Ending} {w' : World} (h : MadeVec (w.alloc o) l e w') : MadeVec w l e w' := by
  obtain ⟨b, rfl, hBV, hB⟩ := h
  exact ⟨b, rfl, hBV.mono (by simp), ⟨hB.os, hB.tape, hB.output, by have := hB.size; simp at this; omega, fun k hk => by rw [hB.block k (by simp; omega), Below.heap_alloc _ _ _ hk]⟩⟩

/-- a Vector by its bits -/
theorem of_any (w : World) (A : Option Addr) (n cap : Nat) (l : List Bool) (hn : l.length = n) (hn2 : n < 1048576) (hSl : Sl w A (VB l)) :
    Calls Try.prog 22 #[.slice A n cap] w (MadeVec w l) := by
  have hM := made_any (w.alloc (.cells #[.slice A n cap] 30)) n n 47 w.heap.size (fun _ _ => rfl) l hn hn2 (.inr rfl)
    (by
      intro W nb vb bs bw h1 h2 h3 h4 hMk hB
      have hs : (w.alloc (.cells #[.slice A n cap] 30)).heap.size = w.heap.size + 1 := by simp
      have hc : W.heap[w.heap.size]? = some (.cells #[.slice A n cap] 30 (0, 0)) := by
        rw [hB.block _ (by omega)]; exact heap_alloc_new w _
      refine lay_of hMk ((cell_blk hc 0).trans rfl) hn hn2 fun W' hg => ?_
      refine hSl.kept fun a ha hne => ?_
      have hlt := hSl.lt a ha hne
      rw [hg.block _ (by have := hB.size; omega) (by intro e; injection e; omega), hB.block _ (by omega), Below.heap_alloc _ _ _ hlt])
  have HM := Lib.hid hM
  clear hM
  go_enter Try.func22, Try.ntmps22
  go_wp2_with (go_at_call 40; refine HM.out.mono ?_; rintro e w' ⟨b, rfl, hBV, hB⟩)
  go_ret
  exact MadeVec.out ⟨b, rfl, hBV, hB⟩

/-- a Vector turned -/
theorem flip_any {w : World} {base b : Nat} {l : List Bool} (h : BVec w base b l) (hl : l.length < 1048576) :
    Calls Try.prog 25 #[.pointer (some ⟨b, 0, none⟩)] w (MadeVec w (l.map (!·))) := by
  obtain ⟨n, hn⟩ : ∃ n, l.length = n := ⟨_, rfl⟩
  rw [hn] at hl
  have hBA : BVec (w.alloc (.cells #[.pointer (some ⟨b, 0, none⟩)] 24)) base b l := h.keep fun k _ hk => Below.heap_alloc _ _ _ hk
  have hc0 := hBA.c0
  rw [hn] at hc0
  have hM := made_any (w.alloc (.cells #[.pointer (some ⟨b, 0, none⟩)] 24)) n n 48 w.heap.size (fun _ _ => rfl) (l.map (!·)) (by rw [List.length_map, hn]) hl (.inr rfl)
    (by
      intro W nb vb bs bw h1 h2 h3 h4 hMk hB
      have hs : (w.alloc (.cells #[.pointer (some ⟨b, 0, none⟩)] 24)).heap.size = w.heap.size + 1 := by simp
      have hc : W.heap[w.heap.size]? = some (.cells #[.pointer (some ⟨b, 0, none⟩)] 24 (0, 0)) := by
        rw [hB.block _ (by omega)]; exact heap_alloc_new w _
      refine lay_flip (base := base) hMk ((cell_blk hc 0).trans rfl) (by omega) hn hl fun W' hg => ?_
      refine h.keep fun k hk hlt => ?_
      rw [hg.block _ (by have := hB.size; omega) (by intro e; injection e; omega), hB.block _ (by omega), Below.heap_alloc _ _ _ hlt])
  have HM := Lib.hid hM
  clear hM hn
  go_enter Try.func25, Try.ntmps25
  go_wp2_with ((first | (go_at_call 24; refine (blen_cell _ _ _ hc0).mono ?_; rintro e w' ⟨rfl, rfl⟩) | (go_at_call 40; refine HM.out.mono ?_; rintro e w' ⟨b, rfl, hBV, hB⟩)))
  go_ret
  exact MadeVec.out ⟨b, rfl, hBV, hB⟩
/-- of no Vector: one of no bit -/
theorem flip_nil (w : World) : Calls Try.prog 25 #[.pointer none] w (MadeVec w []) := by
  have hM := made_any (w.alloc (.cells #[.pointer none] 24)) 0 0 48 w.heap.size (fun _ _ => rfl) [] rfl (by decide) (.inr rfl)
    (by
      intro W nb vb bs bw h1 h2 h3 h4 hMk hB
      have hs : (w.alloc (.cells #[.pointer none] 24)).heap.size = w.heap.size + 1 := by simp
      have hc : W.heap[w.heap.size]? = some (.cells #[.pointer none] 24 (0, 0)) := by
        rw [hB.block _ (by omega)]; exact heap_alloc_new w _
      exact lay_flip_nil hMk ((cell_blk hc 0).trans rfl))
  have HM := Lib.hid hM
  clear hM
  go_enter Try.func25, Try.ntmps25
  go_wp2_with ((first | (go_at_call 24; refine (blen_nil _).mono ?_; rintro e w' ⟨rfl, rfl⟩) | (go_at_call 40; refine HM.out.mono ?_; rintro e w' ⟨b, rfl, hBV, hB⟩)))
  go_ret
  exact MadeVec.out ⟨b, rfl, hBV, hB⟩

end Go.Proofs.Ytfgkkffgcgjhfaa
