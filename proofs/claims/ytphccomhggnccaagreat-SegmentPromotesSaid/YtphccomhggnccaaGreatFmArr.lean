/- suffix: Array's closure, what Array refuses. -/
import Derived.Test.YtphccomhggnccaaGreatFmSorted2
import Derived.Test.YtphccomhggnccaaGreatWv
namespace Go.Proofs.YtphccomhggnccaaGreat
set_option linter.unusedVariables false
set_option linter.unusedSimpArgs false
set_option maxRecDepth 100000
open Go.RowKit Fm

/-- a list of which the first j are laid -/
def fillA (n j : Nat) (f : Nat → Int) : List Int := FA n fun i => if i < j then f i else 0
theorem fillA_length (n j : Nat) (f : Nat → Int) : (fillA n j f).length = n := FA_length _ _
theorem fillA_zero (n : Nat) (f : Nat → Int) : fillA n 0 f = List.replicate n 0 := by
  rw [FA_const]; exact FA_same fun i _ => by simp
theorem fillA_set (n j : Nat) (f : Nat → Int) (h : j < n) : (fillA n j f).set j (f j) = fillA n (j + 1) f := by
  unfold fillA
  rw [FA_set]
  refine FA_same fun i _ => ?_
  by_cases e : i = j
  · subst e; rw [if_pos rfl, if_pos (by omega)]
  · rw [if_neg e]
    by_cases l : i < j
    · rw [if_pos l, if_pos (by omega)]
    · rw [if_neg l, if_neg (by omega)]
theorem fillA_all (n : Nat) (f : Nat → Int) : fillA n n f = FA n f := FA_same fun i hi => by rw [if_pos hi]
theorem NI_FA (n : Nat) (f : Nat → Nat) : FA n (fun i => (f i : Int)) = NI ((List.range n).map f) := by
  unfold FA NI; rw [List.map_map]; rfl
theorem two_new (w : World) (a b : List Int) : IB ((w.alloc (.cells (I a) 3)).alloc (.cells (I b) 3)) w.heap.size a ∧ IB ((w.alloc (.cells (I a) 3)).alloc (.cells (I b) 3)) (w.heap.size + 1) b ∧ Below w.heap.size w ((w.alloc (.cells (I a) 3)).alloc (.cells (I b) 3)).drew := by
  refine ⟨blk_alloc (heap_alloc_new w _) _, ?_, (((Below.refl _ w).alloc (Nat.le_refl _) _).alloc (by simp) _).drew⟩
  have := heap_alloc_new (w.alloc (.cells (I a) 3)) (.cells (I b) 3)
  unfold IB
  simpa using this
/-- the number in a box -/
def boxed (v : Value) (w : World) : Nat := match v with
  | .pointer (some a) => (match w.cell? a with
    | some (.int _ z) => z.toNat
    | _ => 0)
  | _ => 0
theorem list_at (n : Nat) (f : Nat → Nat) (p : Nat) (h : p < n) : ((List.range n).map f).getD p 0 = f p := by
  simp [List.getD, List.getElem?_map, List.getElem?_range h]
/-- ranks by a function, ranks by a list -/
theorem inv_list {s : List Nat} {k many : Nat} {f g : Nat → Nat} {sa : List Nat} (h : Inv s k f many sa) (e : ∀ p, p < s.length → g p = f p) : Inv s k g many sa := by
  have hm : ∀ a ∈ sa, a < s.length := fun a ha => List.mem_range.1 (h.perm.mem_iff.1 ha)
  refine ⟨h.k1, ⟨fun a b ha hb => ?_, fun a b ha hb => ?_⟩, fun p hp => ?_, h.perm, ?_, h.le, ?_⟩
  · rw [e a ha, e b hb]; exact h.emb.lt a b ha hb
  · rw [e a ha, e b hb]; exact h.emb.eq a b ha hb
  · rw [e p hp]; exact h.lt p hp
  · refine List.Pairwise.imp_of_mem ?_ h.sorted
    intro a b ha hb hr
    rw [e a (hm a ha), e b (hm b hb)]; exact hr
  · rw [h.inj]
    constructor
    · intro q a b ha hb hr; rw [e a ha, e b hb] at hr; exact q a b ha hb hr
    · intro q a b ha hb hr; rw [← e a ha, ← e b hb] at hr; exact q a b ha hb hr
theorem bucket_list {places : List Nat} {many : Nat} {f g : Nat → Nat} (e : ∀ p ∈ places, g p = f p) : bucket places g many = bucket places f many := by
  unfold bucket
  congr 1
  funext k
  refine filter_same _ _ _ fun p hp => ?_
  rw [e p hp]
/-- the rank of what stands k behind, -1 for none -/
theorem second_any (w : World) (kb nb rb g : Nat) (s ranks : List Nat) (k n c i : Nat) (h1 : w.cell? ⟨kb, 0, none⟩ = some (.int .i64 (k : Int))) (h2 : w.cell? ⟨nb, 0, none⟩ = some (.int .i64 (n : Int))) (h3 : w.cell? ⟨rb, 0, none⟩ = some (.slice (some ⟨g, 0, none⟩) n c))
    (hI : IB w g (NI ranks)) (hl : ranks.length = n) (hs : s.length = n) (hn : n ≤ 1048576) (hk : k ≤ 1048576) (hi : i < n) :
    Calls Tryz.prog 190 #[.int .i64 (i : Int), .pointer (some ⟨kb, 0, none⟩), .pointer (some ⟨nb, 0, none⟩), .pointer (some ⟨rb, 0, none⟩)] w fun e w' => e = .returned (.int .i64 (((sec s k (fun p => ranks.getD p 0) i : Nat) : Int) - 1)) ∧ w = w' := by
  by_cases h : i + k < n
  · have hc := hI.cell (i := i + k) (by rw [NI_length, hl]; exact h)
    rw [NI_getD _ _ (by rw [hl]; exact h)] at hc
    have e : sec s k (fun p => ranks.getD p 0) i = ranks.getD (i + k) 0 + 1 := by unfold sec; rw [if_pos (by rw [hs]; exact h)]
    rw [e]
    clear e hI hl hs
    generalize ranks.getD (i + k) 0 = r at *
    go_enter Tryz.func190, Tryz.ntmps190
    go_wp2_with fail
    go_ret
    exact ⟨ret_int (by omega), rfl⟩
  · have e : sec s k (fun p => ranks.getD p 0) i = 0 := by unfold sec; rw [if_neg (by rw [hs]; exact h)]
    rw [e]
    have h' : ¬ (i : Int) + (k : Int) < (n : Int) := by omega
    clear e hI hl hs
    go_enter Tryz.func190, Tryz.ntmps190
    go_wp2_with fail
    go_ret
    exact ⟨ret_int (by omega), rfl⟩
theorem array_long (w : World) (A : Option Addr) (n cap : Nat) (hn : 65536 < n) :
    Calls Tryz.prog 136 #[.slice A n cap] w fun e w' => e = .returned (.tuple #[.slice none 0 0, .int .i64 5]) ∧ w = w' := by
  go_enter Tryz.func136, Tryz.ntmps136
  go_wp2_with fail
  go_ret2
  exact ⟨rfl, rfl⟩
end Go.Proofs.YtphccomhggnccaaGreat
