/- fm: what an Index of texts answers, in the texts' own words. -/
import Derived.Test.YtphccomhggnccaaGreatFmLoc
import Derived.Test.YtphccomhggnccaaGreatFmBuild
namespace Go.Proofs.YtphccomhggnccaaGreat
set_option linter.unusedVariables false
set_option linter.unusedSimpArgs false
set_option maxRecDepth 100000
open Go.RowKit Fm Rank

/-- where bytes stand in texts: text and place; nothing stands nowhere -/
def found (ts : List (List Nat)) (p : List Nat) : List (Nat × Nat) := if p = [] then [] else locF 0 p ts
def IH (l : List (Nat × Nat)) : List (Int × Int) := l.map fun h => ((h.1 : Int), (h.2 : Int))
theorem IH_length (l : List (Nat × Nat)) : (IH l).length = l.length := by simp [IH]
theorem hitS_rowT (ts : List (List Nat)) (p : Nat) : hitS (rowT ts) p = (((hit ts p).1 : Int), ((hit ts p).2 : Int)) := by
  unfold hitS hit
  rw [stp_rowT]
theorem run_eq (sa : List Nat) (f t : Nat) (h : t ≤ sa.length) : run sa f t = (List.range (t - f)).map fun i => sa.getD (f + i) 0 := by
  apply List.ext_getElem
  · rw [run_length sa f t h]; simp
  · intro i h1 h2
    rw [run_length sa f t h] at h1
    have := run_getD sa f t i h h1
    rw [getD_at (by rw [run_length sa f t h]; exact h1)] at this
    rw [this]
    simp
theorem leHit_iff (a b : Int × Int) : leHit a b = true ↔ a.1 < b.1 ∨ (a.1 = b.1 ∧ a.2 ≤ b.2) := by
  unfold leHit
  rw [Bool.not_eq_true', ← Bool.not_eq_true, ltHit]
  omega
theorem sorted_found {ts : List (List Nat)} {sa : List Nat} (h : IsSA (rowT ts) sa) {p : List Nat} {f t : Nat} (hf : (p ≠ [] ∧ f < t ∧ f = cnt (rowT ts) (cut false · (p.map (· + 2))) ∧ t = cnt (rowT ts) (cut true · (p.map (· + 2)))) ∨ (f = 0 ∧ t = 0 ∧ occP (rowT ts) p = [])) :
    (fnd (rowT ts) sa f (t - f)).mergeSort leHit = IH (found ts p) := by
  rcases hf with ⟨hp, h1, rfl, rfl⟩ | ⟨rfl, rfl, h3⟩
  · have hle := cnt_le (rowT ts) (cut true · (p.map (· + 2)))
    have hperm := run_occ h (p.map (· + 2))
    rw [run_eq _ _ _ (by rw [h.length]; exact hle)] at hperm
    have hfn : (fnd (rowT ts) sa (cnt (rowT ts) (cut false · (p.map (· + 2)))) (cnt (rowT ts) (cut true · (p.map (· + 2))) - cnt (rowT ts) (cut false · (p.map (· + 2))))).Perm (IH (found ts p)) := by
      have h2 := hperm.map (hitS (rowT ts))
      rw [List.map_map] at h2
      have e : (occ (rowT ts) (p.map (· + 2))).map (hitS (rowT ts)) = IH (found ts p) := by
        unfold found IH
        rw [if_neg hp, ← occ_hits ts p hp, List.map_map]
        exact List.map_congr_left fun q _ => hitS_rowT ts q
      rw [e] at h2
      exact h2
    refine List.Perm.eq_of_pairwise (le := fun a b => leHit a b = true) ?_ (List.pairwise_mergeSort ?_ ?_ _) ?_ ((List.mergeSort_perm _ _).trans hfn)
    · intro a b _ _ q1 q2
      rw [leHit_iff] at q1 q2
      apply Prod.ext <;> omega
    · intro a b c q1 q2
      rw [leHit_iff] at q1 q2 ⊢
      omega
    · intro a b
      rw [Bool.or_eq_true, leHit_iff, leHit_iff]
      omega
    · unfold found IH
      rw [if_neg hp, List.pairwise_map]
      refine (locF_sorted p ts 0).imp ?_
      intro a b q
      rw [leHit_iff]
      omega
  · have : found ts p = [] := by
      unfold occP at h3
      unfold found
      by_cases hp : p = []
      · rw [if_pos hp]
      · rw [if_neg hp] at h3 ⊢
        rw [← occ_hits ts p hp, h3]; rfl
    rw [this]
    simp [fnd, IH]
theorem occP_found (ts : List (List Nat)) (p : List Nat) : (occP (rowT ts) p).length = (found ts p).length := by
  unfold occP found
  by_cases hp : p = []
  · rw [if_pos hp, if_pos hp]; rfl
  · rw [if_neg hp, if_neg hp, ← occ_hits ts p hp, List.length_map]
theorem many_rowT (ts : List (List Nat)) : many (rowT ts) = ts.length := by
  unfold many
  rw [stp_rowT, stf_length]
  omega
theorem locateT {w : World} {base x : Nat} {ts : List (List Nat)} {sa : List Nat} (h : IdxM w base x (rowT ts) sa) (A : Option Addr) (n cap : Nat) (p : List Nat) (hA : Sl w A (VY p)) (hl : p.length = n) (hn : n ≤ 1099511627776) (hb : ∀ c ∈ p, c < 256) :
    Calls Tryz.prog 20 #[.pointer (some ⟨x, 0, none⟩), .slice A n cap] w (Hits w (IH (found ts p))) := by
  refine (locate_any h A n cap p hA hl hn hb).mono ?_
  rintro e w' ⟨f, t, hf, hH⟩
  rw [sorted_found h.ord hf] at hH
  exact hH
theorem countT {w : World} {base x : Nat} {ts : List (List Nat)} {sa : List Nat} (h : IdxM w base x (rowT ts) sa) (A : Option Addr) (n cap : Nat) (p : List Nat) (hA : Sl w A (VY p)) (hl : p.length = n) (hn : n ≤ 1099511627776) (hb : ∀ c ∈ p, c < 256) :
    Calls Tryz.prog 22 #[.pointer (some ⟨x, 0, none⟩), .slice A n cap] w fun e w' => e = .returned (.int .i64 (((found ts p).length : Nat) : Int)) ∧ Below w.heap.size w w' := by
  rw [← occP_found]
  exact count_any h A n cap p hA hl hn hb
theorem docsT {w : World} {base x : Nat} {ts : List (List Nat)} {sa : List Nat} (h : IdxM w base x (rowT ts) sa) :
    Calls Tryz.prog 23 #[.pointer (some ⟨x, 0, none⟩)] w fun e w' => e = .returned (.int .i64 ((ts.length : Nat) : Int)) ∧ w = w' := by
  have := docs_any h
  rwa [many_rowT] at this
theorem stf_le (ts : List (List Nat)) (d : Nat) (h : d ≤ ts.length) : (stf 0 ts).getD d 0 ≤ (body ts).length := by
  have h1 := stf_last 0 ts
  have hs := stf_sorted 0 ts
  have hl := stf_length 0 ts
  rcases Nat.lt_or_ge d ts.length with h2 | h2
  · have := List.pairwise_iff_getElem.1 hs d ts.length (by omega) (by omega) h2
    rw [getD_at (by omega)] at h1 ⊢
    omega
  · obtain rfl : d = ts.length := by omega
    omega
theorem lenT {w : World} {base x : Nat} {ts : List (List Nat)} {sa : List Nat} (h : IdxM w base x (rowT ts) sa) (d : Nat) (hd : d < ts.length) :
    Calls Tryz.prog 65 #[.pointer (some ⟨x, 0, none⟩), .int .i64 (d : Int)] w fun e w' => e = .returned (.int .i64 (((ts.getD d []).length : Nat) : Int)) ∧ ∃ n, w' = w.drewN n := by
  have hlen := h.len
  rw [rowT_length] at hlen
  refine len_in h d _ (by rw [many_rowT]; exact hd) ?_ ?_
  · rw [stp_rowT]; exact stf_next 0 ts d hd
  · rw [stp_rowT]
    have := stf_le ts (d + 1) (by omega)
    omega
theorem lenT_out {w : World} {base x : Nat} {ts : List (List Nat)} {sa : List Nat} (h : IdxM w base x (rowT ts) sa) (d : Int) (hd : d < 0 ∨ (ts.length : Int) ≤ d) :
    Calls Tryz.prog 65 #[.pointer (some ⟨x, 0, none⟩), .int .i64 d] w fun e w' => e = .returned (.int .i64 0) ∧ w = w' :=
  len_out h d (by rw [many_rowT]; exact hd)
end Go.Proofs.YtphccomhggnccaaGreat
