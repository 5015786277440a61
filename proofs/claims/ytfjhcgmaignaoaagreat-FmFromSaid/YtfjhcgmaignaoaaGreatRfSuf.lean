/- The reference's doubling (haystackref5.Array): what each round keeps; plain lists, no program. -/
import Derived.Test.YtfjhcgmaignaoaaGreatPl
namespace Go.Proofs.YtfjhcgmaignaoaaGreat.Fm
set_option linter.unusedVariables false
set_option linter.unusedSimpArgs false
open Rank

theorem lad_congr {d e : Nat → Nat → Bool} {l : List Nat} (i : Nat) (h : ∀ j, j < i → d (l.getD j 0) (l.getD (j + 1) 0) = e (l.getD j 0) (l.getD (j + 1) 0)) : lad d l i = lad e l i := by
  induction i with
  | zero => rfl
  | succ i ih => simp only [lad]; rw [ih fun j hj => h j (by omega), h i (by omega)]
/-- what a round of the reference's makes of the ranks -/
structure Rnd (s : List Nat) (k : Nat) (nx : Nat → Nat) (sb : List Nat) : Prop where
  emb : Emb s k nx
  perm : sb.Perm (List.range s.length)
  sorted : sb.Pairwise fun a b => nx a ≤ nx b
  lt : ∀ p, p < s.length → nx p < s.length
  inj : nx (sb.getD (s.length - 1) 0) = s.length - 1 → ∀ a b, a < s.length → b < s.length → nx a = nx b → a = b
theorem Rnd.of {s : List Nat} {k : Nat} {key : Nat → Nat × Nat} {sb : List Nat} {nx : Nat → Nat} (hn : 1 ≤ s.length)
    (h1 : ∀ a b, a < s.length → b < s.length → (klt (key a) (key b) ↔ lx (pre s k a) (pre s k b) = true))
    (h2 : ∀ a b, a < s.length → b < s.length → (key a = key b ↔ pre s k a = pre s k b))
    (hb : sb.Perm (List.range s.length)) (hs : sb.Pairwise fun a b => kle (key a) (key b))
    (hx : ∀ i, i < s.length → nx (sb.getD i 0) = lad (fun a b => key a != key b) sb i) : Rnd s k nx sb := by
  obtain ⟨bl, bs, blt, binj⟩ := perm_at hb
  have hll := fun i j (hi : i < s.length) (hj : j < s.length) => lad_lt (key := key) hs i j (by omega) (by omega)
  have hlm := fun {i j : Nat} (h : i ≤ j) => lad_mono (fun a b => key a != key b) sb h
  have hle := lad_le (fun a b => key a != key b) sb
  have hla := fun i => lad_all (d := fun a b => key a != key b) (l := sb) i
  have hlf := fun i => lad_full (d := fun a b => key a != key b) (l := sb) i
  refine ⟨⟨?_, ?_⟩, hb, ?_, ?_, ?_⟩
  · intro a b ha hb2
    obtain ⟨i, hi, rfl⟩ := bs a ha
    obtain ⟨j, hj, rfl⟩ := bs b hb2
    rw [hx i hi, hx j hj, (hll i j hi hj).1, h1 _ _ ha hb2]
  · intro a b ha hb2
    obtain ⟨i, hi, rfl⟩ := bs a ha
    obtain ⟨j, hj, rfl⟩ := bs b hb2
    rw [hx i hi, hx j hj, (hll i j hi hj).2, h2 _ _ ha hb2]
  · rw [List.pairwise_iff_getElem]
    intro i j hi hj hij
    have := hlm (show i ≤ j by omega)
    rw [← hx i (by omega), ← hx j (by omega), getD_at hi, getD_at hj] at this
    exact this
  · intro p hp
    obtain ⟨i, hi, rfl⟩ := bs p hp
    rw [hx i hi]
    have := hle i
    omega
  · intro hfl a b ha hb2 e
    obtain ⟨i, hi, rfl⟩ := bs a ha
    obtain ⟨j, hj, rfl⟩ := bs b hb2
    rw [hx i hi, hx j hj] at e
    rw [hx _ (by omega)] at hfl
    have hstep := hla _ hfl
    have hi2 : lad (fun a b => key a != key b) sb i = i := hlf i fun q hq => hstep q (by omega)
    have hj2 : lad (fun a b => key a != key b) sb j = j := hlf j fun q hq => hstep q (by omega)
    have : i = j := by omega
    rw [this]
theorem Rnd.done {s : List Nat} {k : Nat} {nx : Nat → Nat} {sb : List Nat} (h : Rnd s k nx sb) (hi : ∀ a b, a < s.length → b < s.length → nx a = nx b → a = b) : IsSA s sb := by
  refine ⟨h.perm, ?_⟩
  have hnd : sb.Nodup := h.perm.nodup_iff.2 List.nodup_range
  refine List.Pairwise.imp_of_mem ?_ (h.sorted.and hnd)
  rintro a b ha hb ⟨h1, h2⟩
  have la := List.mem_range.1 (h.perm.mem_iff.1 ha)
  have lb := List.mem_range.1 (h.perm.mem_iff.1 hb)
  have hne : nx a ≠ nx b := fun e => h2 (hi a b la lb e)
  have hl := (h.emb.lt a b la lb).1 (by omega)
  have hd : pre s k a ≠ pre s k b := fun e => hne ((h.emb.eq a b la lb).2 e)
  rw [lx_take _ _ k hd]
  exact hl
theorem Rnd.full {s : List Nat} {k : Nat} {nx : Nat → Nat} {sb : List Nat} (h : Rnd s k nx sb) (hk : s.length ≤ k) : IsSA s sb :=
  h.done fun a b ha hb e => pre_inj ha hb hk ((h.emb.eq a b ha hb).1 e)
/-- the key by which the reference sorts in the round of a step -/
def rkey (R : List Nat) (step : Nat) (p : Nat) : Nat × Nat := (R.getD p 0, if step = 0 then 0 else if p + step < R.length then R.getD (p + step) 0 + 1 else 0)
theorem emb_first (s : List Nat) : Emb s 1 (fun p => s.getD p 0) := by
  refine ⟨fun a b ha hb => ?_, fun a b ha hb => ?_⟩
  · rw [pre_one ha, pre_one hb]
    simp [lx]
  · rw [pre_one ha, pre_one hb]
    simp
/-- the first round (by the symbols alone), and each later one -/
theorem Rnd.next {s R : List Nat} {k step : Nat} {sb : List Nat} {nx : Nat → Nat} (hn : 1 ≤ s.length) (hR : R.length = s.length) (he : Emb s k (fun p => R.getD p 0)) (hk : (step = 0 ∧ k = 1) ∨ (1 ≤ step ∧ step = k))
    (hb : sb.Perm (List.range s.length)) (hs : sb.Pairwise fun a b => kle (rkey R step a) (rkey R step b))
    (hx : ∀ i, i < s.length → nx (sb.getD i 0) = lad (fun a b => rkey R step a != rkey R step b) sb i) : Rnd s (max 1 (2 * step)) nx sb := by
  rcases hk with ⟨rfl, rfl⟩ | ⟨hk1, rfl⟩
  · refine Rnd.of (key := rkey R 0) hn ?_ ?_ hb hs hx
    · intro a b ha hb
      have := he.lt a b ha hb
      rw [show max 1 (2 * 0) = 1 by rfl, ← this]
      simp [klt, rkey]
    · intro a b ha hb
      have := he.eq a b ha hb
      rw [show max 1 (2 * 0) = 1 by rfl, ← this]
      simp [rkey]
  · have hm : max 1 (2 * step) = 2 * step := by omega
    have hkey : ∀ p, rkey R step p = (R.getD p 0, sec s step (fun p => R.getD p 0) p) := fun p => by
      unfold rkey sec
      rw [if_neg (show ¬ step = 0 by omega), hR]
    rw [hm]
    refine Rnd.of (key := rkey R step) hn ?_ ?_ hb hs hx
    · intro a b ha hb
      rw [← (double_lt he hk1 ha hb).1, hkey, hkey]
      rfl
    · intro a b ha hb
      rw [← (double_lt he hk1 ha hb).2, hkey, hkey, Prod.mk.injEq]
instance kltDec (x y : Nat × Nat) : Decidable (klt x y) := by unfold klt; infer_instance
/-- which of two comes first, and that they part, is one among sorted ones -/
theorem bef_ne {R : List Nat} {step : Nat} {sb : List Nat} (hs : sb.Pairwise fun a b => kle (rkey R step a) (rkey R step b)) {j : Nat} (hj : j + 1 < sb.length) :
    decide (klt (rkey R step (sb.getD j 0)) (rkey R step (sb.getD (j + 1) 0))) = (rkey R step (sb.getD j 0) != rkey R step (sb.getD (j + 1) 0)) := by
  have h := List.pairwise_iff_getElem.1 hs j (j + 1) (by omega) hj (by omega)
  rw [← getD_at, ← getD_at] at h
  generalize rkey R step (sb.getD j 0) = u at *
  generalize rkey R step (sb.getD (j + 1) 0) = v at *
  obtain ⟨u1, u2⟩ := u
  obtain ⟨v1, v2⟩ := v
  rw [Bool.eq_iff_iff, decide_eq_true_eq]
  simp only [klt, kle, bne_iff_ne, ne_eq, Prod.mk.injEq] at *
  omega

end Go.Proofs.YtfjhcgmaignaoaaGreat.Fm
