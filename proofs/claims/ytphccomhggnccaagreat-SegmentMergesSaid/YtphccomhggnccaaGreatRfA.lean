/- The reference's doubling (haystackref5.Array): what each round keeps; plain lists, no program. -/
import Derived.Test.YtphccomhggnccaaGreatPl
import Derived.Test.YtphccomhggnccaaGreatFmA
import Derived.Test.YtphccomhggnccaaGreatGen
import Derived.Test.YtphccomhggnccaaGreatWv
import Derived.BigRegion
set_option linter.unusedVariables false
set_option linter.unusedSimpArgs false
set_option maxRecDepth 100000
namespace Go.Proofs.YtphccomhggnccaaGreat.Fm
open Rank
structure Rnd (s : List Nat) (k : Nat) (nx : Nat → Nat) (sb : List Nat) : Prop where
  emb : Emb s k nx
  perm : sb.Perm (List.range s.length)
  sorted : sb.Pairwise fun a b => nx a ≤ nx b
  lt : ∀ p, p < s.length → nx p < s.length
  inj : nx (sb.getD (s.length - 1) 0) = s.length - 1 → ∀ a b, a < s.length → b < s.length → nx a = nx b → a = b
theorem Rnd.of {s : List Nat} {k : Nat} {key : Nat → Nat × Nat} {sb : List Nat} {nx : Nat → Nat} (hn : 1 ≤ s.length)
    (h1 : ∀ a b, a < s.length → b < s.length → (klt (key a) (key b) ↔ lx (pre s k a) (pre s k b) = true))
    (h2 : ∀ a b, a < s.length → b < s.length → (key a = key b ↔ pre s k a = pre s k b))
    (hb : sb.Perm (List.range s.length)) (hs : sb.Pairwise fun a b => kle (key a) (key b))
    (hx : ∀ i, i < s.length → nx (sb.getD i 0) = lad (fun a b => key a != key b) sb i) : Rnd s k nx sb := by
  obtain ⟨bl, bs, blt, binj⟩ := perm_at hb
  have hll := fun i j (hi : i < s.length) (hj : j < s.length) => lad_lt (key := key) hs i j (by omega) (by omega)
  have hlm := fun {i j : Nat} (h : i ≤ j) => lad_mono (fun a b => key a != key b) sb h
  have hle := lad_le (fun a b => key a != key b) sb
  have hla := fun i => lad_all (d := fun a b => key a != key b) (l := sb) i
  have hlf := fun i => lad_full (d := fun a b => key a != key b) (l := sb) i
  refine ⟨⟨?_, ?_⟩, hb, ?_, ?_, ?_⟩
  · intro a b ha hb2
    obtain ⟨i, hi, rfl⟩ := bs a ha
    obtain ⟨j, hj, rfl⟩ := bs b hb2
    rw [hx i hi, hx j hj, (hll i j hi hj).1, h1 _ _ ha hb2]
  · intro a b ha hb2
    obtain ⟨i, hi, rfl⟩ := bs a ha
    obtain ⟨j, hj, rfl⟩ := bs b hb2
    rw [hx i hi, hx j hj, (hll i j hi hj).2, h2 _ _ ha hb2]
  · rw [List.pairwise_iff_getElem]
    intro i j hi hj hij
    have := hlm (show i ≤ j by omega)
    rw [← hx i (by omega), ← hx j (by omega), getD_at hi, getD_at hj] at this
    exact this
  · intro p hp
    obtain ⟨i, hi, rfl⟩ := bs p hp
    rw [hx i hi]
    have := hle i
    omega
  · intro hfl a b ha hb2 e
    obtain ⟨i, hi, rfl⟩ := bs a ha
    obtain ⟨j, hj, rfl⟩ := bs b hb2
    rw [hx i hi, hx j hj] at e
    rw [hx _ (by omega)] at hfl
    have hstep := hla _ hfl
    have hi2 : lad (fun a b => key a != key b) sb i = i := hlf i fun q hq => hstep q (by omega)
    have hj2 : lad (fun a b => key a != key b) sb j = j := hlf j fun q hq => hstep q (by omega)
    have : i = j := by omega
    rw [this]
theorem Rnd.done {s : List Nat} {k : Nat} {nx : Nat → Nat} {sb : List Nat} (h : Rnd s k nx sb) (hi : ∀ a b, a < s.length → b < s.length → nx a = nx b → a = b) : IsSA s sb := by
  refine ⟨h.perm, ?_⟩
  have hnd : sb.Nodup := h.perm.nodup_iff.2 List.nodup_range
  refine List.Pairwise.imp_of_mem ?_ (h.sorted.and hnd)
  rintro a b ha hb ⟨h1, h2⟩
  have la := List.mem_range.1 (h.perm.mem_iff.1 ha)
  have lb := List.mem_range.1 (h.perm.mem_iff.1 hb)
  have hne : nx a ≠ nx b := fun e => h2 (hi a b la lb e)
  have hl := (h.emb.lt a b la lb).1 (by omega)
  have hd : pre s k a ≠ pre s k b := fun e => hne ((h.emb.eq a b la lb).2 e)
  rw [lx_take _ _ k hd]
  exact hl
theorem Rnd.full {s : List Nat} {k : Nat} {nx : Nat → Nat} {sb : List Nat} (h : Rnd s k nx sb) (hk : s.length ≤ k) : IsSA s sb :=
  h.done fun a b ha hb e => pre_inj ha hb hk ((h.emb.eq a b ha hb).1 e)
def rkey (R : List Nat) (step : Nat) (p : Nat) : Nat × Nat := (R.getD p 0, if step = 0 then 0 else if p + step < R.length then R.getD (p + step) 0 + 1 else 0)
theorem emb_first (s : List Nat) : Emb s 1 (fun p => s.getD p 0) := by
  refine ⟨fun a b ha hb => ?_, fun a b ha hb => ?_⟩
  · rw [pre_one ha, pre_one hb]
    simp [lx]
  · rw [pre_one ha, pre_one hb]
    simp
theorem Rnd.next {s R : List Nat} {k step : Nat} {sb : List Nat} {nx : Nat → Nat} (hn : 1 ≤ s.length) (hR : R.length = s.length) (he : Emb s k (fun p => R.getD p 0)) (hk : (step = 0 ∧ k = 1) ∨ (1 ≤ step ∧ step = k))
    (hb : sb.Perm (List.range s.length)) (hs : sb.Pairwise fun a b => kle (rkey R step a) (rkey R step b))
    (hx : ∀ i, i < s.length → nx (sb.getD i 0) = lad (fun a b => rkey R step a != rkey R step b) sb i) : Rnd s (max 1 (2 * step)) nx sb := by
  rcases hk with ⟨rfl, rfl⟩ | ⟨hk1, rfl⟩
  · refine Rnd.of (key := rkey R 0) hn ?_ ?_ hb hs hx
    · intro a b ha hb
      have := he.lt a b ha hb
      rw [show max 1 (2 * 0) = 1 by rfl, ← this]
      simp [klt, rkey]
    · intro a b ha hb
      have := he.eq a b ha hb
      rw [show max 1 (2 * 0) = 1 by rfl, ← this]
      simp [rkey]
  · have hm : max 1 (2 * step) = 2 * step := by omega
    have hkey : ∀ p, rkey R step p = (R.getD p 0, sec s step (fun p => R.getD p 0) p) := fun p => by
      unfold rkey sec
      rw [if_neg (show ¬ step = 0 by omega), hR]
    rw [hm]
    refine Rnd.of (key := rkey R step) hn ?_ ?_ hb hs hx
    · intro a b ha hb
      rw [← (double_lt he hk1 ha hb).1, hkey, hkey]
      rfl
    · intro a b ha hb
      rw [← (double_lt he hk1 ha hb).2, hkey, hkey, Prod.mk.injEq]
instance kltDec (x y : Nat × Nat) : Decidable (klt x y) := by unfold klt; infer_instance
theorem bef_ne {R : List Nat} {step : Nat} {sb : List Nat} (hs : sb.Pairwise fun a b => kle (rkey R step a) (rkey R step b)) {j : Nat} (hj : j + 1 < sb.length) :
    decide (klt (rkey R step (sb.getD j 0)) (rkey R step (sb.getD (j + 1) 0))) = (rkey R step (sb.getD j 0) != rkey R step (sb.getD (j + 1) 0)) := by
  have h := List.pairwise_iff_getElem.1 hs j (j + 1) (by omega) hj (by omega)
  rw [← getD_at, ← getD_at] at h
  generalize rkey R step (sb.getD j 0) = u at *
  generalize rkey R step (sb.getD (j + 1) 0) = v at *
  obtain ⟨u1, u2⟩ := u
  obtain ⟨v1, v2⟩ := v
  rw [Bool.eq_iff_iff, decide_eq_true_eq]
  simp only [klt, kle, bne_iff_ne, ne_eq, Prod.mk.injEq] at *
  omega
end Go.Proofs.YtphccomhggnccaaGreat.Fm
namespace Go.Proofs.YtphccomhggnccaaGreat
open Go.RowKit Fm Rank
theorem klt_zero (R : List Nat) (a b : Nat) : decide (klt (rkey R 0 a) (rkey R 0 b)) = decide (R.getD a 0 < R.getD b 0) := by
  rw [Bool.eq_iff_iff]; simp [klt, rkey]
theorem klt_step (R : List Nat) (step a b : Nat) (h : step ≠ 0) : klt (rkey R step a) (rkey R step b) ↔ R.getD a 0 < R.getD b 0 ∨ (R.getD a 0 = R.getD b 0 ∧ (if a + step < R.length then R.getD (a + step) 0 + 1 else 0) < (if b + step < R.length then R.getD (b + step) 0 + 1 else 0)) := by
  simp [klt, rkey, h]
set_option maxHeartbeats 4000000 in
theorem less5_any {w : World} {rb n c : Nat} {R : List Nat} (step a b : Nat) (hR : IB w rb (NI R)) (hl : R.length = n) (ha : a < n) (hb : b < n) (hn : n ≤ 65536) (hs0 : step ≠ 0) (hs : step ≤ 131072) :
    Calls Tryz.prog 221 #[.slice (some ⟨rb, 0, none⟩) n c, .int .i64 (step : Int), .int .i64 (a : Int), .int .i64 (b : Int)] w
      fun e w' => e = .returned (.bool (decide (klt (rkey R step a) (rkey R step b)))) ∧ ∃ q, w' = w.drewN q := by
  have hca := hR.cell (i := a) (by rw [NI_length, hl]; exact ha)
  have hcb := hR.cell (i := b) (by rw [NI_length, hl]; exact hb)
  rw [NI_getD _ _ (by rw [hl]; exact ha)] at hca
  rw [NI_getD _ _ (by rw [hl]; exact hb)] at hcb
  have HK := Lib.hid (klt_step R step a b hs0)
  rw [hl] at HK
  have Hl := Lib.hid hl
  have HR := Lib.hid hR
  have hx := fun (i : Nat) (h : i + step < n) => (show w.cell? ⟨rb, i + step, none⟩ = some (.int .i64 ((R.getD (i + step) 0 : Nat) : Int)) by
    have := hR.cell (i := i + step) (by rw [NI_length, hl]; exact h)
    rwa [NI_getD _ _ (by rw [hl]; exact h)] at this)
  have HX := Lib.hid hx
  clear hR hl hx
  obtain ⟨ra, hra⟩ : ∃ r, R.getD a 0 = r := ⟨_, rfl⟩
  obtain ⟨rb', hrb⟩ : ∃ r, R.getD b 0 = r := ⟨_, rfl⟩
  rw [hra] at hca HK
  rw [hrb] at hcb HK
  obtain ⟨D, hD⟩ : ∃ D, decide (klt (rkey R step a) (rkey R step b)) = D := ⟨_, rfl⟩
  have HD := Lib.hid hD
  rw [hD]
  clear hra hrb hD
  have hd : ∀ (P : Prop) [Decidable P], (klt (rkey R step a) (rkey R step b) ↔ P) → decide P = D := fun P _ h => by rw [← HD.out]; exact (decide_eq_decide.2 h).symm
  have Hd := Lib.hid hd
  clear hd
  by_cases h1 : ra = rb'
  · subst h1
    by_cases h2 : a + step < n <;> by_cases h3 : b + step < n
    · have c2 := HX.out a h2
      have c3 := HX.out b h3
      have HK2 := Lib.hid (Hd.out _ HK.out)
      rw [if_pos h2, if_pos h3] at HK2
      generalize R.getD (a + step) 0 = xa at *
      generalize R.getD (b + step) 0 = xb at *
      have h2i : (a : Int) + (step : Int) < (n : Int) := by omega
      have h3i : (b : Int) + (step : Int) < (n : Int) := by omega
      go_enter Tryz.func221, Tryz.ntmps221
      go_wp2_with fail
      go_quiet (fail)
      go_wp2_with fail
      go_ret
      exact ⟨ret_bool (by rw [← HK2.out]; simp), _, rfl⟩
    · have c2 := HX.out a h2
      have HK2 := Lib.hid (Hd.out _ HK.out)
      rw [if_pos h2, if_neg h3] at HK2
      generalize R.getD (a + step) 0 = xa at *
      have h2i : (a : Int) + (step : Int) < (n : Int) := by omega
      have h3i : ¬ (b : Int) + (step : Int) < (n : Int) := by omega
      go_enter Tryz.func221, Tryz.ntmps221
      go_wp2_with fail
      go_quiet (fail)
      go_wp2_with fail
      go_ret
      exact ⟨ret_bool (by rw [← HK2.out]; simp <;> omega), _, rfl⟩
    · have c3 := HX.out b h3
      have HK2 := Lib.hid (Hd.out _ HK.out)
      rw [if_neg h2, if_pos h3] at HK2
      generalize R.getD (b + step) 0 = xb at *
      have h2i : ¬ (a : Int) + (step : Int) < (n : Int) := by omega
      have h3i : (b : Int) + (step : Int) < (n : Int) := by omega
      go_enter Tryz.func221, Tryz.ntmps221
      go_wp2_with fail
      go_quiet (fail)
      go_wp2_with fail
      go_ret
      exact ⟨ret_bool (by rw [← HK2.out]; simp <;> omega), _, rfl⟩
    · have HK2 := Lib.hid (Hd.out _ HK.out)
      rw [if_neg h2, if_neg h3] at HK2
      have h2i : ¬ (a : Int) + (step : Int) < (n : Int) := by omega
      have h3i : ¬ (b : Int) + (step : Int) < (n : Int) := by omega
      go_enter Tryz.func221, Tryz.ntmps221
      go_wp2_with fail
      go_quiet (fail)
      go_wp2_with fail
      go_ret
      exact ⟨ret_bool (by rw [← HK2.out]; simp), _, rfl⟩
  · have h1i : ¬ (ra : Int) = (rb' : Int) := by omega
    have HK2 := Lib.hid (Hd.out (ra < rb') (HK.out.trans ⟨fun h => h.elim id fun h => absurd h.1 h1, .inl⟩))
    go_enter Tryz.func221, Tryz.ntmps221
    go_wp2_with fail
    go_quiet (fail)
    go_wp2_with fail
    go_quiet (fail)
    go_wp2_with fail
    go_ret
    exact ⟨ret_bool HK2.out, _, World.drewN_drewN ..⟩
set_option maxHeartbeats 4000000 in
theorem before5_any {w : World} {rb n c : Nat} {R : List Nat} (step a b : Nat) (hR : IB w rb (NI R)) (hl : R.length = n) (ha : a < n) (hb : b < n) (hn : n ≤ 65536) (hs : step ≤ 131072) :
    Calls Tryz.prog 207 #[.slice (some ⟨rb, 0, none⟩) n c, .int .i64 (step : Int), .int .i64 (a : Int), .int .i64 (b : Int)] w
      fun e w' => e = .returned (.bool (decide (klt (rkey R step a) (rkey R step b)))) ∧ ∃ q, w' = w.drewN q := by
  by_cases hs0 : step = 0
  · subst hs0
    have hca := hR.cell (i := a) (by rw [NI_length, hl]; exact ha)
    have hcb := hR.cell (i := b) (by rw [NI_length, hl]; exact hb)
    rw [NI_getD _ _ (by rw [hl]; exact ha)] at hca
    rw [NI_getD _ _ (by rw [hl]; exact hb)] at hcb
    rw [klt_zero]
    clear hR hl
    generalize R.getD a 0 = ra at *
    generalize R.getD b 0 = rb' at *
    go_enter Tryz.func207, Tryz.ntmps207
    go_wp2_with fail
    go_quiet (fail)
    go_wp2_with fail
    go_ret
    exact ⟨ret_bool (by simp), _, rfl⟩
  · have HL := Lib.hid (less5_any (w := w) (rb := rb) (c := c) step a b hR hl ha hb hn hs0 hs)
    have e1 : ((step : Int) == 0) = false := by rw [beq_eq_false_iff_ne]; omega
    have e2 : (step == 0) = false := by rw [beq_eq_false_iff_ne]; omega
    clear hR
    go_enter Tryz.func207, Tryz.ntmps207
    go_wp2_with fail
    go_at_call 221
    refine HL.out.mono ?_
    rintro e w' ⟨rfl, q, rfl⟩
    go_wp2_with fail
    go_ret
    exact ⟨rfl, q, rfl⟩
end Go.Proofs.YtphccomhggnccaaGreat
namespace Go.Proofs.YtphccomhggnccaaGreat
open Go.RowKit Fm Rank
def le5 (R : List Nat) (step x y : Nat) : Bool := !decide (klt (rkey R step y) (rkey R step x))
theorem le5_kle (R : List Nat) (step x y : Nat) : le5 R step x y = true ↔ kle (rkey R step x) (rkey R step y) := by
  unfold le5
  generalize rkey R step x = u
  generalize rkey R step y = v
  obtain ⟨u1, u2⟩ := u
  obtain ⟨v1, v2⟩ := v
  rw [Bool.not_eq_true', decide_eq_false_iff_not]
  simp only [klt, kle]
  omega
theorem mrg_sorted (R : List Nat) (step : Nat) (x y : List Nat) (hx : x.Pairwise fun a b => kle (rkey R step a) (rkey R step b)) (hy : y.Pairwise fun a b => kle (rkey R step a) (rkey R step b)) :
    (List.merge x y (le5 R step)).Pairwise fun a b => kle (rkey R step a) (rkey R step b) := by
  have h := List.pairwise_merge (le := le5 R step) (fun a b c h1 h2 => ?_) (fun a b => ?_) x y (hx.imp fun h => (le5_kle ..).2 h) (hy.imp fun h => (le5_kle ..).2 h)
  · exact h.imp fun h => (le5_kle ..).1 h
  · rw [le5_kle] at h1 h2 ⊢
    generalize rkey R step a = u at *
    generalize rkey R step b = v at *
    generalize rkey R step c = z at *
    obtain ⟨u1, u2⟩ := u
    obtain ⟨v1, v2⟩ := v
    obtain ⟨z1, z2⟩ := z
    simp only [kle] at *
    omega
  · rw [Bool.or_eq_true, le5_kle, le5_kle]
    generalize rkey R step a = u at *
    generalize rkey R step b = v at *
    obtain ⟨u1, u2⟩ := u
    obtain ⟨v1, v2⟩ := v
    simp only [kle] at *
    omega
structure Mg (le : Nat → Nat → Bool) (x y : List Nat) (i k : Nat) (acc : List Nat) : Prop where
  eq : acc ++ List.merge (x.drop i) (y.drop k) le = List.merge x y le
  len : acc.length = i + k
theorem Mg.start (le : Nat → Nat → Bool) (x y : List Nat) : Mg le x y 0 0 [] := ⟨by simp, rfl⟩
theorem Mg.left {le : Nat → Nat → Bool} {x y : List Nat} {i k : Nat} {acc : List Nat} (h : Mg le x y i k acc) (hi : i < x.length) (hk : y.length ≤ k ∨ (k < y.length ∧ le (x.getD i 0) (y.getD k 0) = true)) : Mg le x y (i + 1) k (acc ++ [x.getD i 0]) := by
  refine ⟨?_, by rw [List.length_append, h.len]; simp; omega⟩
  rw [← h.eq, List.append_assoc]
  congr 1
  conv => rhs; rw [List.drop_eq_getElem_cons hi]
  rw [getD_at hi]
  rcases hk with hk | ⟨hk, hle⟩
  · rw [List.drop_eq_nil_of_le hk]; simp
  · rw [getD_at hi, getD_at hk] at hle
    rw [List.drop_eq_getElem_cons hk, List.cons_merge_cons, if_pos hle]
    rfl
theorem Mg.right {le : Nat → Nat → Bool} {x y : List Nat} {i k : Nat} {acc : List Nat} (h : Mg le x y i k acc) (hk : k < y.length) (hi : x.length ≤ i ∨ (i < x.length ∧ le (x.getD i 0) (y.getD k 0) = false)) : Mg le x y i (k + 1) (acc ++ [y.getD k 0]) := by
  refine ⟨?_, by rw [List.length_append, h.len]; simp; omega⟩
  rw [← h.eq, List.append_assoc]
  congr 1
  conv => rhs; rw [List.drop_eq_getElem_cons hk]
  rw [getD_at hk]
  rcases hi with hi | ⟨hi, hle⟩
  · rw [List.drop_eq_nil_of_le hi]; simp
  · rw [getD_at hi, getD_at hk] at hle
    rw [List.drop_eq_getElem_cons hi, List.cons_merge_cons, if_neg (by rw [hle]; decide)]
    rfl
theorem Mg.done {le : Nat → Nat → Bool} {x y : List Nat} {i k : Nat} {acc : List Nat} (h : Mg le x y i k acc) (hi : x.length ≤ i) (hk : y.length ≤ k) : acc = List.merge x y le := by
  rw [← h.eq, List.drop_eq_nil_of_le hi, List.drop_eq_nil_of_le hk]; simp
theorem make0_int (c : Nat) (hc : c ≤ 1099511627776) (w : World) :
    (Instr.makeSlice 26 (.int .i64 0) (.int .i64 (c : Int))).run Tryz.prog w = .ok (.slice (some ⟨w.heap.size, 0, none⟩) 0 c) (w.alloc (.cells (I (List.replicate c 0)) 3)) := by
  obtain ⟨i0, hi, hz0, hz1, hz2⟩ := info_parts info_int
  have h := run_make (P := Tryz.prog) w 26 3 i0 (.int .i64 0) Tryz.underlying26 hi hz0 .i64 .i64 0 (c : Int) (by omega) (by omega) (by rw [hz2]; omega) (by omega)
  rw [h]
  have e : madeCells (Value.int .i64 0).cells (c * i0.size) = I (List.replicate c 0) := by
    rw [hz1, Nat.mul_one, madeCells_one _ rfl]
    simp [I]
  simp only [Int.toNat_natCast]
  rw [e]
  rfl
theorem NI_append (a b : List Nat) : NI (a ++ b) = NI a ++ NI b := by simp [NI]
theorem sl_cutN {w : World} {b off : Nat} {t : List Nat} (h : Sl w (some ⟨b, off, none⟩) (VI (NI t))) (f k : Nat) : Sl w (some ⟨b, off + f, none⟩) (VI (NI ((t.drop f).take k))) :=
  ⟨fun e => (by cases e), fun a ha j u hu => by
    cases ha
    have hj : j < k ∧ f + j < t.length := by
      rcases Nat.lt_or_ge j ((t.drop f).take k).length with h1 | h1
      · rw [List.length_take, List.length_drop] at h1; omega
      · rw [List.getElem?_eq_none (by rw [VI_length, NI_length]; exact h1)] at hu; cases hu
    have h1 := h.cell _ rfl (f + j) _ (VI_get (NI t) (f + j) (by rw [NI_length]; exact hj.2))
    rw [show (⟨b, off, none⟩ : Addr).add (f + j) = ⟨b, off + f + j, none⟩ by unfold Addr.add; split <;> simp_all; omega] at h1
    rw [show (⟨b, off + f, none⟩ : Addr).add j = ⟨b, off + f + j, none⟩ by unfold Addr.add; split <;> simp_all, h1, ← hu]
    have hl : j < ((t.drop f).take k).length := by rw [List.length_take, List.length_drop]; omega
    rw [VI_get _ j (by rw [NI_length]; exact hl), NI_getD _ _ hj.2, NI_getD _ _ hl]
    simp only [List.getD]
    rw [List.getElem?_take, if_pos hj.1, List.getElem?_drop]⟩
theorem sl_cellN {w : World} {b off : Nat} {t : List Nat} (h : Sl w (some ⟨b, off, none⟩) (VI (NI t))) {i : Nat} (hi : i < t.length) : w.cell? ⟨b, off + i, none⟩ = some (.int .i64 ((t.getD i 0 : Nat) : Int)) := by
  have := h.cell _ rfl i _ (VI_get (NI t) i (by rw [NI_length]; exact hi))
  rwa [NI_getD _ _ hi, show (⟨b, off, none⟩ : Addr).add i = ⟨b, off + i, none⟩ by unfold Addr.add; split <;> simp_all] at this
theorem app_new {w : World} {base : Nat} (hb : base ≤ w.heap.size) : (w.alloc (.cells #[] 3)).ownsRow base 3 1 (.slice (some ⟨w.heap.size, 0, none⟩) 0 0) ([] : List Int).length (VI []) := World.ownsRow_made w #[] 0 hb (by decide) (by simp)
theorem own_cap {w : World} {base : Nat} {e : TypeId} {A : Option Addr} {m c n : Nat} {xs : List Value} (h : w.ownsRow base e 1 (.slice A m c) n xs) : n ≤ c ∧ (A = none → c = 0) := by
  rcases h.2 with ⟨e1, rfl⟩ | ⟨g, cap, cur, e1, _, _, hn, _⟩
  · injection e1 with h1 h2 h3
    exact ⟨by omega, fun _ => h3⟩
  · injection e1 with h1 h2 h3
    exact ⟨by omega, fun e => by rw [e] at h1; cases h1⟩
theorem below_sz {w w' : World} (h : Below w.heap.size w w') : Below w.heap.size w w' := h
set_option maxHeartbeats 8000000 in
theorem sort5_any {n rb c0 : Nat} {R : List Nat} (step : Nat) (hl : R.length = n) (hn : n ≤ 65536) (hs : step ≤ 131072) :
    ∀ (m : Nat) (l : List Nat) (A : Option Addr) (c : Nat) (w : World), l.length = m → m ≤ c → m ≤ 65536 → (A = none → c = 0) → Sl w A (VI (NI l)) → (∀ x ∈ l, x < n) → IB w rb (NI R) →
    Calls Tryz.prog 206 #[.slice A m c, .slice (some ⟨rb, 0, none⟩) n c0, .int .i64 (step : Int)] w
      fun e w' => ∃ A' c' sb, e = .returned (.slice A' m c') ∧ m ≤ c' ∧ (A' = none → c' = 0) ∧ sb.Perm l ∧ (sb.Pairwise fun a b => kle (rkey R step a) (rkey R step b)) ∧ Sl w' A' (VI (NI sb)) ∧ Below w.heap.size w w' := by
  intro m
  induction m using Nat.strongRecOn with
  | ind m ih =>
  intro l A c w hlm hmc hm hnil hS hlt hR
  by_cases h2 : m < 2
  · have h2i : (m : Int) < 2 := by omega
    go_enter Tryz.func206, Tryz.ntmps206
    go_wp2_with fail
    go_ret
    refine ⟨A, c, l, rfl, hmc, hnil, List.Perm.refl _, ?_, hS, Below.refl _ _⟩
    match l, hlm with
    | [], _ => exact List.Pairwise.nil
    | [a], _ => exact List.pairwise_singleton _ _
    | _ :: _ :: _, h => simp at h; omega
  · obtain ⟨b, off, rfl, _⟩ := hS.lit (j := 0) (by rw [VI_length, NI_length]; omega)
    have h2i : ¬ (m : Int) < 2 := by omega
    obtain ⟨h, hh⟩ : ∃ h, m / 2 = h := ⟨_, rfl⟩
    have q1 : ((m : Int)).tdiv 2 = (h : Int) := by rw [Int.tdiv_eq_ediv_of_nonneg (by omega)]; omega
    have q2 : ((m : Int)) / 2 = (h : Int) := by omega
    have h1 : 1 ≤ h := by omega
    have hhm : h < m := by omega
    have hhc : h ≤ c := by omega
    have z1 : (c == h) = false := by rw [beq_eq_false_iff_ne]; omega
    have IHx := Lib.hid (ih h hhm (l.take h))
    have IHy := Lib.hid (ih (m - h) (by omega) (l.drop h))
    have hx0 : l.take h = (l.drop 0).take h := by simp
    have hsx := sl_cutN hS 0 h
    rw [← hx0, Nat.add_zero] at hsx
    have hsy := sl_cutN hS h (m - h)
    rw [List.take_of_length_le (by rw [List.length_drop]; omega)] at hsy
    have hlx : (l.take h).length = h := by rw [List.length_take]; omega
    have hly : (l.drop h).length = m - h := by rw [List.length_drop]; omega
    have hltx : ∀ x ∈ l.take h, x < n := fun x hx => hlt x (List.mem_of_mem_take hx)
    have hlty : ∀ x ∈ l.drop h, x < n := fun x hx => hlt x (List.mem_of_mem_drop hx)
    have hpl : (l.take h ++ l.drop h).Perm l := by rw [List.take_append_drop]
    have HSX := Lib.hid hsx
    have HSY := Lib.hid hsy
    have HLX := Lib.hid hlx
    have HLY := Lib.hid hly
    have HTX := Lib.hid hltx
    have HTY := Lib.hid hlty
    have HPL := Lib.hid hpl
    have HR := Lib.hid hR
    have Hh := Lib.hid hh
    clear hS hsx hsy hx0 hlx hly hltx hlty hpl hlt hR ih hh hlm hnil
    generalize l.take h = lx at *
    generalize l.drop h = ly at *
    obtain ⟨h', hh'⟩ : ∃ h', m - h = h' := ⟨_, rfl⟩
    rw [hh'] at IHy HLY
    have hbl := World.block_lt_of_cell? w _ ((HSX.out.cell _ rfl 0 _ (VI_get (NI lx) 0 (by rw [NI_length, HLX.out]; omega))))
    go_enter Tryz.func206, Tryz.ntmps206
    go_wp2_with (at_builtin; refine app_int rfl _ _ rfl w.heap.size _ [] rfl (app_new (Nat.le_refl _)) (some ⟨b, off, none⟩) h c (NI lx) rfl (fun h => by cases h) (by rw [NI_length]; exact HLX.out) (HSX.out.below ((Below.refl _ w).alloc (Nat.le_refl _) _)) (by simp; omega) (by simp) ?_; intro v1 w1 hown1 hgrow1 _)
    have hB1 : Below w.heap.size w w1 := ((Below.refl _ w).alloc (Nat.le_refl _) _).grown hgrow1 (by simp) (fun k hk => by have : some w.heap.size = some k := hk; injection this; omega)
    rw [List.nil_append] at hown1
    obtain ⟨A1, c1, rfl, hS1, hl1, hA1⟩ := own_sl hown1
    have hcc1 := own_cap hown1
    rw [NI_length, HLX.out] at hcc1
    have HC1 := Lib.hid (IHx.out A1 c1 w1 HLX.out hcc1.1 (by omega) hcc1.2 hS1 HTX.out (HR.out.below hB1))
    rw [NI_length, HLX.out]
    have HB1 := Lib.hid hB1
    clear hown1 hgrow1 hB1 hS1 hl1 hA1 hcc1 IHx
    go_wp2_with fail
    go_at_call 206
    refine HC1.out.mono ?_
    rintro e w2 ⟨A2, c2, sx, rfl, hcx, hnx, hpx, hsx, hS2, hB2⟩
    have HB2 := Lib.hid (below_step HB1.out hB2)
    have HPX := Lib.hid hpx
    have HSXs := Lib.hid hsx
    have HS2 := Lib.hid hS2
    have hs2 := HB2.out.size
    clear hpx hsx hS2 hB2 HC1 HB1 hcx
    go_wp2_with (at_builtin; refine app_int rfl _ _ rfl w2.heap.size _ [] rfl (app_new (Nat.le_refl _)) (some ⟨b, off + h, none⟩) h' (c - h) (NI ly) rfl (fun h => by cases h) (by rw [NI_length]; exact HLY.out) ((HSY.out.below HB2.out).below ((Below.refl _ w2).alloc (Nat.le_refl _) _)) (by simp; omega) (by simp) ?_; intro v3 w3 hown3 hgrow3 _)
    have hB3 : Below w2.heap.size w2 w3 := ((Below.refl _ w2).alloc (Nat.le_refl _) _).grown hgrow3 (by simp) (fun k hk => by have : some w2.heap.size = some k := hk; injection this; omega)
    rw [List.nil_append] at hown3
    obtain ⟨A3, c3, rfl, hS3, hl3, hA3⟩ := own_sl hown3
    have hcc3 := own_cap hown3
    rw [NI_length, HLY.out] at hcc3
    have HC3 := Lib.hid (IHy.out A3 c3 w3 HLY.out hcc3.1 (by omega) hcc3.2 hS3 HTY.out (HR.out.below (below_step HB2.out hB3)))
    rw [NI_length, HLY.out]
    have HB3 := Lib.hid (below_step HB2.out hB3)
    have HS2' := Lib.hid (HS2.out.below hB3)
    clear hown3 hgrow3 hB3 hS3 hl3 hA3 hcc3 IHy HB2 HS2
    go_wp2_with fail
    go_at_call 206
    refine HC3.out.mono ?_
    rintro e w4 ⟨A4, c4, sy, rfl, hcy, hny, hpy, hsy, hS4, hB4⟩
    have HB4 := Lib.hid (below_step HB3.out hB4)
    have HPY := Lib.hid hpy
    have HSYs := Lib.hid hsy
    have HS4 := Lib.hid hS4
    have HS2 := Lib.hid (HS2'.out.below hB4)
    have hs4 := HB4.out.size
    clear hpy hsy hS4 hB4 HC3 HB3 hcy HS2'
    have hmk := make0_int m (by omega) w4
    obtain ⟨b2, o2, rfl, _⟩ := HS2.out.lit (j := 0) (by rw [VI_length, NI_length, HPX.out.length_eq, HLX.out]; omega)
    obtain ⟨b4, o4, rfl, _⟩ := HS4.out.lit (j := 0) (by rw [VI_length, NI_length, HPY.out.length_eq, HLY.out]; omega)
    have hlx2 : sx.length = h := by rw [HPX.out.length_eq]; exact HLX.out
    have hly2 : sy.length = h' := by rw [HPY.out.length_eq]; exact HLY.out
    have HLX2 := Lib.hid hlx2
    have HLY2 := Lib.hid hly2
    have hsum : h + h' = m := by omega
    clear hlx2 hly2
    go_wp2_with fail
    clear hmk
    have hO : (w4.alloc (.cells (I (List.replicate m 0)) 3)).ownsRow w4.heap.size 3 1 (.slice (some ⟨w4.heap.size, 0, none⟩) 0 m) (NI []).length (VI (NI [])) := World.ownsRow_made w4 _ m (Nat.le_refl _) (by unfold maxLen; omega) (by simp [I])
    go_loopw [9, 10, 11] (fun v s10 s11 wr => ∃ (i k : Nat) (acc : List Nat), i ≤ h ∧ k ≤ h' ∧ s10 = .int .i64 (i : Int) ∧ s11 = .int .i64 (k : Int) ∧ wr.ownsRow w4.heap.size 3 1 v (NI acc).length (VI (NI acc)) ∧ Hid (Mg (le5 R step) sx sy i k acc) ∧ Below w4.heap.size w4 wr) (fun _ s10 s11 _ => m - (intOf s10).toNat - (intOf s11).toNat)
    case atStart => exact ⟨0, 0, [], Nat.zero_le _, Nat.zero_le _, rfl, rfl, hO, Lib.hid (Mg.start ..), (Below.refl _ _).alloc (Nat.le_refl _) _⟩
    case round =>
      clear hO
      obtain ⟨i, k, acc, hi, hk, rfl, rfl, hown, HM, hB⟩ := hrel
      obtain ⟨A9, c9, hv9, _, _, _⟩ := own_sl hown
      subst hv9
      have Hal := Lib.hid (show acc.length ≤ 65536 by rw [HM.out.len]; omega)
      have Hown := Lib.hid hown
      have HB := Lib.hid hB
      clear hown hB
      have hca := fun (hi : i < h) => sl_cellN (HS2.out.below HB.out) (i := i) (by rw [HLX2.out]; exact hi)
      have hcb := fun (hk : k < h') => sl_cellN (HS4.out.below HB.out) (i := k) (by rw [HLY2.out]; exact hk)
      by_cases hih : i < h
      · have hca := hca hih
        by_cases hkh : k < h'
        · have hcb := hcb hkh
          have j1 : (i : Int) < (h : Int) := by omega
          have j2 : decide ((h' : Int) ≤ (k : Int)) = false := decide_eq_false (by omega)
          have j3 : decide ((i : Int) < (h : Int)) = true := decide_eq_true (by omega)
          have j2n : decide (h' ≤ k) = false := decide_eq_false (by omega)
          have j1n : decide (i < h) = true := decide_eq_true (by omega)
          have j4 : (k : Int) < (h' : Int) := by omega
          have j5 : (0 : Int) ≤ (i : Int) := by omega
          have j6 : (0 : Int) ≤ (k : Int) := by omega
          have hxn : sx.getD i 0 < n := HTX.out _ (HPX.out.mem_iff.1 (by rw [getD_at (by rw [HLX2.out]; exact hih)]; exact List.getElem_mem _))
          have hyn : sy.getD k 0 < n := HTY.out _ (HPY.out.mem_iff.1 (by rw [getD_at (by rw [HLY2.out]; exact hkh)]; exact List.getElem_mem _))
          have hle : le5 R step (sx.getD i 0) (sy.getD k 0) = !decide (klt (rkey R step (sy.getD k 0)) (rkey R step (sx.getD i 0))) := rfl
          have HBF := Lib.hid (fun q => before5_any (w := wr.drewN q) (rb := rb) (c := c0) step (sy.getD k 0) (sx.getD i 0) ((HR.out.below HB4.out).below ((below_sz HB.out).trans (below_drewN _ _ q))) hl hyn hxn hn hs)
          cases hd : decide (klt (rkey R step (sy.getD k 0)) (rkey R step (sx.getD i 0))) with
          | false =>
            have HM7 := Lib.hid (HM.out.left (by rw [HLX2.out]; exact hih) (.inr ⟨by rw [HLY2.out]; exact hkh, by rw [hle, hd]; rfl⟩))
            rw [hd] at HBF
            clear hle hd
            obtain ⟨xa, hxa⟩ : ∃ x, sx.getD i 0 = x := ⟨_, rfl⟩
            obtain ⟨ya, hya⟩ : ∃ x, sy.getD k 0 = x := ⟨_, rfl⟩
            rw [hxa] at hca HBF
            rw [hya] at hcb HBF
            clear hxn hyn hxa hya hih hkh
            go_wp2_with fail
            go_quiet ((go_at_call 207; exact Calls.quiet_of (HBF.out _)))
            clear HBF hca hcb
            obtain ⟨w9, hw9⟩ : ∃ w9, wr.drewN nq = w9 := ⟨_, rfl⟩
            have hB9 : Below w4.heap.size w4 w9 := by rw [← hw9]; exact HB.out.trans (below_drewN _ _ _)
            have hown9 := own_below Hown.out (below_drewN wr.heap.size wr nq)
            rw [hw9] at hown9 ⊢
            clear hw9
            have hcx := sl_cellN (HS2.out.below hB9) (i := i) (by first | (rw [HLX2.out]; omega) | (rw [HLY2.out]; omega))
            clear hca hcb
            generalize sx.getD i 0 = xv at *
            have hs9 := hB9.size
            have hal := Hal.out
            go_wp2_with (at_builtin; refine app_int rfl _ _ rfl w4.heap.size _ (NI acc) rfl (World.ownsRow.alloc hown9 _) (some ⟨w9.heap.size, 0, none⟩) 1 1 [(xv : Int)] rfl (fun h => by cases h) rfl (sl_blk (heap_alloc_new w9 _)) (by rw [NI_length]; omega) (by simp; omega) ?_; intro v7 w7 hown7 hg7 _)
            have hB7 : Below w4.heap.size w4 w7 := (hB9.alloc hB9.size _).grown hg7 (by simp; omega) (fun k hk => (World.ownsRow.lt hown9 k hk).1)
            have e7 : NI acc ++ [(xv : Int)] = NI (acc ++ [xv]) := by simp [NI]
            rw [e7] at hown7
            go_roundw
            case rel => exact ⟨i + 1, k, acc ++ [xv], by omega, hk, by go_num, rfl, hown7, HM7, hB7⟩
            case measure =>
              show m - ((i : Int) + 1).toNat - ((k : Int)).toNat < m - ((i : Int)).toNat - ((k : Int)).toNat
              omega
          | true =>
            have HM7 := Lib.hid (HM.out.right (by rw [HLY2.out]; exact hkh) (.inr ⟨by rw [HLX2.out]; exact hih, by rw [hle, hd]; rfl⟩))
            rw [hd] at HBF
            clear hle hd
            obtain ⟨xa, hxa⟩ : ∃ x, sx.getD i 0 = x := ⟨_, rfl⟩
            obtain ⟨ya, hya⟩ : ∃ x, sy.getD k 0 = x := ⟨_, rfl⟩
            rw [hxa] at hca HBF
            rw [hya] at hcb HBF
            clear hxn hyn hxa hya hih hkh
            go_wp2_with fail
            go_quiet ((go_at_call 207; exact Calls.quiet_of (HBF.out _)))
            clear HBF hca hcb
            obtain ⟨w9, hw9⟩ : ∃ w9, wr.drewN nq = w9 := ⟨_, rfl⟩
            have hB9 : Below w4.heap.size w4 w9 := by rw [← hw9]; exact HB.out.trans (below_drewN _ _ _)
            have hown9 := own_below Hown.out (below_drewN wr.heap.size wr nq)
            rw [hw9] at hown9 ⊢
            clear hw9
            have hcx := sl_cellN (HS4.out.below hB9) (i := k) (by first | (rw [HLX2.out]; omega) | (rw [HLY2.out]; omega))
            clear hca hcb
            generalize sy.getD k 0 = xv at *
            have hs9 := hB9.size
            have hal := Hal.out
            go_wp2_with (at_builtin; refine app_int rfl _ _ rfl w4.heap.size _ (NI acc) rfl (World.ownsRow.alloc hown9 _) (some ⟨w9.heap.size, 0, none⟩) 1 1 [(xv : Int)] rfl (fun h => by cases h) rfl (sl_blk (heap_alloc_new w9 _)) (by rw [NI_length]; omega) (by simp; omega) ?_; intro v7 w7 hown7 hg7 _)
            have hB7 : Below w4.heap.size w4 w7 := (hB9.alloc hB9.size _).grown hg7 (by simp; omega) (fun k hk => (World.ownsRow.lt hown9 k hk).1)
            have e7 : NI acc ++ [(xv : Int)] = NI (acc ++ [xv]) := by simp [NI]
            rw [e7] at hown7
            go_roundw
            case rel => exact ⟨i, k + 1, acc ++ [xv], hi, by omega, rfl, by go_num, hown7, HM7, hB7⟩
            case measure =>
              show m - ((i : Int)).toNat - ((k : Int) + 1).toNat < m - ((i : Int)).toNat - ((k : Int)).toNat
              omega
        · have j1 : (i : Int) < (h : Int) := by omega
          have j2 : (h' : Int) ≤ (k : Int) := by omega
          have j2' : decide ((h' : Int) ≤ (k : Int)) = true := decide_eq_true j2
          have HM7 := Lib.hid (HM.out.left (by rw [HLX2.out]; exact hih) (.inl (by rw [HLY2.out]; omega)))
          have j5 : (0 : Int) ≤ (i : Int) := by omega
          go_wp2_with fail
          go_quiet (fail)
          obtain ⟨w9, hw9⟩ : ∃ w9, wr.drewN nq = w9 := ⟨_, rfl⟩
          have hB9 : Below w4.heap.size w4 w9 := by rw [← hw9]; exact HB.out.trans (below_drewN _ _ _)
          have hown9 := own_below Hown.out (below_drewN wr.heap.size wr nq)
          rw [hw9] at hown9 ⊢
          clear hw9
          have hcx := sl_cellN (HS2.out.below hB9) (i := i) (by first | (rw [HLX2.out]; omega) | (rw [HLY2.out]; omega))
          clear hca hcb
          generalize sx.getD i 0 = xv at *
          have hs9 := hB9.size
          have hal := Hal.out
          go_wp2_with (at_builtin; refine app_int rfl _ _ rfl w4.heap.size _ (NI acc) rfl (World.ownsRow.alloc hown9 _) (some ⟨w9.heap.size, 0, none⟩) 1 1 [(xv : Int)] rfl (fun h => by cases h) rfl (sl_blk (heap_alloc_new w9 _)) (by rw [NI_length]; omega) (by simp; omega) ?_; intro v7 w7 hown7 hg7 _)
          have hB7 : Below w4.heap.size w4 w7 := (hB9.alloc hB9.size _).grown hg7 (by simp; omega) (fun k hk => (World.ownsRow.lt hown9 k hk).1)
          have e7 : NI acc ++ [(xv : Int)] = NI (acc ++ [xv]) := by simp [NI]
          rw [e7] at hown7
          go_roundw
          case rel => exact ⟨i + 1, k, acc ++ [xv], by omega, hk, by go_num, rfl, hown7, HM7, hB7⟩
          case measure =>
            show m - ((i : Int) + 1).toNat - ((k : Int)).toNat < m - ((i : Int)).toNat - ((k : Int)).toNat
            omega
      · by_cases hkh : k < h'
        · have hcb := hcb hkh
          have j1 : decide ((i : Int) < (h : Int)) = false := decide_eq_false (by omega)
          have j1' : ¬ (i : Int) < (h : Int) := by omega
          have j2n : decide (h' ≤ k) = false := decide_eq_false (by omega)
          have j1n : decide (i < h) = false := decide_eq_false (by omega)
          have j2 : decide ((h' : Int) ≤ (k : Int)) = false := decide_eq_false (by omega)
          have j4 : (k : Int) < (h' : Int) := by omega
          have j6 : (0 : Int) ≤ (k : Int) := by omega
          have HM7 := Lib.hid (HM.out.right (by rw [HLY2.out]; exact hkh) (.inl (by rw [HLX2.out]; omega)))
          go_wp2_with fail
          go_quiet (fail)
          obtain ⟨w9, hw9⟩ : ∃ w9, wr.drewN nq = w9 := ⟨_, rfl⟩
          have hB9 : Below w4.heap.size w4 w9 := by rw [← hw9]; exact HB.out.trans (below_drewN _ _ _)
          have hown9 := own_below Hown.out (below_drewN wr.heap.size wr nq)
          rw [hw9] at hown9 ⊢
          clear hw9
          have hcx := sl_cellN (HS4.out.below hB9) (i := k) (by first | (rw [HLX2.out]; omega) | (rw [HLY2.out]; omega))
          clear hca hcb
          generalize sy.getD k 0 = xv at *
          have hs9 := hB9.size
          have hal := Hal.out
          go_wp2_with (at_builtin; refine app_int rfl _ _ rfl w4.heap.size _ (NI acc) rfl (World.ownsRow.alloc hown9 _) (some ⟨w9.heap.size, 0, none⟩) 1 1 [(xv : Int)] rfl (fun h => by cases h) rfl (sl_blk (heap_alloc_new w9 _)) (by rw [NI_length]; omega) (by simp; omega) ?_; intro v7 w7 hown7 hg7 _)
          have hB7 : Below w4.heap.size w4 w7 := (hB9.alloc hB9.size _).grown hg7 (by simp; omega) (fun k hk => (World.ownsRow.lt hown9 k hk).1)
          have e7 : NI acc ++ [(xv : Int)] = NI (acc ++ [xv]) := by simp [NI]
          rw [e7] at hown7
          go_roundw
          case rel => exact ⟨i, k + 1, acc ++ [xv], hi, by omega, rfl, by go_num, hown7, HM7, hB7⟩
          case measure =>
            show m - ((i : Int)).toNat - ((k : Int) + 1).toNat < m - ((i : Int)).toNat - ((k : Int)).toNat
            omega
        · obtain rfl : i = h := by omega
          obtain rfl : k = h' := by omega
          have hacc := HM.out.done (by rw [HLX2.out]; exact Nat.le_refl _) (by rw [HLY2.out]; exact Nat.le_refl _)
          have Hlen := Lib.hid HM.out.len
          have hown' := Hown.out
          clear hca hcb
          go_wp2_with fail
          go_ret
          obtain ⟨A, c, hv, hS, _, _⟩ := own_sl hown'
          have hcc := own_cap hown'
          injection hv with v1 v2 v3
          subst v1
          have hlen := Hlen.out
          rw [NI_length] at hcc ⊢
          refine ⟨_, _, acc, by rw [hlen, hsum]; rfl, by omega, hcc.2, ?_, ?_, hS, below_step HB4.out HB.out⟩
          · rw [hacc]
            exact (List.merge_perm_append (le5 R step)).trans ((HPX.out.append HPY.out).trans HPL.out)
          · rw [hacc]; exact mrg_sorted R step sx sy HSXs.out HSYs.out
end Go.Proofs.YtphccomhggnccaaGreat
namespace Go.Proofs.YtphccomhggnccaaGreat
open Go.RowKit Fm Rank
structure Nxt (R : List Nat) (step : Nat) (sb N : List Nat) (i : Nat) : Prop where
  len : N.length = sb.length
  at' : ∀ j, j < i → N.getD (sb.getD j 0) 0 = lad (fun a b => rkey R step a != rkey R step b) sb j
theorem getD_set_ne (N : List Nat) (p q v : Nat) (h : p ≠ q) : (N.set p v).getD q 0 = N.getD q 0 := by
  simp [List.getD, List.getElem?_set, h]
theorem getD_set_eq (N : List Nat) (p v : Nat) (h : p < N.length) : (N.set p v).getD p 0 = v := by
  simp [List.getD, List.getElem?_set, h]
theorem Nxt.start (R : List Nat) (step : Nat) (sb : List Nat) (n : Nat) (hp : sb.Perm (List.range n)) (hn : 1 ≤ n) : Nxt R step sb (List.replicate n 0) 1 := by
  refine ⟨by rw [List.length_replicate, hp.length_eq, List.length_range], fun j hj => ?_⟩
  obtain rfl : j = 0 := by omega
  simp only [lad]
  simp [List.getD]
  cases h : (List.replicate n 0)[sb[0]?.getD 0]? with
  | none => rfl
  | some v =>
    have := List.mem_of_getElem? h
    rw [(List.mem_replicate.1 this).2]; rfl
theorem Nxt.step {R : List Nat} {step : Nat} {sb N : List Nat} {i n : Nat} (h : Nxt R step sb N (i + 1)) (hp : sb.Perm (List.range n)) (hi : i + 1 < n) (v : Nat)
    (hv : v = N.getD (sb.getD i 0) 0 + if (rkey R step (sb.getD i 0) != rkey R step (sb.getD (i + 1) 0)) = true then 1 else 0) : Nxt R step sb (N.set (sb.getD (i + 1) 0) v) (i + 2) := by
  obtain ⟨bl, bs, blt, binj⟩ := perm_at hp
  refine ⟨by rw [List.length_set]; exact h.len, fun j hj => ?_⟩
  by_cases e : j = i + 1
  · subst e
    rw [getD_set_eq _ _ _ (by rw [h.len, bl]; exact blt _ hi), hv, h.at' i (by omega)]
    simp only [lad]
  · rw [getD_set_ne _ _ _ _ (fun e2 => e (binj _ _ hi (by omega) e2).symm)]
    exact h.at' j (by omega)
theorem NI_set (N : List Nat) (p v : Nat) : (NI N).set p (v : Int) = NI (N.set p v) := by simp [NI, List.map_set]
def Rn5 (s R sa : List Nat) (k : Nat) : Prop := (k = 0 ∧ R = s ∧ sa.Perm (List.range s.length)) ∨ (1 ≤ k ∧ Rnd s k (fun p => R.getD p 0) sa)
theorem Rn5.emb {s R sa : List Nat} {k : Nat} (h : Rn5 s R sa k) : ∃ k', Emb s k' (fun p => R.getD p 0) ∧ ((k = 0 ∧ k' = 1) ∨ (1 ≤ k ∧ k = k')) := by
  rcases h with ⟨rfl, rfl, _⟩ | ⟨h1, h2⟩
  · exact ⟨1, emb_first R, .inl ⟨rfl, rfl⟩⟩
  · exact ⟨k, h2.emb, .inr ⟨h1, rfl⟩⟩
theorem Rn5.perm {s R sa : List Nat} {k : Nat} (h : Rn5 s R sa k) : sa.Perm (List.range s.length) := h.elim (fun h => h.2.2) (fun h => h.2.perm)
theorem Rn5.next {s R sa sb N : List Nat} {k : Nat} (h : Rn5 s R sa k) (hn : 1 ≤ s.length) (hR : R.length = s.length) (hb : sb.Perm sa) (hs : sb.Pairwise fun a b => kle (rkey R k a) (rkey R k b)) (hN : Nxt R k sb N s.length) : Rnd s (max 1 (2 * k)) (fun p => N.getD p 0) sb := by
  obtain ⟨k', he, hk⟩ := h.emb
  exact Rnd.next hn hR he hk (hb.trans h.perm) hs (fun i hi => hN.at' i hi)
theorem sl_IB {w : World} {g : Nat} {l : List Int} (h : IB w g l) : Sl w (some ⟨g, 0, none⟩) (VI l) := sl_blk (xs := VI l) h
set_option maxHeartbeats 8000000 in
theorem array5_any (w : World) (b off n cap : Nat) (s : List Nat) (hl : s.length = n) (hn1 : 1 ≤ n) (hn : n ≤ 65536) (hS : Sl w (some ⟨b, off, none⟩) (VI (NI s))) :
    Calls Tryz.prog 175 #[.slice (some ⟨b, off, none⟩) n cap] w
      fun e w' => ∃ A c sa, e = .returned (.tuple #[.slice A n c, .int .i64 0]) ∧ IsSA s sa ∧ Sl w' A (VI (NI sa)) ∧ Below w.heap.size w w' := by
  have HS := Lib.hid hS
  have Hl := Lib.hid hl
  have hmk := make_int n (by omega)
  have hbl := World.block_lt_of_cell? w _ (sl_cellN hS (i := 0) (by omega))
  clear hS hl
  go_enter Tryz.func175, Tryz.ntmps175
  go_wp2_with fail
  go_loop [4] (fun i => ∃ k : Nat, k ≤ n ∧ i = .int .i64 (k : Int)) (fun i => n - (intOf i).toNat)
  case atStart => exact ⟨0, Nat.zero_le _, rfl⟩
  case round =>
    obtain ⟨k, hk, rfl⟩ := hrel
    by_cases hkn : k < n
    · have hc := sl_cellN HS.out (i := k) (by rw [Hl.out]; exact hkn)
      generalize s.getD k 0 = x at *
      have hx : ¬ (x : Int) < 0 := by omega
      go_wp2_with fail
      go_round
      case rel => exact ⟨k + 1, by omega, by go_num⟩
      case measure => simp [intOf]; omega
    · obtain rfl : n = k := by omega
      go_wp2_with fail
      clear hmk
      obtain ⟨w2, hw2⟩ : ∃ w2, ((w.alloc (.cells (I (List.replicate n 0)) 3)).alloc (.cells (I (List.replicate n 0)) 3)) = w2 := ⟨_, rfl⟩
      have hB2 : Below w.heap.size w w2 := by rw [← hw2]; exact ((Below.refl _ w).alloc (Nat.le_refl _) _).alloc (by simp) _
      have hI1 : IB w2 w.heap.size (half (NI (List.range n)) 0) := by
        rw [half_zero, NI_length, List.length_range, ← hw2]; exact blk_alloc (heap_alloc_new w _) _
      have hI2 : IB w2 (w.heap.size + 1) (half (NI s) 0) := by
        rw [half_zero, NI_length, Hl.out, ← hw2]
        have := heap_alloc_new (w.alloc (.cells (I (List.replicate n 0)) 3)) (.cells (I (List.replicate n 0)) 3)
        rw [World.size_alloc] at this
        exact this
      rw [hw2]
      clear hw2
      obtain ⟨g, hg⟩ : ∃ g, w.heap.size = g := ⟨_, rfl⟩
      rw [hg] at hI1 hI2 hbl
      rw [hg]
      have Hg := Lib.hid hg
      have hne1 : ¬ b = g := by omega
      have hne2 : ¬ b = g + 1 := by omega
      clear hg
      go_loopw [8] (fun q wr => ∃ j : Nat, j ≤ n ∧ q = .int .i64 (j : Int) ∧ IB wr g (half (NI (List.range n)) j) ∧ IB wr (g + 1) (half (NI s) j) ∧ Below w.heap.size w wr) (fun q _ => n - (intOf q).toNat)
      case atStart => exact ⟨0, Nat.zero_le _, rfl, hI1, hI2, hB2⟩
      case round =>
        clear hI1 hI2 hB2
        obtain ⟨j, hj, rfl, hA, hC, hB⟩ := hrel
        by_cases hjn : j < n
        · have hla : (NI (List.range n)).length = n := by rw [NI_length, List.length_range]
          have hlc : (NI s).length = n := by rw [NI_length, Hl.out]
          have ha := hA.cell (i := j) (by rw [half_length _ _ (by omega)]; omega)
          have hc := hC.cell (i := j) (by rw [half_length _ _ (by omega)]; omega)
          have hfa := hA.free j
          have hfc := hC.free j
          have hs := sl_cellN (HS.out.below hB) (i := j) (by rw [Hl.out]; exact hjn)
          have hA2 : IB (wr.setCell ⟨g, j, none⟩ (.int .i64 (j : Int))) g (half (NI (List.range n)) (j + 1)) := by
            have h := hA.set j (j : Int)
            have e := half_set (NI (List.range n)) j (by omega)
            rw [show (NI (List.range n)).getD j 0 = (j : Int) by rw [NI_getD _ _ (by simpa using hjn)]; simp [List.getD, hjn]] at e
            rwa [e] at h
          have hC2 : IB (wr.setCell ⟨g + 1, j, none⟩ (.int .i64 ((s.getD j 0 : Nat) : Int))) (g + 1) (half (NI s) (j + 1)) := by
            have h := hC.set j ((s.getD j 0 : Nat) : Int)
            have e := half_set (NI s) j (by omega)
            rw [NI_getD _ _ (by rw [Hl.out]; exact hjn)] at e
            rwa [e] at h
          have HA2 := Lib.hid hA2
          have HC := Lib.hid hC
          have HB := Lib.hid hB
          have HC2 := Lib.hid (show ∀ W : World, IB W (g + 1) (half (NI s) j) → IB (W.setCell ⟨g + 1, j, none⟩ (.int .i64 ((s.getD j 0 : Nat) : Int))) (g + 1) (half (NI s) (j + 1)) from fun W hW => by
            have h := hW.set j ((s.getD j 0 : Nat) : Int)
            have e := half_set (NI s) j (by omega)
            rw [NI_getD _ _ (by rw [Hl.out]; exact hjn)] at e
            rwa [e] at h)
          clear hA hC hB hA2 hC2 hla hlc
          generalize (half (NI (List.range n)) j).getD j 0 = xa at *
          generalize (half (NI s) j).getD j 0 = xc at *
          generalize s.getD j 0 = y at *
          go_wp2_with fail
          refine ⟨⟨j + 1, by omega, by go_num, ?_, ?_, ?_⟩, ?_⟩
          · exact HA2.out.other (by omega) _ _
          · exact HC2.out _ (HC.out.other (by omega) _ _)
          · exact below_cell (below_cell HB.out (Nat.le_of_eq Hg.out) _ _ rfl) (by have := Hg.out; show w.heap.size ≤ g + 1; omega) _ _ rfl
          · simp [intOf]; omega
        · obtain rfl : n = j := by omega
          have e1 : half (NI (List.range n)) n = NI (List.range n) := by
            have := half_all (NI (List.range n)); rwa [NI_length, List.length_range] at this
          have e2 : half (NI s) n = NI s := by
            have := half_all (NI s); rwa [NI_length, Hl.out] at this
          rw [e1] at hA
          rw [e2] at hC
          clear e1 e2
          go_wp2_with fail
          have hg2 := hC.lt
          have hRn : Rn5 s s (List.range n) 0 := .inl ⟨rfl, rfl, by rw [Hl.out]⟩
          go_loopw [6, 7, 9] (fun s6 s7 s9 wk => ∃ (bs os cs rb k : Nat) (sa R : List Nat), s6 = .slice (some ⟨bs, os, none⟩) n cs ∧ s7 = .slice (some ⟨rb, 0, none⟩) n n ∧ s9 = .int .i64 (k : Int) ∧ n ≤ cs ∧ k ≤ 131072 ∧ Hid (Rn5 s R sa k) ∧ Hid (R.length = n) ∧ Hid (Sl wk (some ⟨bs, os, none⟩) (VI (NI sa))) ∧ Hid (IB wk rb (NI R)) ∧ Hid (Below w.heap.size w wk)) (fun _ _ s9 _ => n - (intOf s9).toNat)
          case atStart => exact ⟨g, 0, n, g + 1, 0, List.range n, s, rfl, rfl, rfl, Nat.le_refl _, by omega, Lib.hid hRn, Hl, Lib.hid (sl_IB hA), Lib.hid hC, Lib.hid hB⟩
          case round =>
            clear hA hC hB hRn hg2
            obtain ⟨bs, os, cs, rb, k, sa, R, rfl, rfl, rfl, hcs, hk, HRn, HRl, HSa, HRb, HB⟩ := hrel
            by_cases hkn : k < n
            · have hsal : sa.length = n := by rw [HRn.out.perm.length_eq, List.length_range, Hl.out]
              have HSo := Lib.hid (sort5_any (c0 := n) (rb := rb) k HRl.out hn (by omega) n sa (some ⟨bs, os, none⟩) cs wr hsal hcs hn (fun e => (by cases e)) HSa.out (fun x hx => by have := List.mem_range.1 (HRn.out.perm.mem_iff.1 hx); rwa [Hl.out] at this) HRb.out)
              clear hsal
              go_wp2_with fail
              go_at_call 206
              refine HSo.out.mono ?_
              rintro e w3 ⟨A3, c3, sb, rfl, hc3, hnil3, hsb, hsorted, hS3, hB3⟩
              have HSb := Lib.hid hsb
              have HSt := Lib.hid hsorted
              have HB3 := Lib.hid (below_step HB.out hB3)
              have HR3 := Lib.hid (HRb.out.below hB3)
              have hbp : sb.Perm (List.range n) := by have := hsb.trans HRn.out.perm; rwa [Hl.out] at this
              have Hbp := Lib.hid hbp
              obtain ⟨b3, o3, rfl, _⟩ := hS3.lit (j := 0) (by rw [VI_length, NI_length, hbp.length_eq, List.length_range]; omega)
              have hb3 := World.block_lt_of_cell? w3 _ (sl_cellN hS3 (i := 0) (by rw [hbp.length_eq, List.length_range]; omega))
              have HS3 := Lib.hid hS3
              have hr3 := HR3.out.lt
              have hmk := make_int n (by omega) w3
              clear hsb hsorted hB3 hS3 HSo hnil3 hbp
              go_wp2_with fail
              clear hmk
              have hN0 : IB (w3.alloc (.cells (I (List.replicate n 0)) 3)) w3.heap.size (NI (List.replicate n 0)) := by
                have := heap_alloc_new w3 (.cells (I (List.replicate n 0)) 3)
                have e : NI (List.replicate n 0) = List.replicate n 0 := by simp [NI]
                unfold IB
                rw [e]; exact this
              have hx0 := Nxt.start R k sb n Hbp.out hn1
              go_loopw [11] (fun q wr => ∃ (i : Nat) (N : List Nat), i + 1 ≤ n ∧ q = .int .i64 ((i : Int) + 1) ∧ Hid (Nxt R k sb N (i + 1)) ∧ IB wr w3.heap.size (NI N) ∧ Below w3.heap.size w3 wr) (fun q _ => n + 1 - (intOf q).toNat)
              case atStart => exact ⟨0, _, by omega, rfl, Lib.hid hx0, hN0, (Below.refl _ w3).alloc (Nat.le_refl _) _⟩
              case round =>
                clear hN0 hx0
                obtain ⟨i, N, hi, rfl, HX, hN, hB4⟩ := hrel
                by_cases hin : i + 1 < n
                · obtain ⟨bl, bsx, blt, binj⟩ := perm_at Hbp.out
                  have hp1 := sl_cellN (HS3.out.below hB4) (i := i) (by rw [bl]; omega)
                  have hp2 := sl_cellN (HS3.out.below hB4) (i := i + 1) (by rw [bl]; omega)
                  have hl1 := blt i (by omega)
                  have hl2 := blt (i + 1) hin
                  have hNl : N.length = n := by rw [HX.out.len, bl]
                  have hn1' := hN.cell (i := sb.getD i 0) (by rw [NI_length, hNl]; exact hl1)
                  rw [NI_getD _ _ (by rw [hNl]; exact hl1)] at hn1'
                  have hn2' := hN.cell (i := sb.getD (i + 1) 0) (by rw [NI_length, hNl]; exact hl2)
                  rw [NI_getD _ _ (by rw [hNl]; exact hl2)] at hn2'
                  have hfr := hN.free (sb.getD (i + 1) 0)
                  have hmono : N.getD (sb.getD i 0) 0 ≤ 65536 := by
                    rw [HX.out.at' i (by omega)]
                    have := lad_le (fun a b => rkey R k a != rkey R k b) sb i
                    omega
                  have hne : sb.getD i 0 ≠ sb.getD (i + 1) 0 := fun e => by have := binj _ _ (by omega) hin e; omega
                  have hbef := bef_ne HSt.out (j := i) (by rw [bl]; exact hin)
                  have hstp := fun v hv => HX.out.step Hbp.out hin v hv
                  have HBf := Lib.hid (fun W (hW : IB W rb (NI R)) => before5_any (w := W) (rb := rb) (c := n) k (sb.getD i 0) (sb.getD (i + 1) 0) hW HRl.out hl1 hl2 hn (by omega))
                  rw [hbef] at HBf
                  have HR4 := Lib.hid (HR3.out.below hB4)
                  have HSt1 := Lib.hid (fun v => hN.set (sb.getD (i + 1) 0) v)
                  have Hstp := Lib.hid hstp
                  have HN := Lib.hid hN
                  have HB4 := Lib.hid hB4
                  have hb4 := hB4.size
                  clear hbef hstp hN hB4 bl bsx blt binj hNl
                  generalize (rkey R k (sb.getD i 0) != rkey R k (sb.getD (i + 1) 0)) = D at *
                  generalize N.getD (sb.getD (i + 1) 0) 0 = v2 at *
                  obtain ⟨v1, hv1⟩ : ∃ v1, N.getD (sb.getD i 0) 0 = v1 := ⟨_, rfl⟩
                  rw [hv1] at hn1' hmono
                  have Hv1 := Lib.hid hv1
                  clear hv1
                  obtain ⟨p1, hp1e⟩ : ∃ p, sb.getD i 0 = p := ⟨_, rfl⟩
                  obtain ⟨p2, hp2e⟩ : ∃ p, sb.getD (i + 1) 0 = p := ⟨_, rfl⟩
                  rw [hp1e] at hp1 hl1 hn1' hne HBf
                  rw [hp2e] at hp2 hl2 hn2' hfr hne HBf
                  have Hp1 := Lib.hid hp1e
                  have Hp2 := Lib.hid hp2e
                  clear hp1e hp2e
                  go_wp2_with fail
                  go_region
                  obtain ⟨w5, hw5⟩ : ∃ w5, (wr.setCell ⟨w3.heap.size, p2, none⟩ (.int .i64 (v1 : Int))).drew = w5 := ⟨_, rfl⟩
                  have hN5 : IB w5 w3.heap.size (NI (N.set p2 v1)) := by rw [← hw5, ← NI_set, ← Hp2.out]; exact HSt1.out _
                  have hB5 : Below w3.heap.size w3 w5 := by rw [← hw5]; exact (below_cell HB4.out (Nat.le_refl _) _ _ rfl).trans (below_drewN _ _ 1)
                  have hp1' := sl_cellN (HS3.out.below hB5) (i := i) (by have := Hbp.out.length_eq; rw [List.length_range] at this; omega)
                  have hp2' := sl_cellN (HS3.out.below hB5) (i := i + 1) (by have := Hbp.out.length_eq; rw [List.length_range] at this; omega)
                  rw [Hp1.out] at hp1'
                  rw [Hp2.out] at hp2'
                  have hNl : (N.set p2 v1).length = n := by rw [List.length_set, HX.out.len, Hbp.out.length_eq, List.length_range]
                  have hn5 := hN5.cell (i := p2) (by rw [NI_length, hNl]; exact hl2)
                  rw [NI_getD _ _ (by rw [hNl]; exact hl2), getD_set_eq _ _ _ (by rw [List.length_set] at hNl; rw [hNl]; exact hl2)] at hn5
                  have hfr5 := hN5.free p2
                  have HR5 := Lib.hid (HR3.out.below hB5)
                  have HBf5 := Lib.hid (fun q => HBf.out (w5.drewN q) (HR5.out.below (below_drewN _ w5 q)))
                  rw [hw5]
                  have HN5 := Lib.hid hN5
                  have HB5 := Lib.hid hB5
                  clear hw5 hN5 hB5 hp1 hp2 hn1' hn2' hfr HBf HSt1 HN HB4 hNl HR4
                  have t1 : (i : Int) + 1 < (n : Int) := by omega
                  have t2 : (i : Int) < (n : Int) := by omega
                  have hVal := Hstp.out
                  rw [Hp1.out, (show N.getD p1 0 = v1 by rw [← Hp1.out]; exact Hv1.out), Hp2.out] at hVal
                  have HVal := Lib.hid hVal
                  clear hVal Hstp
                  cases D with
                  | true =>
                    go_wp2_with fail
                    go_quiet ((go_at_call 207; exact Calls.quiet_of (HBf5.out _)))
                    obtain ⟨w6, hw6⟩ : ∃ w6, w5.drewN nq = w6 := ⟨_, rfl⟩
                    have hp2'' : w6.cell? ⟨b3, o3 + (i + 1), none⟩ = some (.int .i64 (p2 : Int)) := by rw [← hw6]; exact hp2'
                    have hn6 : w6.cell? ⟨w3.heap.size, p2, none⟩ = some (.int .i64 (v1 : Int)) := by rw [← hw6]; exact hn5
                    have hfr6 : w6.frozen? ⟨w3.heap.size, p2, none⟩ = false := by rw [← hw6]; exact hfr5
                    have HN6 := Lib.hid (show IB w6 w3.heap.size (NI (N.set p2 v1)) by rw [← hw6]; exact HN5.out)
                    have HB6 := Lib.hid (show Below w3.heap.size w3 w6 by rw [← hw6]; exact HB5.out.trans (below_drewN _ _ _))
                    rw [hw6]
                    clear hw6 hp1' hp2' hn5 hfr5 HBf5
                    go_wp2_with fail
                    refine ⟨⟨i + 1, N.set p2 (v1 + 1), by omega, by go_num, Lib.hid (HVal.out (v1 + 1) (by simp)), ?_, below_cell HB6.out (Nat.le_refl _) _ _ rfl⟩, ?_⟩
                    · have h9 := HN6.out.set p2 ((v1 : Int) + 1)
                      have e9 : (NI (N.set p2 v1)).set p2 ((v1 : Int) + 1) = NI (N.set p2 (v1 + 1)) := by
                        have := NI_set (N.set p2 v1) p2 (v1 + 1)
                        rw [List.set_set] at this
                        rw [← this]; simp
                      rwa [e9] at h9
                    · simp [intOf]; omega
                  | false =>
                    go_wp2_with fail
                    go_quiet ((go_at_call 207; exact Calls.quiet_of (HBf5.out _)))
                    go_wp2_with fail
                    refine ⟨⟨i + 1, N.set p2 v1, by omega, by go_num, Lib.hid (HVal.out v1 (by simp)), HN5.out, HB5.out.trans (below_drewN _ _ _)⟩, ?_⟩
                    simp [intOf]; omega
                · have hie : i + 1 = n := by omega
                  have e1 : (i : Int) + 1 = (n : Int) := by omega
                  have e2 : (n : Int) - 1 = (i : Int) := by omega
                  have HX' := HX.out
                  rw [hie] at HX'
                  have HRnd := Lib.hid (HRn.out.next (by rw [Hl.out]; exact hn1) (by rw [HRl.out, Hl.out]) HSb.out HSt.out (by rw [Hl.out]; exact HX'))
                  obtain ⟨bl, bsx, blt, binj⟩ := perm_at Hbp.out
                  have hp1 := sl_cellN (HS3.out.below hB4) (i := i) (by rw [bl]; omega)
                  have hl1 := blt i (by omega)
                  have hNl : N.length = n := by rw [HX.out.len, bl]
                  have HNl := Lib.hid hNl
                  have hn1' := hN.cell (i := sb.getD i 0) (by rw [NI_length, hNl]; exact hl1)
                  rw [NI_getD _ _ (by rw [hNl]; exact hl1)] at hn1'
                  have HN := Lib.hid hN
                  have HB4 := Lib.hid hB4
                  have hb4 := hB4.size
                  have Hlast := Lib.hid (show N.getD (sb.getD i 0) 0 = n - 1 → IsSA s sb from fun h => HRnd.out.done (HRnd.out.inj (by rw [Hl.out, ← hie, Nat.add_sub_cancel]; rw [← hie, Nat.add_sub_cancel] at h; exact h)))
                  have HS4 := Lib.hid (HS3.out.below hB4)
                  clear hN hB4 HX' bl bsx blt binj hNl HX
                  generalize N.getD (sb.getD i 0) 0 = v1 at *
                  generalize sb.getD i 0 = p1 at *
                  have hnp : (0 : Int) < (n : Int) := by omega
                  have hik : i < n := by omega
                  have e3 : (1 : Int) ≤ (n : Int) := by omega
                  clear hin hi
                  by_cases hv : v1 = i
                  · have hv1 : (v1 : Int) = (i : Int) := by omega
                    have HSA := Lib.hid (Hlast.out (by omega))
                    clear hv Hlast
                    go_wp2_with fail
                    go_ret2
                    exact ⟨_, _, sb, rfl, HSA.out, HS4.out, below_step HB3.out HB4.out⟩
                  · have hv1 : ¬ (v1 : Int) = (i : Int) := by omega
                    have hv2 : ((v1 : Int) == (i : Int)) = false := by rw [beq_eq_false_iff_ne]; exact hv1
                    clear hv Hlast
                    go_wp2_with fail
                    have hif : (if (1 : Int) < 2 * (k : Int) then 2 * (k : Int) else 1) = ((max 1 (2 * k) : Nat) : Int) := by split <;> omega
                    have hif2 : max (1 : Int) (2 * (k : Int)) = ((max 1 (2 * k) : Nat) : Int) := by omega
                    first | rw [hif] | rw [hif2]
                    refine ⟨⟨b3, o3, c3, w3.heap.size, max 1 (2 * k), sb, N, rfl, rfl, rfl, hc3, by omega, Lib.hid (.inr ⟨by omega, HRnd.out⟩), HNl, HS4, HN, Lib.hid (below_step HB3.out HB4.out)⟩, ?_⟩
                    show n - ((max 1 (2 * k) : Nat) : Int).toNat < n - ((k : Int)).toNat
                    omega
            · have HSA := Lib.hid (show IsSA s sa from by
                rcases HRn.out with ⟨h, _⟩ | ⟨_, h⟩
                · omega
                · exact h.full (by rw [Hl.out]; omega))
              go_wp2_with fail
              go_ret2
              exact ⟨_, _, sa, rfl, HSA.out, HSa.out, HB.out⟩
end Go.Proofs.YtphccomhggnccaaGreat
