/- haystackref5: sort. -/
import Derived.Test.YtfjhcgmaignaoaaGreatRf5
import Derived.Test.YtfjhcgmaignaoaaGreatGen
import Derived.Test.YtfjhcgmaignaoaaGreatWv
namespace Go.Proofs.YtfjhcgmaignaoaaGreat
set_option linter.unusedVariables false
set_option linter.unusedSimpArgs false
set_option maxRecDepth 100000
open Go.RowKit Fm Rank

def le5 (R : List Nat) (step x y : Nat) : Bool := !decide (klt (rkey R step y) (rkey R step x))
theorem le5_kle (R : List Nat) (step x y : Nat) : le5 R step x y = true ↔ kle (rkey R step x) (rkey R step y) := by
  unfold le5
  generalize rkey R step x = u
  generalize rkey R step y = v
  obtain ⟨u1, u2⟩ := u
  obtain ⟨v1, v2⟩ := v
  rw [Bool.not_eq_true', decide_eq_false_iff_not]
  simp only [klt, kle]
  omega
theorem mrg_sorted (R : List Nat) (step : Nat) (x y : List Nat) (hx : x.Pairwise fun a b => kle (rkey R step a) (rkey R step b)) (hy : y.Pairwise fun a b => kle (rkey R step a) (rkey R step b)) :
    (List.merge x y (le5 R step)).Pairwise fun a b => kle (rkey R step a) (rkey R step b) := by
  have h := List.pairwise_merge (le := le5 R step) (fun a b c h1 h2 => ?_) (fun a b => ?_) x y (hx.imp fun h => (le5_kle ..).2 h) (hy.imp fun h => (le5_kle ..).2 h)
  · exact h.imp fun h => (le5_kle ..).1 h
  · rw [le5_kle] at h1 h2 ⊢
    generalize rkey R step a = u at *
    generalize rkey R step b = v at *
    generalize rkey R step c = z at *
    obtain ⟨u1, u2⟩ := u
    obtain ⟨v1, v2⟩ := v
    obtain ⟨z1, z2⟩ := z
    simp only [kle] at *
    omega
  · rw [Bool.or_eq_true, le5_kle, le5_kle]
    generalize rkey R step a = u at *
    generalize rkey R step b = v at *
    obtain ⟨u1, u2⟩ := u
    obtain ⟨v1, v2⟩ := v
    simp only [kle] at *
    omega
/-- what is merged so far -/
structure Mg (le : Nat → Nat → Bool) (x y : List Nat) (i k : Nat) (acc : List Nat) : Prop where
  eq : acc ++ List.merge (x.drop i) (y.drop k) le = List.merge x y le
  len : acc.length = i + k
theorem Mg.start (le : Nat → Nat → Bool) (x y : List Nat) : Mg le x y 0 0 [] := ⟨by simp, rfl⟩
theorem Mg.left {le : Nat → Nat → Bool} {x y : List Nat} {i k : Nat} {acc : List Nat} (h : Mg le x y i k acc) (hi : i < x.length) (hk : y.length ≤ k ∨ (k < y.length ∧ le (x.getD i 0) (y.getD k 0) = true)) : Mg le x y (i + 1) k (acc ++ [x.getD i 0]) := by
  refine ⟨?_, by rw [List.length_append, h.len]; simp; omega⟩
  rw [← h.eq, List.append_assoc]
  congr 1
  conv => rhs; rw [List.drop_eq_getElem_cons hi]
  rw [getD_at hi]
  rcases hk with hk | ⟨hk, hle⟩
  · rw [List.drop_eq_nil_of_le hk]; simp
  · rw [getD_at hi, getD_at hk] at hle
    rw [List.drop_eq_getElem_cons hk, List.cons_merge_cons, if_pos hle]
    rfl
theorem Mg.right {le : Nat → Nat → Bool} {x y : List Nat} {i k : Nat} {acc : List Nat} (h : Mg le x y i k acc) (hk : k < y.length) (hi : x.length ≤ i ∨ (i < x.length ∧ le (x.getD i 0) (y.getD k 0) = false)) : Mg le x y i (k + 1) (acc ++ [y.getD k 0]) := by
  refine ⟨?_, by rw [List.length_append, h.len]; simp; omega⟩
  rw [← h.eq, List.append_assoc]
  congr 1
  conv => rhs; rw [List.drop_eq_getElem_cons hk]
  rw [getD_at hk]
  rcases hi with hi | ⟨hi, hle⟩
  · rw [List.drop_eq_nil_of_le hi]; simp
  · rw [getD_at hi, getD_at hk] at hle
    rw [List.drop_eq_getElem_cons hi, List.cons_merge_cons, if_neg (by rw [hle]; decide)]
    rfl
theorem Mg.done {le : Nat → Nat → Bool} {x y : List Nat} {i k : Nat} {acc : List Nat} (h : Mg le x y i k acc) (hi : x.length ≤ i) (hk : y.length ≤ k) : acc = List.merge x y le := by
  rw [← h.eq, List.drop_eq_nil_of_le hi, List.drop_eq_nil_of_le hk]; simp
theorem make0_int (c : Nat) (hc : c ≤ 1099511627776) (w : World) :
    (Instr.makeSlice 23 (.int .i64 0) (.int .i64 (c : Int))).run Tryz.prog w = .ok (.slice (some ⟨w.heap.size, 0, none⟩) 0 c) (w.alloc (.cells (I (List.replicate c 0)) 3)) := by
  obtain ⟨i0, hi, hz0, hz1, hz2⟩ := info_parts info_int
  have h := run_make (P := Tryz.prog) w 23 3 i0 (.int .i64 0) Tryz.underlying23 hi hz0 .i64 .i64 0 (c : Int) (by omega) (by omega) (by rw [hz2]; omega) (by omega)
  rw [h]
  have e : madeCells (Value.int .i64 0).cells (c * i0.size) = I (List.replicate c 0) := by
    rw [hz1, Nat.mul_one, madeCells_one _ rfl]
    simp [I]
  simp only [Int.toNat_natCast]
  rw [e]
  rfl
theorem NI_append (a b : List Nat) : NI (a ++ b) = NI a ++ NI b := by simp [NI]
/-- a part of a slice of numbers -/
theorem sl_cutN {w : World} {b off : Nat} {t : List Nat} (h : Sl w (some ⟨b, off, none⟩) (VI (NI t))) (f k : Nat) : Sl w (some ⟨b, off + f, none⟩) (VI (NI ((t.drop f).take k))) :=
  ⟨fun e => (by cases e), fun a ha j u hu => by
    cases ha
    have hj : j < k ∧ f + j < t.length := by
      rcases Nat.lt_or_ge j ((t.drop f).take k).length with h1 | h1
      · rw [List.length_take, List.length_drop] at h1; omega
      · rw [List.getElem?_eq_none (by rw [VI_length, NI_length]; exact h1)] at hu; cases hu
    have h1 := h.cell _ rfl (f + j) _ (VI_get (NI t) (f + j) (by rw [NI_length]; exact hj.2))
    rw [show (⟨b, off, none⟩ : Addr).add (f + j) = ⟨b, off + f + j, none⟩ by unfold Addr.add; split <;> simp_all; omega] at h1
    rw [show (⟨b, off + f, none⟩ : Addr).add j = ⟨b, off + f + j, none⟩ by unfold Addr.add; split <;> simp_all, h1, ← hu]
    have hl : j < ((t.drop f).take k).length := by rw [List.length_take, List.length_drop]; omega
    rw [VI_get _ j (by rw [NI_length]; exact hl), NI_getD _ _ hj.2, NI_getD _ _ hl]
    simp only [List.getD]
    rw [List.getElem?_take, if_pos hj.1, List.getElem?_drop]⟩
theorem sl_cellN {w : World} {b off : Nat} {t : List Nat} (h : Sl w (some ⟨b, off, none⟩) (VI (NI t))) {i : Nat} (hi : i < t.length) : w.cell? ⟨b, off + i, none⟩ = some (.int .i64 ((t.getD i 0 : Nat) : Int)) := by
  have := h.cell _ rfl i _ (VI_get (NI t) i (by rw [NI_length]; exact hi))
  rwa [NI_getD _ _ hi, show (⟨b, off, none⟩ : Addr).add i = ⟨b, off + i, none⟩ by unfold Addr.add; split <;> simp_all] at this
theorem app_new {w : World} {base : Nat} (hb : base ≤ w.heap.size) : (w.alloc (.cells #[] 3)).ownsRow base 3 1 (.slice (some ⟨w.heap.size, 0, none⟩) 0 0) ([] : List Int).length (VI []) := World.ownsRow_made w #[] 0 hb (by decide) (by simp)
theorem own_cap {w : World} {base : Nat} {e : TypeId} {A : Option Addr} {m c n : Nat} {xs : List Value} (h : w.ownsRow base e 1 (.slice A m c) n xs) : n ≤ c ∧ (A = none → c = 0) := by
  rcases h.2 with ⟨e1, rfl⟩ | ⟨g, cap, cur, e1, _, _, hn, _⟩
  · injection e1 with h1 h2 h3
    exact ⟨by omega, fun _ => h3⟩
  · injection e1 with h1 h2 h3
    exact ⟨by omega, fun e => by rw [e] at h1; cases h1⟩
theorem below_sz {w w' : World} (h : Below w.heap.size w w') : Below w.heap.size w w' := h
set_option maxHeartbeats 8000000 in
theorem sort5_any {n rb c0 : Nat} {R : List Nat} (step : Nat) (hl : R.length = n) (hn : n ≤ 65536) (hs : step ≤ 131072) :
    ∀ (m : Nat) (l : List Nat) (A : Option Addr) (c : Nat) (w : World), l.length = m → m ≤ c → m ≤ 65536 → (A = none → c = 0) → Sl w A (VI (NI l)) → (∀ x ∈ l, x < n) → IB w rb (NI R) →
    Calls Tryz.prog 89 #[.slice A m c, .slice (some ⟨rb, 0, none⟩) n c0, .int .i64 (step : Int)] w
      fun e w' => ∃ A' c' sb, e = .returned (.slice A' m c') ∧ m ≤ c' ∧ (A' = none → c' = 0) ∧ sb.Perm l ∧ (sb.Pairwise fun a b => kle (rkey R step a) (rkey R step b)) ∧ Sl w' A' (VI (NI sb)) ∧ Below w.heap.size w w' := by
  intro m
  induction m using Nat.strongRecOn with
  | ind m ih =>
  intro l A c w hlm hmc hm hnil hS hlt hR
  by_cases h2 : m < 2
  · have h2i : (m : Int) < 2 := by omega
    go_enter Tryz.func89, Tryz.ntmps89
    go_wp2_with fail
    go_ret
    refine ⟨A, c, l, rfl, hmc, hnil, List.Perm.refl _, ?_, hS, Below.refl _ _⟩
    match l, hlm with
    | [], _ => exact List.Pairwise.nil
    | [a], _ => exact List.pairwise_singleton _ _
    | _ :: _ :: _, h => simp at h; omega
  · obtain ⟨b, off, rfl, _⟩ := hS.lit (j := 0) (by rw [VI_length, NI_length]; omega)
    have h2i : ¬ (m : Int) < 2 := by omega
    obtain ⟨h, hh⟩ : ∃ h, m / 2 = h := ⟨_, rfl⟩
    have q1 : ((m : Int)).tdiv 2 = (h : Int) := by rw [Int.tdiv_eq_ediv_of_nonneg (by omega)]; omega
    have q2 : ((m : Int)) / 2 = (h : Int) := by omega
    have h1 : 1 ≤ h := by omega
    have hhm : h < m := by omega
    have hhc : h ≤ c := by omega
    have z1 : (c == h) = false := by rw [beq_eq_false_iff_ne]; omega
    have IHx := Lib.hid (ih h hhm (l.take h))
    have IHy := Lib.hid (ih (m - h) (by omega) (l.drop h))
    have hx0 : l.take h = (l.drop 0).take h := by simp
    have hsx := sl_cutN hS 0 h
    rw [← hx0, Nat.add_zero] at hsx
    have hsy := sl_cutN hS h (m - h)
    rw [List.take_of_length_le (by rw [List.length_drop]; omega)] at hsy
    have hlx : (l.take h).length = h := by rw [List.length_take]; omega
    have hly : (l.drop h).length = m - h := by rw [List.length_drop]; omega
    have hltx : ∀ x ∈ l.take h, x < n := fun x hx => hlt x (List.mem_of_mem_take hx)
    have hlty : ∀ x ∈ l.drop h, x < n := fun x hx => hlt x (List.mem_of_mem_drop hx)
    have hpl : (l.take h ++ l.drop h).Perm l := by rw [List.take_append_drop]
    have HSX := Lib.hid hsx
    have HSY := Lib.hid hsy
    have HLX := Lib.hid hlx
    have HLY := Lib.hid hly
    have HTX := Lib.hid hltx
    have HTY := Lib.hid hlty
    have HPL := Lib.hid hpl
    have HR := Lib.hid hR
    have Hh := Lib.hid hh
    clear hS hsx hsy hx0 hlx hly hltx hlty hpl hlt hR ih hh hlm hnil
    generalize l.take h = lx at *
    generalize l.drop h = ly at *
    obtain ⟨h', hh'⟩ : ∃ h', m - h = h' := ⟨_, rfl⟩
    rw [hh'] at IHy HLY
    have hbl := World.block_lt_of_cell? w _ ((HSX.out.cell _ rfl 0 _ (VI_get (NI lx) 0 (by rw [NI_length, HLX.out]; omega))))
    go_enter Tryz.func89, Tryz.ntmps89
    go_wp2_with (at_builtin; refine app_int rfl _ _ rfl w.heap.size _ [] rfl (app_new (Nat.le_refl _)) (some ⟨b, off, none⟩) h c (NI lx) rfl (fun h => by cases h) (by rw [NI_length]; exact HLX.out) (HSX.out.below ((Below.refl _ w).alloc (Nat.le_refl _) _)) (by simp; omega) (by simp) ?_; intro v1 w1 hown1 hgrow1 _)
    have hB1 : Below w.heap.size w w1 := ((Below.refl _ w).alloc (Nat.le_refl _) _).grown hgrow1 (by simp) (fun k hk => by have : some w.heap.size = some k := hk; injection this; omega)
    rw [List.nil_append] at hown1
    obtain ⟨A1, c1, rfl, hS1, hl1, hA1⟩ := own_sl hown1
    have hcc1 := own_cap hown1
    rw [NI_length, HLX.out] at hcc1
    have HC1 := Lib.hid (IHx.out A1 c1 w1 HLX.out hcc1.1 (by omega) hcc1.2 hS1 HTX.out (HR.out.below hB1))
    rw [NI_length, HLX.out]
    have HB1 := Lib.hid hB1
    clear hown1 hgrow1 hB1 hS1 hl1 hA1 hcc1 IHx
    go_wp2_with fail
    go_at_call 89
    refine HC1.out.mono ?_
    rintro e w2 ⟨A2, c2, sx, rfl, hcx, hnx, hpx, hsx, hS2, hB2⟩
    have HB2 := Lib.hid (below_step HB1.out hB2)
    have HPX := Lib.hid hpx
    have HSXs := Lib.hid hsx
    have HS2 := Lib.hid hS2
    have hs2 := HB2.out.size
    clear hpx hsx hS2 hB2 HC1 HB1 hcx
    go_wp2_with (at_builtin; refine app_int rfl _ _ rfl w2.heap.size _ [] rfl (app_new (Nat.le_refl _)) (some ⟨b, off + h, none⟩) h' (c - h) (NI ly) rfl (fun h => by cases h) (by rw [NI_length]; exact HLY.out) ((HSY.out.below HB2.out).below ((Below.refl _ w2).alloc (Nat.le_refl _) _)) (by simp; omega) (by simp) ?_; intro v3 w3 hown3 hgrow3 _)
    have hB3 : Below w2.heap.size w2 w3 := ((Below.refl _ w2).alloc (Nat.le_refl _) _).grown hgrow3 (by simp) (fun k hk => by have : some w2.heap.size = some k := hk; injection this; omega)
    rw [List.nil_append] at hown3
    obtain ⟨A3, c3, rfl, hS3, hl3, hA3⟩ := own_sl hown3
    have hcc3 := own_cap hown3
    rw [NI_length, HLY.out] at hcc3
    have HC3 := Lib.hid (IHy.out A3 c3 w3 HLY.out hcc3.1 (by omega) hcc3.2 hS3 HTY.out (HR.out.below (below_step HB2.out hB3)))
    rw [NI_length, HLY.out]
    have HB3 := Lib.hid (below_step HB2.out hB3)
    have HS2' := Lib.hid (HS2.out.below hB3)
    clear hown3 hgrow3 hB3 hS3 hl3 hA3 hcc3 IHy HB2 HS2
    go_wp2_with fail
    go_at_call 89
    refine HC3.out.mono ?_
    rintro e w4 ⟨A4, c4, sy, rfl, hcy, hny, hpy, hsy, hS4, hB4⟩
    have HB4 := Lib.hid (below_step HB3.out hB4)
    have HPY := Lib.hid hpy
    have HSYs := Lib.hid hsy
    have HS4 := Lib.hid hS4
    have HS2 := Lib.hid (HS2'.out.below hB4)
    have hs4 := HB4.out.size
    clear hpy hsy hS4 hB4 HC3 HB3 hcy HS2'
    have hmk := make0_int m (by omega) w4
    obtain ⟨b2, o2, rfl, _⟩ := HS2.out.lit (j := 0) (by rw [VI_length, NI_length, HPX.out.length_eq, HLX.out]; omega)
    obtain ⟨b4, o4, rfl, _⟩ := HS4.out.lit (j := 0) (by rw [VI_length, NI_length, HPY.out.length_eq, HLY.out]; omega)
    have hlx2 : sx.length = h := by rw [HPX.out.length_eq]; exact HLX.out
    have hly2 : sy.length = h' := by rw [HPY.out.length_eq]; exact HLY.out
    have HLX2 := Lib.hid hlx2
    have HLY2 := Lib.hid hly2
    have hsum : h + h' = m := by omega
    clear hlx2 hly2
    go_wp2_with fail
    clear hmk
    have hO : (w4.alloc (.cells (I (List.replicate m 0)) 3)).ownsRow w4.heap.size 3 1 (.slice (some ⟨w4.heap.size, 0, none⟩) 0 m) (NI []).length (VI (NI [])) := World.ownsRow_made w4 _ m (Nat.le_refl _) (by unfold maxLen; omega) (by simp [I])
    go_loopw [9, 10, 11] (fun v s10 s11 wr => ∃ (i k : Nat) (acc : List Nat), i ≤ h ∧ k ≤ h' ∧ s10 = .int .i64 (i : Int) ∧ s11 = .int .i64 (k : Int) ∧ wr.ownsRow w4.heap.size 3 1 v (NI acc).length (VI (NI acc)) ∧ Hid (Mg (le5 R step) sx sy i k acc) ∧ Below w4.heap.size w4 wr) (fun _ s10 s11 _ => m - (intOf s10).toNat - (intOf s11).toNat)
    case atStart => exact ⟨0, 0, [], Nat.zero_le _, Nat.zero_le _, rfl, rfl, hO, Lib.hid (Mg.start ..), (Below.refl _ _).alloc (Nat.le_refl _) _⟩
    case round =>
      clear hO
      obtain ⟨i, k, acc, hi, hk, rfl, rfl, hown, HM, hB⟩ := hrel
      obtain ⟨A9, c9, hv9, _, _, _⟩ := own_sl hown
      subst hv9
      have Hal := Lib.hid (show acc.length ≤ 65536 by rw [HM.out.len]; omega)
      have Hown := Lib.hid hown
      have HB := Lib.hid hB
      clear hown hB
      have hca := fun (hi : i < h) => sl_cellN (HS2.out.below HB.out) (i := i) (by rw [HLX2.out]; exact hi)
      have hcb := fun (hk : k < h') => sl_cellN (HS4.out.below HB.out) (i := k) (by rw [HLY2.out]; exact hk)
      by_cases hih : i < h
      · have hca := hca hih
        by_cases hkh : k < h'
        · have hcb := hcb hkh
          have j1 : (i : Int) < (h : Int) := by omega
          have j2 : decide ((h' : Int) ≤ (k : Int)) = false := decide_eq_false (by omega)
          have j3 : decide ((i : Int) < (h : Int)) = true := decide_eq_true (by omega)
          have j2n : decide (h' ≤ k) = false := decide_eq_false (by omega)
          have j1n : decide (i < h) = true := decide_eq_true (by omega)
          have j4 : (k : Int) < (h' : Int) := by omega
          have j5 : (0 : Int) ≤ (i : Int) := by omega
          have j6 : (0 : Int) ≤ (k : Int) := by omega
          have hxn : sx.getD i 0 < n := HTX.out _ (HPX.out.mem_iff.1 (by rw [getD_at (by rw [HLX2.out]; exact hih)]; exact List.getElem_mem _))
          have hyn : sy.getD k 0 < n := HTY.out _ (HPY.out.mem_iff.1 (by rw [getD_at (by rw [HLY2.out]; exact hkh)]; exact List.getElem_mem _))
          have hle : le5 R step (sx.getD i 0) (sy.getD k 0) = !decide (klt (rkey R step (sy.getD k 0)) (rkey R step (sx.getD i 0))) := rfl
          have HBF := Lib.hid (fun q => before5_any (w := wr.drewN q) (rb := rb) (c := c0) step (sy.getD k 0) (sx.getD i 0) ((HR.out.below HB4.out).below ((below_sz HB.out).trans (below_drewN _ _ q))) hl hyn hxn hn hs)
          cases hd : decide (klt (rkey R step (sy.getD k 0)) (rkey R step (sx.getD i 0))) with
          | false =>
            have HM7 := Lib.hid (HM.out.left (by rw [HLX2.out]; exact hih) (.inr ⟨by rw [HLY2.out]; exact hkh, by rw [hle, hd]; rfl⟩))
            rw [hd] at HBF
            clear hle hd
            obtain ⟨xa, hxa⟩ : ∃ x, sx.getD i 0 = x := ⟨_, rfl⟩
            obtain ⟨ya, hya⟩ : ∃ x, sy.getD k 0 = x := ⟨_, rfl⟩
            rw [hxa] at hca HBF
            rw [hya] at hcb HBF
            clear hxn hyn hxa hya hih hkh
            go_wp2_with fail
            go_quiet ((go_at_call 90; exact Calls.quiet_of (HBF.out _)))
            clear HBF hca hcb
            obtain ⟨w9, hw9⟩ : ∃ w9, wr.drewN nq = w9 := ⟨_, rfl⟩
            have hB9 : Below w4.heap.size w4 w9 := by rw [← hw9]; exact HB.out.trans (below_drewN _ _ _)
            have hown9 := own_below Hown.out (below_drewN wr.heap.size wr nq)
            rw [hw9] at hown9 ⊢
            clear hw9
            have hcx := sl_cellN (HS2.out.below hB9) (i := i) (by first | (rw [HLX2.out]; omega) | (rw [HLY2.out]; omega))
            clear hca hcb
            generalize sx.getD i 0 = xv at *
            have hs9 := hB9.size
            have hal := Hal.out
            go_wp2_with (at_builtin; refine app_int rfl _ _ rfl w4.heap.size _ (NI acc) rfl (World.ownsRow.alloc hown9 _) (some ⟨w9.heap.size, 0, none⟩) 1 1 [(xv : Int)] rfl (fun h => by cases h) rfl (sl_blk (heap_alloc_new w9 _)) (by rw [NI_length]; omega) (by simp; omega) ?_; intro v7 w7 hown7 hg7 _)
            have hB7 : Below w4.heap.size w4 w7 := (hB9.alloc hB9.size _).grown hg7 (by simp; omega) (fun k hk => (World.ownsRow.lt hown9 k hk).1)
            have e7 : NI acc ++ [(xv : Int)] = NI (acc ++ [xv]) := by simp [NI]
            rw [e7] at hown7
            go_roundw
            case rel => exact ⟨i + 1, k, acc ++ [xv], by omega, hk, by go_num, rfl, hown7, HM7, hB7⟩
            case measure =>
              show m - ((i : Int) + 1).toNat - ((k : Int)).toNat < m - ((i : Int)).toNat - ((k : Int)).toNat
              omega
          | true =>
            have HM7 := Lib.hid (HM.out.right (by rw [HLY2.out]; exact hkh) (.inr ⟨by rw [HLX2.out]; exact hih, by rw [hle, hd]; rfl⟩))
            rw [hd] at HBF
            clear hle hd
            obtain ⟨xa, hxa⟩ : ∃ x, sx.getD i 0 = x := ⟨_, rfl⟩
            obtain ⟨ya, hya⟩ : ∃ x, sy.getD k 0 = x := ⟨_, rfl⟩
            rw [hxa] at hca HBF
            rw [hya] at hcb HBF
            clear hxn hyn hxa hya hih hkh
            go_wp2_with fail
            go_quiet ((go_at_call 90; exact Calls.quiet_of (HBF.out _)))
            clear HBF hca hcb
            obtain ⟨w9, hw9⟩ : ∃ w9, wr.drewN nq = w9 := ⟨_, rfl⟩
            have hB9 : Below w4.heap.size w4 w9 := by rw [← hw9]; exact HB.out.trans (below_drewN _ _ _)
            have hown9 := own_below Hown.out (below_drewN wr.heap.size wr nq)
            rw [hw9] at hown9 ⊢
            clear hw9
            have hcx := sl_cellN (HS4.out.below hB9) (i := k) (by first | (rw [HLX2.out]; omega) | (rw [HLY2.out]; omega))
            clear hca hcb
            generalize sy.getD k 0 = xv at *
            have hs9 := hB9.size
            have hal := Hal.out
            go_wp2_with (at_builtin; refine app_int rfl _ _ rfl w4.heap.size _ (NI acc) rfl (World.ownsRow.alloc hown9 _) (some ⟨w9.heap.size, 0, none⟩) 1 1 [(xv : Int)] rfl (fun h => by cases h) rfl (sl_blk (heap_alloc_new w9 _)) (by rw [NI_length]; omega) (by simp; omega) ?_; intro v7 w7 hown7 hg7 _)
            have hB7 : Below w4.heap.size w4 w7 := (hB9.alloc hB9.size _).grown hg7 (by simp; omega) (fun k hk => (World.ownsRow.lt hown9 k hk).1)
            have e7 : NI acc ++ [(xv : Int)] = NI (acc ++ [xv]) := by simp [NI]
            rw [e7] at hown7
            go_roundw
            case rel => exact ⟨i, k + 1, acc ++ [xv], hi, by omega, rfl, by go_num, hown7, HM7, hB7⟩
            case measure =>
              show m - ((i : Int)).toNat - ((k : Int) + 1).toNat < m - ((i : Int)).toNat - ((k : Int)).toNat
              omega
        · have j1 : (i : Int) < (h : Int) := by omega
          have j2 : (h' : Int) ≤ (k : Int) := by omega
          have j2' : decide ((h' : Int) ≤ (k : Int)) = true := decide_eq_true j2
          have HM7 := Lib.hid (HM.out.left (by rw [HLX2.out]; exact hih) (.inl (by rw [HLY2.out]; omega)))
          have j5 : (0 : Int) ≤ (i : Int) := by omega
          go_wp2_with fail
          go_quiet (fail)
          obtain ⟨w9, hw9⟩ : ∃ w9, wr.drewN nq = w9 := ⟨_, rfl⟩
          have hB9 : Below w4.heap.size w4 w9 := by rw [← hw9]; exact HB.out.trans (below_drewN _ _ _)
          have hown9 := own_below Hown.out (below_drewN wr.heap.size wr nq)
          rw [hw9] at hown9 ⊢
          clear hw9
          have hcx := sl_cellN (HS2.out.below hB9) (i := i) (by first | (rw [HLX2.out]; omega) | (rw [HLY2.out]; omega))
          clear hca hcb
          generalize sx.getD i 0 = xv at *
          have hs9 := hB9.size
          have hal := Hal.out
          go_wp2_with (at_builtin; refine app_int rfl _ _ rfl w4.heap.size _ (NI acc) rfl (World.ownsRow.alloc hown9 _) (some ⟨w9.heap.size, 0, none⟩) 1 1 [(xv : Int)] rfl (fun h => by cases h) rfl (sl_blk (heap_alloc_new w9 _)) (by rw [NI_length]; omega) (by simp; omega) ?_; intro v7 w7 hown7 hg7 _)
          have hB7 : Below w4.heap.size w4 w7 := (hB9.alloc hB9.size _).grown hg7 (by simp; omega) (fun k hk => (World.ownsRow.lt hown9 k hk).1)
          have e7 : NI acc ++ [(xv : Int)] = NI (acc ++ [xv]) := by simp [NI]
          rw [e7] at hown7
          go_roundw
          case rel => exact ⟨i + 1, k, acc ++ [xv], by omega, hk, by go_num, rfl, hown7, HM7, hB7⟩
          case measure =>
            show m - ((i : Int) + 1).toNat - ((k : Int)).toNat < m - ((i : Int)).toNat - ((k : Int)).toNat
            omega
      · by_cases hkh : k < h'
        · have hcb := hcb hkh
          have j1 : decide ((i : Int) < (h : Int)) = false := decide_eq_false (by omega)
          have j1' : ¬ (i : Int) < (h : Int) := by omega
          have j2n : decide (h' ≤ k) = false := decide_eq_false (by omega)
          have j1n : decide (i < h) = false := decide_eq_false (by omega)
          have j2 : decide ((h' : Int) ≤ (k : Int)) = false := decide_eq_false (by omega)
          have j4 : (k : Int) < (h' : Int) := by omega
          have j6 : (0 : Int) ≤ (k : Int) := by omega
          have HM7 := Lib.hid (HM.out.right (by rw [HLY2.out]; exact hkh) (.inl (by rw [HLX2.out]; omega)))
          go_wp2_with fail
          go_quiet (fail)
          obtain ⟨w9, hw9⟩ : ∃ w9, wr.drewN nq = w9 := ⟨_, rfl⟩
          have hB9 : Below w4.heap.size w4 w9 := by rw [← hw9]; exact HB.out.trans (below_drewN _ _ _)
          have hown9 := own_below Hown.out (below_drewN wr.heap.size wr nq)
          rw [hw9] at hown9 ⊢
          clear hw9
          have hcx := sl_cellN (HS4.out.below hB9) (i := k) (by first | (rw [HLX2.out]; omega) | (rw [HLY2.out]; omega))
          clear hca hcb
          generalize sy.getD k 0 = xv at *
          have hs9 := hB9.size
          have hal := Hal.out
          go_wp2_with (at_builtin; refine app_int rfl _ _ rfl w4.heap.size _ (NI acc) rfl (World.ownsRow.alloc hown9 _) (some ⟨w9.heap.size, 0, none⟩) 1 1 [(xv : Int)] rfl (fun h => by cases h) rfl (sl_blk (heap_alloc_new w9 _)) (by rw [NI_length]; omega) (by simp; omega) ?_; intro v7 w7 hown7 hg7 _)
          have hB7 : Below w4.heap.size w4 w7 := (hB9.alloc hB9.size _).grown hg7 (by simp; omega) (fun k hk => (World.ownsRow.lt hown9 k hk).1)
          have e7 : NI acc ++ [(xv : Int)] = NI (acc ++ [xv]) := by simp [NI]
          rw [e7] at hown7
          go_roundw
          case rel => exact ⟨i, k + 1, acc ++ [xv], hi, by omega, rfl, by go_num, hown7, HM7, hB7⟩
          case measure =>
            show m - ((i : Int)).toNat - ((k : Int) + 1).toNat < m - ((i : Int)).toNat - ((k : Int)).toNat
            omega
        · obtain rfl : i = h := by omega
          obtain rfl : k = h' := by omega
          have hacc := HM.out.done (by rw [HLX2.out]; exact Nat.le_refl _) (by rw [HLY2.out]; exact Nat.le_refl _)
          have Hlen := Lib.hid HM.out.len
          have hown' := Hown.out
          clear hca hcb
          go_wp2_with fail
          go_ret
          obtain ⟨A, c, hv, hS, _, _⟩ := own_sl hown'
          have hcc := own_cap hown'
          injection hv with v1 v2 v3
          subst v1
          have hlen := Hlen.out
          rw [NI_length] at hcc ⊢
          refine ⟨_, _, acc, by rw [hlen, hsum]; rfl, by omega, hcc.2, ?_, ?_, hS, below_step HB4.out HB.out⟩
          · rw [hacc]
            exact (List.merge_perm_append (le5 R step)).trans ((HPX.out.append HPY.out).trans HPL.out)
          · rw [hacc]; exact mrg_sorted R step sx sy HSXs.out HSYs.out
end Go.Proofs.YtfjhcgmaignaoaaGreat
