/- The law FmParts, walked. -/
import Derived.Test.YtfjhcgmaignaoaaFmLawE
namespace Go.Proofs.Ytfjhcgmaignaoaa
set_option linter.unusedVariables false
set_option linter.unusedSimpArgs false
set_option maxRecDepth 100000
open Go.RowKit Fm Rank

theorem and_mask (x : Int) : ∃ m : Nat, m < 65536 ∧ bits .and .i64 x 65535 = (m : Int) := by
  have h := i64_mask x 16 (by omega)
  refine ⟨_, ?_, h⟩
  exact Nat.mod_lt _ (by decide)
/-- a part of a slice of bytes -/
theorem sl_part {w : World} {b off : Nat} {t : List Nat} (h : Sl w (some ⟨b, off, none⟩) (VY t)) (f k : Nat) : Sl w (some ⟨b, off + f, none⟩) (VY ((t.drop f).take k)) :=
  ⟨fun e => (by cases e), fun a ha j u hu => by
    cases ha
    have hj : j < k ∧ f + j < t.length := by
      rcases Nat.lt_or_ge j ((t.drop f).take k).length with h1 | h1
      · rw [List.length_take, List.length_drop] at h1; omega
      · rw [List.getElem?_eq_none (by rw [VY_length]; exact h1)] at hu; cases hu
    have h1 := h.cell _ rfl (f + j) _ (VY_get t (f + j) hj.2)
    rw [show (⟨b, off, none⟩ : Addr).add (f + j) = ⟨b, off + f + j, none⟩ by unfold Addr.add; split <;> simp_all; omega] at h1
    rw [show (⟨b, off + f, none⟩ : Addr).add j = ⟨b, off + f + j, none⟩ by unfold Addr.add; split <;> simp_all, h1, ← hu]
    have hl : j < ((t.drop f).take k).length := by rw [List.length_take, List.length_drop]; omega
    rw [VY_get _ j hl]
    simp only [List.getD]
    rw [List.getElem?_take, if_pos hj.1, List.getElem?_drop]⟩
theorem kqDN {w2 : World} {a1 a2 a3 : Addr} {v1 v2 v3 : Value} (h1 : w2.cell? a1 = some v1) (h2 : w2.cell? a2 = some v2) (h3 : w2.cell? a3 = some v3) (q : Nat) : (w2.drewN q).cell? a1 = some v1 ∧ (w2.drewN q).cell? a2 = some v2 ∧ (w2.drewN q).cell? a3 = some v3 ∧ Below w2.heap.size w2 (w2.drewN q) := ⟨h1, h2, h3, below_drewN _ _ _⟩
theorem kqN {w2 W : World} {a1 a2 a3 : Addr} {v1 v2 v3 : Value} (h : W.cell? a1 = some v1 ∧ W.cell? a2 = some v2 ∧ W.cell? a3 = some v3 ∧ Below w2.heap.size w2 W) (q : Nat) : (W.drewN q).cell? a1 = some v1 ∧ (W.drewN q).cell? a2 = some v2 ∧ (W.drewN q).cell? a3 = some v3 ∧ Below w2.heap.size w2 (W.drewN q) := ⟨h.1, h.2.1, h.2.2.1, h.2.2.2.trans (below_drewN _ W q)⟩
/-- a part of a text stands in the text -/
theorem part_in {ts : List (List Nat)} {d f k : Nat} (hd : d < ts.length) (hfk : f + k ≤ (ts.getD d []).length) (hk : 1 ≤ k) : ((ts.getD d []).drop f).take k ≠ [] ∧ (((ts.getD d []).drop f).take k).length = k ∧ (d, f) ∈ found ts (((ts.getD d []).drop f).take k) := by
  have hl : (((ts.getD d []).drop f).take k).length = k := by rw [List.length_take, List.length_drop]; omega
  have hne : ((ts.getD d []).drop f).take k ≠ [] := fun e => by rw [e] at hl; simp at hl; omega
  refine ⟨hne, hl, (found_in hne).2 ⟨hd, ?_, List.take_prefix _ _⟩⟩
  show f < (ts.getD d []).length
  omega
theorem found_part {ts : List (List Nat)} {P : List Nat} (hP : P ≠ []) {x : Nat × Nat} (hm : x ∈ found ts P) : x.1 < ts.length ∧ x.2 + P.length ≤ (ts.getD x.1 []).length ∧ ((ts.getD x.1 []).drop x.2).take P.length = P := by
  rw [found_in hP] at hm
  obtain ⟨h1, h2, h3⟩ := hm
  refine ⟨h1, ?_, (List.prefix_iff_eq_take.1 h3).symm⟩
  have := h3.length_le
  rw [List.length_drop] at this
  omega
theorem take_in {l : List (Nat × Nat)} {i : Nat} (hi : i < l.length) {x : Nat × Nat} : x ∈ l.take (i + 1) ↔ x ∈ l.take i ∨ l.getD i (0, 0) = x := by
  rw [List.take_succ_eq_append_getElem hi, List.mem_append, List.mem_singleton, getD_pair hi]
  exact ⟨fun h => h.imp id Eq.symm, fun h => h.imp id Eq.symm⟩
theorem ext_part {w : World} {base x : Nat} {ts : List (List Nat)} {sa : List Nat} (h : IdxM w base x (rowT ts) sa) (hlt : ∀ t ∈ ts, ∀ b ∈ t, b < 256) {P : List Nat} {k x1 x2 : Nat} (hP : P.length = k) (hk : 1 ≤ k) (h1 : x1 < ts.length) (h2 : x2 + k ≤ (ts.getD x1 []).length) (h3 : ((ts.getD x1 []).drop x2).take k = P) :
    Calls Try.prog 16 #[.pointer (some ⟨x, 0, none⟩), .int .i64 (x1 : Int), .int .i64 (x2 : Int), .int .i64 (k : Int)] w fun e w' => ∃ A c, e = .returned (.slice A k c) ∧ Sl w' A (VY P) ∧ Below w.heap.size w w' := by
  refine (extract_in h hlt x1 x2 k (k : Int) h1 (by omega) (by omega) (by omega)).mono ?_
  rintro e w' ⟨g, he, hg, hb, hB⟩
  rw [h3] at he hb
  rw [hP] at he
  exact ⟨_, _, he, sl_blk hb, hB⟩
theorem w64_sub (L f Lf : Nat) (hf : f ≤ L) (hL : L ≤ 800) (e : L - f = Lf) : Go.RowKit.wrap64 ((L : Int) - (f : Int)) = (Lf : Int) := by unfold Go.RowKit.wrap64; omega
theorem w64_one (r k : Nat) (h : r ≤ 800) (e : 1 + r = k) : Go.RowKit.wrap64 (1 + (r : Int)) = (k : Int) := by unfold Go.RowKit.wrap64; omega
theorem wr_two (r f : Nat) (h : r + f ≤ 100000) : IntKind.i64.wrap ((r : Int) + (f : Int)) = (r : Int) + (f : Int) := by rw [IntWalk.i64_in _ (by omega)]
theorem tm_nat (a b c : Nat) (h : a % b = c) : ((a : Int)).tmod (b : Int) = (c : Int) ∧ ((a : Int)) % (b : Int) = (c : Int) := by
  rw [Int.tmod_eq_emod_of_nonneg (by omega)]
  omega
theorem parts_nums (L m2 m3 C : Nat) (hL : 0 < L) (hL8 : L ≤ 800) (hC : L ≤ C) : ∃ f Lf r k : Nat, (((m2 : Int)).tmod (L : Int) = (f : Int) ∧ ((m2 : Int)) % (L : Int) = (f : Int)) ∧ (((m3 : Int)).tmod (Lf : Int) = (r : Int) ∧ ((m3 : Int)) % (Lf : Int) = (r : Int)) ∧ Go.RowKit.wrap64 ((L : Int) - (f : Int)) = (Lf : Int) ∧ ((1 + (r : Int)) = (k : Int) ∧ r ≤ 800) ∧ ((Lf : Int) == 0) = false ∧ f < L ∧ 0 < Lf ∧ f + k ≤ L ∧ 1 ≤ k ∧ IntKind.i64.wrap ((f : Int) + (k : Int)) = (f : Int) + (k : Int) ∧ (f : Int) + (k : Int) ≤ (C : Int) ∧ ((m3 : Int)).tmod ((L : Int) - (f : Int)) = (r : Int) ∧ ((m3 : Int)) % ((L : Int) - (f : Int)) = (r : Int) := by
  have hf : m2 % L < L := Nat.mod_lt _ hL
  obtain ⟨f, hf1⟩ : ∃ f, m2 % L = f := ⟨_, rfl⟩
  have a1 := tm_nat m2 L f hf1
  rw [hf1] at hf
  clear hf1
  obtain ⟨Lf, h2⟩ : ∃ Lf, L - f = Lf := ⟨_, rfl⟩
  have hLp : 0 < Lf := by clear a1; omega
  have hr : m3 % Lf < Lf := Nat.mod_lt _ hLp
  obtain ⟨r, hr1⟩ : ∃ r, m3 % Lf = r := ⟨_, rfl⟩
  have a2 := tm_nat m3 Lf r hr1
  rw [hr1] at hr
  clear hr1
  have e9 : (L : Int) - (f : Int) = (Lf : Int) := by clear a1 a2; omega
  refine ⟨f, Lf, r, 1 + r, a1, a2, w64_sub L f Lf (by clear a1 a2; omega) hL8 h2, ⟨by clear a1 a2; omega, by clear a1 a2; omega⟩, ?_, hf, hLp, by clear a1 a2; omega, by clear a1 a2; omega, wr_two f (1 + r) (by clear a1 a2; omega), by clear a1 a2; omega, by rw [e9]; exact a2.1, by rw [e9]; exact a2.2⟩
  rw [beq_eq_false_iff_ne]
  clear a1 a2
  omega
set_option maxHeartbeats 8000000 in
theorem lawParts (A : Option Addr) (n c : Nat) (ts : List (List Nat)) (doc frm num : Int) (w : World) (hA : RArg w A n c ts) :
    Calls Try.prog 6 #[.slice A n c, .int .i64 doc, .int .i64 frm, .int .i64 num] w (TrueBelow w) := by
  have HH := Lib.hid (heavy_any w A n c ts hA)
  have hnm := hA.nm
  have HA := Lib.hid hA
  have Hl := Lib.hid hA.len
  have HK := Lib.hid (fun w => known_any w)
  obtain ⟨m1, hm1, hb1⟩ := and_mask doc
  obtain ⟨m2, hm2, hb2⟩ := and_mask frm
  obtain ⟨m3, hm3, hb3⟩ := and_mask num
  clear hA
  go_enter Try.func6, Try.ntmps6
  go_wp2_with fail
  go_at_call 11
  refine HH.out.mono ?_
  rintro e w' ⟨hv, rfl, rfl, hbl⟩
  cases hv with
  | true =>
    go_wp2_with fail
    go_ret
    exact ⟨rfl, Below.refl _ _⟩
  | false =>
    have hbl := hbl rfl
    have hn : n ≤ 800 := by have := len_le_body ts; have := Hl.out; omega
    clear hnm
    by_cases h1 : n < 1
    · go_wp2_with fail
      go_ret
      exact ⟨rfl, Below.refl _ _⟩
    by_cases h60 : 60 < n
    · go_wp2_with fail
      go_ret
      exact ⟨rfl, Below.refl _ _⟩
    have hn0 : 0 < n := by omega
    obtain ⟨ab, ao, rfl, hrows⟩ := HA.out.lit hn0
    have hdm : m1 % n < n := Nat.mod_lt _ hn0
    obtain ⟨Ad, L, C, hcell, hL, hLC, hnil, hS⟩ := hrows (m1 % n) hdm
    have hdt : m1 % n < ts.length := by rw [Hl.out]; exact hdm
    have hLm : L ≤ 800 := by
      have h2 := congrArg List.length (body_take_succ ts (m1 % n) hdt)
      have h3 := body_take_le ts (m1 % n + 1)
      rw [List.length_append, txt_length, hL] at h2
      omega
    have hd1 : ((m1 : Int)).tmod (n : Int) = ((m1 % n : Nat) : Int) := by rw [Int.tmod_eq_emod_of_nonneg (by omega)]; omega
    have hd2 : ((m1 : Int)) % (n : Int) = ((m1 % n : Nat) : Int) := by omega
    obtain ⟨d, hd⟩ : ∃ d, m1 % n = d := ⟨_, rfl⟩
    rw [hd] at hdm hcell hL hS hdt hd1 hd2
    have Hrows := Lib.hid hrows
    have Hbl := Lib.hid hbl
    have HL := Lib.hid hL
    have HS := Lib.hid hS
    clear hd hrows hbl hL hS HH
    by_cases hL0 : L = 0
    · subst hL0
      go_wp2_with fail
      refine (HK.out _).mono ?_
      rintro e w9 ⟨rfl, hB9⟩
      go_wp2_with fail
      go_ret
      exact ⟨rfl, hB9⟩
    have hLp : 0 < L := by omega
    have hl1 : ((L : Int) == 0) = false := by rw [beq_eq_false_iff_ne]; omega
    have hl2 : (L == 0) = false := by rw [beq_eq_false_iff_ne]; omega
    obtain ⟨f, Lf, r, k, ⟨hf1, hf2⟩, ⟨hr1, hr2⟩, hLf1, ⟨hk1, hr8⟩, hLf3, hfL, hLfp, hfk, hkp, hw1, hfC, hr3, hr4⟩ := parts_nums L m2 m3 C hLp hLm hLC
    obtain ⟨b, off, rfl, _⟩ := (HS.out).lit (j := 0) (by rw [VY_length, HL.out]; exact hLp)
    have HBd := Lib.hid (build_ok w (some ⟨ab, ao, none⟩) n c ts HA.out (by omega) (by rw [rowT_length]; have := Hbl.out; omega))
    have Hk1 := Lib.hid hk1
    clear hk1
    go_wp2_with fail
    go_at_call 10
    simp only [Hk1.out]
    refine HBd.out.mono ?_
    rintro e w4 ⟨x, sa, rfl, hI, hB4⟩
    have HI := Lib.hid hI
    have HB4 := Lib.hid hB4
    have hcell4 := (World.cell?_of_block (hB4.block _ (World.block_lt_of_cell? w _ hcell))).trans hcell
    clear hI hB4 HBd
    clear hcell hf1 hf2 hr3 hr4 hr1 hr2 hLf1 hLf3 hd1 hd2 hb1 hb2 hb3 hl1 hl2 hL0 h60 h1
    obtain ⟨hPne, hPl, hPin⟩ := part_in hdt (by rw [HL.out]; exact hfk) hkp
    have hsP := sl_part HS.out f k
    have hPb : ∀ b ∈ ((ts.getD d []).drop f).take k, b < 256 := fun y hy => HA.out.lt _ (by rw [getD_in2 hdt]; exact List.getElem_mem hdt) y (List.mem_of_mem_drop (List.mem_of_mem_take hy))
    generalize ((ts.getD d []).drop f).take k = P at *
    have hfkf : f + k - f = k := by omega
    have HL1 := Lib.hid (locateT HI.out (some ⟨b, off + f, none⟩) k (C - f) P (hsP.below HB4.out) hPl (by omega) hPb)
    have HFP := Lib.hid (fun x (hx : x ∈ found ts P) => found_part hPne hx)
    have HPin := Lib.hid hPin
    have HPl := Lib.hid hPl
    have HPb := Lib.hid hPb
    have HsP := Lib.hid hsP
    clear hPne hPl hPin hPb hsP
    go_wp2_with fail
    go_at_call 13
    simp only [hfkf]
    refine HL1.out.mono ?_
    rintro e w5 ⟨A5, c5, rfl, hS5, hB5⟩
    have HI5 := Lib.hid (HI.out.below hB5)
    have HB5 := Lib.hid (below_step HB4.out hB5)
    have HS5 := Lib.hid hS5
    have HCt := Lib.hid (fun (W : World) (h : Below w5.heap.size w5 W) => countT (HI5.out.below h) (some ⟨b, off + f, none⟩) k (C - f) P ((HsP.out.below HB5.out).below h) HPl.out (by omega) HPb.out)
    have hla : (found ts P).length ≤ 65536 := by
      rw [← occP_found]
      unfold occP
      split
      · simp
      · have h1 := List.length_filter_le (fun q => (P.map (· + 2)).isPrefixOf ((rowT ts).drop q)) (List.range (rowT ts).length)
        have h2 := HI.out.len
        rw [List.length_range] at h1
        exact Nat.le_trans h1 h2
    rw [IH_length]
    clear hS5 hB5 HL1 hcell4
    generalize found ts P = LA at *
    go_wp2_with fail
    go_loopw [16, 17] (fun s16 s17 wr => ∃ (i : Nat) (fb : Bool), s16 = .bool fb ∧ s17 = .int .i64 (i : Int) ∧ i ≤ LA.length ∧ Hid (fb = true ↔ (d, f) ∈ LA.take i) ∧ Hid (Below w5.heap.size w5 wr)) (fun _ s17 _ => LA.length - (intOf s17).toNat)
    case atStart => exact ⟨0, false, rfl, rfl, Nat.zero_le _, Lib.hid (by simp), Lib.hid (Below.refl _ _)⟩
    case round =>
      obtain ⟨i, fb, rfl, rfl, hi, Hf, HB⟩ := hrel
      by_cases hib : i < LA.length
      · as_aux_lemma =>
        obtain ⟨b5, o5, hA5, hz1, hz2⟩ := hit_cells HS5.out hib
        subst hA5
        clear hz1 hz2
        obtain ⟨hc0, hc1⟩ := hit_cells2 (HS5.out.below HB.out) hib
        obtain ⟨y1, y2, y3⟩ := HFP.out (LA.getD i (0, 0)) (by rw [getD_pair hib]; exact List.getElem_mem hib)
        have Htk := Lib.hid (take_in hib (x := (d, f)))
        obtain ⟨x1, hx1⟩ : ∃ y, (LA.getD i (0, 0)).1 = y := ⟨_, rfl⟩
        obtain ⟨x2, hx2⟩ : ∃ y, (LA.getD i (0, 0)).2 = y := ⟨_, rfl⟩
        have hxx : LA.getD i (0, 0) = (x1, x2) := Prod.ext hx1 hx2
        rw [hx1] at hc0
        rw [hx2] at hc1
        rw [hxx] at Htk
        rw [hx1] at y1
        rw [hx1, hx2, HPl.out] at y2 y3
        clear hx1 hx2 hxx
        have hx1n : x1 < n := by rw [← Hl.out]; exact y1
        obtain ⟨Ax, Lx, Cx, hcx, hLx, hLCx, hnx, hSx⟩ := Hrows.out x1 hx1n
        have hcxw := (World.cell?_of_block ((below_step HB5.out HB.out).block _ (World.block_lt_of_cell? w _ hcx))).trans hcx
        have hLx8 : Lx ≤ 800 := by
          have h1 := congrArg List.length (body_take_succ ts x1 y1)
          have h2 := body_take_le ts (x1 + 1)
          have h3 := Hbl.out
          rw [List.length_append, txt_length, hLx] at h1
          omega
        have y2' : x2 + k ≤ Lx := by rw [← hLx]; exact y2
        obtain ⟨bx, ox, rfl, _⟩ := hSx.lit (j := 0) (by rw [VY_length, hLx]; omega)
        have hsx := sl_part hSx x2 k
        rw [y3] at hsx
        have HEx := Lib.hid (fun (W : World) (h : W.cell? ⟨b5, o5 + i * 2, none⟩ = some (.int .i64 (x1 : Int)) ∧ W.cell? ⟨b5, o5 + i * 2 + 1, none⟩ = some (.int .i64 (x2 : Int)) ∧ W.cell? ⟨ab, ao + x1, none⟩ = some (.slice (some ⟨bx, ox, none⟩) Lx Cx) ∧ Below wr.heap.size wr W) => ext_part (HI5.out.below (below_step HB.out h.2.2.2)) HA.out.lt HPl.out hkp y1 y2 y3)
        have HSm := Lib.hid (fun (W : World) (h : W.cell? ⟨b5, o5 + i * 2, none⟩ = some (.int .i64 (x1 : Int)) ∧ W.cell? ⟨b5, o5 + i * 2 + 1, none⟩ = some (.int .i64 (x2 : Int)) ∧ W.cell? ⟨ab, ao + x1, none⟩ = some (.slice (some ⟨bx, ox, none⟩) Lx Cx) ∧ Below wr.heap.size wr W) (A6 : Option Addr) (c6 : Nat) (h6 : Sl W A6 (VY P)) => same_true W A6 (some ⟨b, off + f, none⟩) k c6 (C - f) P h6 (HsP.out.below (below_step (below_step HB5.out HB.out) h.2.2.2)) HPl.out (by omega))
        have HSn := Lib.hid (fun (W : World) (h : W.cell? ⟨b5, o5 + i * 2, none⟩ = some (.int .i64 (x1 : Int)) ∧ W.cell? ⟨b5, o5 + i * 2 + 1, none⟩ = some (.int .i64 (x2 : Int)) ∧ W.cell? ⟨ab, ao + x1, none⟩ = some (.slice (some ⟨bx, ox, none⟩) Lx Cx) ∧ Below wr.heap.size wr W) (c6 : Nat) => same_true W (some ⟨bx, ox + x2, none⟩) (some ⟨b, off + f, none⟩) k c6 (C - f) P (hsx.below (below_step (below_step HB5.out HB.out) h.2.2.2)) (HsP.out.below (below_step (below_step HB5.out HB.out) h.2.2.2)) HPl.out (by omega))
        have j1 : IntKind.i64.wrap ((x2 : Int) + (k : Int)) = (x2 : Int) + (k : Int) := wr_two x2 k (by omega)
        have j2 : ¬ (Lx : Int) < (x2 : Int) + (k : Int) := by omega
        have j3 : ¬ (n : Int) ≤ (x1 : Int) := by omega
        have j4 : (x2 : Int) + (k : Int) ≤ (Cx : Int) := by omega
        have j5 : x2 + k - x2 = k := by omega
        have j6 : (i : Int) < (LA.length : Int) := by omega
        have j7 : (0 : Int) ≤ (i : Int) := by omega
        have j8 : (x1 : Int) < (n : Int) := by omega
        have j9 : (0 : Int) ≤ (x1 : Int) := by omega
        have j10 : (0 : Int) ≤ (x2 : Int) := by omega
        have j11 : ¬ (x1 : Int) < 0 := by omega
        have j12 : ¬ (x2 : Int) < 0 := by omega
        have j13 : (x2 : Int) ≤ (x2 : Int) + (k : Int) := by omega
        have j14 : (0 : Int) ≤ (x2 : Int) + (k : Int) := by omega
        have j15 : ¬ n ≤ x1 := by omega
        have j16 : ¬ Lx < x2 + k := by omega
        have j17 : decide ((n : Int) ≤ (x1 : Int)) = false := decide_eq_false j3
        have j18 : decide (n ≤ x1) = false := decide_eq_false j15
        have j19 : decide ((Lx : Int) < (x2 : Int) + (k : Int)) = false := decide_eq_false j2
        have j20 : decide ((x1 : Int) < 0) = false := decide_eq_false j11
        have j21 : decide ((x2 : Int) < 0) = false := decide_eq_false j12
        have j22 : ¬ Cx = x2 := by omega
        have j23 : (Cx == x2) = false := by rw [beq_eq_false_iff_ne]; exact j22
        have j24 : ¬ (x2 : Int) + (k : Int) < (x2 : Int) := by omega
        have j25 : ((x2 : Int) + (k : Int)).toNat = x2 + k := by omega
        clear hSx hsx hcx y1 y2 y3
        go_wp2_with fail
        go_region_held3 (fun W => W.cell? ⟨b5, o5 + i * 2, none⟩ = some (.int .i64 (x1 : Int)) ∧ W.cell? ⟨b5, o5 + i * 2 + 1, none⟩ = some (.int .i64 (x2 : Int)) ∧ W.cell? ⟨ab, ao + x1, none⟩ = some (.slice (some ⟨bx, ox, none⟩) Lx Cx) ∧ Below wr.heap.size wr W)
          (first | exact keep3D' hc0 hc1 hcxw | exact kqDN hc0 hc1 hcxw _ | exact kqN (by assumption) _ | exact keep3K (by assumption) (by assumption) | fail)
          (first | (go_at_call 15; (with_reducible refine (HSn.out _ (by assumption) _).mono ?_); rintro e W7 ⟨rfl, q7, rfl⟩) | (go_at_call 16; (with_reducible refine (HEx.out _ (by assumption)).mono ?_); rintro e W6 ⟨A6, c6, rfl, hS6, hB6⟩) | (go_at_call 15; (with_reducible refine (HSm.out _ (by assumption) _ _ (by assumption)).mono ?_); rintro e W7 ⟨rfl, q7, rfl⟩) | fail "NO ARM")
        rename_i hh
        obtain ⟨g0, g1, g2, gB⟩ := hh
        have GB := Lib.hid (below_step HB.out gB)
        clear gB g2 hB6 hS6 hc0 hc1 hcxw HEx HSm HSn
        generalize W6.drewN q7 = w7 at g0 g1 GB ⊢
        cases fb with
        | true =>
          as_aux_lemma =>
          have HN := Lib.hid (show ((true = true) ↔ (d, f) ∈ List.take (i + 1) LA) from ⟨fun _ => Htk.out.2 (.inl (Hf.out.1 rfl)), fun _ => rfl⟩)
          go_wp2_with fail
          all_goals (try go_quiet (fail))
          all_goals (try go_wp2_with fail)
          all_goals
            go_roundw
            case rel => exact ⟨i + 1, true, rfl, by go_num, by omega, HN, by first | exact GB | exact Lib.hid (GB.out.trans (below_drewN _ _ _))⟩
            case measure => simp [intOf]; omega
        | false =>
          by_cases he : x1 = d ∧ x2 = f
          · as_aux_lemma =>
            have HN := Lib.hid (show ((true = true) ↔ (d, f) ∈ List.take (i + 1) LA) from ⟨fun _ => Htk.out.2 (.inr (by rw [he.1, he.2])), fun _ => rfl⟩)
            have he1 : (x1 : Int) = (d : Int) := by omega
            have he2 : (x2 : Int) = (f : Int) := by omega
            rw [he1] at g0
            rw [he2] at g1
            clear he he1 he2
            go_wp2_with fail
            all_goals (try go_quiet (fail))
            all_goals (try go_wp2_with fail)
            all_goals
              go_roundw
              case rel => exact ⟨i + 1, true, rfl, by go_num, by omega, HN, by first | exact GB | exact Lib.hid (GB.out.trans (below_drewN _ _ _))⟩
              case measure => simp [intOf]; omega
          · have HN := Lib.hid (show ((false = true) ↔ (d, f) ∈ List.take (i + 1) LA) from ⟨fun h => (by cases h), fun h => (Htk.out.1 h).elim (fun h => Hf.out.2 h) (fun h => absurd (by injection h with h1 h2; exact ⟨h1, h2⟩) he)⟩)
            by_cases he1 : x1 = d
            · as_aux_lemma =>
              have he2 : ¬ (x2 : Int) = (f : Int) := by omega
              rw [he1] at g0
              clear he he1
              go_wp2_with fail
              all_goals (try go_quiet (fail))
              all_goals (try go_wp2_with fail)
              all_goals
                go_roundw
                case rel => exact ⟨i + 1, false, rfl, by go_num, by omega, HN, by first | exact GB | exact Lib.hid (GB.out.trans (below_drewN _ _ _))⟩
                case measure => simp [intOf]; omega
            · as_aux_lemma =>
              have he2 : ¬ (x1 : Int) = (d : Int) := by omega
              clear he he1
              go_wp2_with fail
              all_goals (try go_quiet (fail))
              all_goals (try go_wp2_with fail)
              all_goals
                go_roundw
                case rel => exact ⟨i + 1, false, rfl, by go_num, by omega, HN, by first | exact GB | exact Lib.hid (GB.out.trans (below_drewN _ _ _))⟩
                case measure => simp [intOf]; omega
      · as_aux_lemma =>
        obtain rfl : LA.length = i := by omega
        have Hfb : Hid (fb = true) := Lib.hid (Hf.out.2 (by rw [List.take_length]; exact HPin.out))
        obtain rfl := Hfb.out
        clear Hf Hfb
        go_wp2_with fail
        refine (HCt.out _ HB.out).mono ?_
        rintro e w9 ⟨rfl, hB9⟩
        have HB9 := Lib.hid (below_step (below_step HB5.out HB.out) hB9)
        clear hB9
        go_wp2_with fail
        refine (HK.out _).mono ?_
        rintro e w10 ⟨rfl, hB10⟩
        have HB10 := Lib.hid (below_step HB9.out hB10)
        clear hB10
        go_wp2_with fail
        go_ret
        exact ⟨rfl, HB10.out⟩
end Go.Proofs.Ytfjhcgmaignaoaa
