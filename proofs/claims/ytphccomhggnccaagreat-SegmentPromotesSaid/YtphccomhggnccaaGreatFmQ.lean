/- fm: ahead, place, whole, Docs, Len. -/
import Derived.Test.YtphccomhggnccaaGreatFmIdx
import Derived.Deep.RegionHeld3
namespace Go.Proofs.YtphccomhggnccaaGreat
set_option linter.unusedVariables false
set_option linter.unusedSimpArgs false
set_option maxRecDepth 100000
open Go.RowKit Fm Rank PkMath

theorem keep3D' {w2 : World} {a1 a2 a3 : Addr} {v1 v2 v3 : Value} (h1 : w2.cell? a1 = some v1) (h2 : w2.cell? a2 = some v2) (h3 : w2.cell? a3 = some v3) : w2.drew.cell? a1 = some v1 ∧ w2.drew.cell? a2 = some v2 ∧ w2.drew.cell? a3 = some v3 ∧ Below w2.heap.size w2 w2.drew :=
  ⟨h1, h2, h3, rfl, rfl, rfl, Nat.le_refl _, fun _ _ => rfl⟩
theorem keep3K {w2 W W' : World} {a1 a2 a3 : Addr} {v1 v2 v3 : Value} (h : W.cell? a1 = some v1 ∧ W.cell? a2 = some v2 ∧ W.cell? a3 = some v3 ∧ Below w2.heap.size w2 W) (k : Below W.heap.size W W') : W'.cell? a1 = some v1 ∧ W'.cell? a2 = some v2 ∧ W'.cell? a3 = some v3 ∧ Below w2.heap.size w2 W' :=
  ⟨by rw [World.cell?_of_block (w := W) (k.block _ (World.block_lt_of_cell? W _ h.1))]; exact h.1, by rw [World.cell?_of_block (w := W) (k.block _ (World.block_lt_of_cell? W _ h.2.1))]; exact h.2.1, by rw [World.cell?_of_block (w := W) (k.block _ (World.block_lt_of_cell? W _ h.2.2.1))]; exact h.2.2.1, below_step h.2.2.2 k⟩
theorem keep3E' {w2 W' : World} {a1 a2 a3 : Addr} {v1 v2 v3 : Value} (h1 : w2.cell? a1 = some v1) (h2 : w2.cell? a2 = some v2) (h3 : w2.cell? a3 = some v3) (k : Below w2.drew.heap.size w2.drew W') : W'.cell? a1 = some v1 ∧ W'.cell? a2 = some v2 ∧ W'.cell? a3 = some v3 ∧ Below w2.heap.size w2 W' :=
  keep3K (keep3D' h1 h2 h3) k

theorem at_opt {l : List Nat} {i x : Nat} (hi : i < l.length) (h : l.getD i 0 = x) : l[i]? = some x := by
  rw [List.getElem?_eq_getElem hi, ← h, getD_at hi]
theorem opt_at {l : List Nat} {i x : Nat} (h : l[i]? = some x) : i < l.length ∧ l.getD i 0 = x := by
  have hi : i < l.length := by
    rcases Nat.lt_or_ge i l.length with h1 | h1
    · exact h1
    · rw [List.getElem?_eq_none h1] at h; cases h
  refine ⟨hi, ?_⟩
  rw [List.getElem?_eq_getElem hi] at h
  rw [getD_at hi]
  exact Option.some.inj h
theorem ahead_any {w : World} {base x : Nat} {s sa : List Nat} (h : IdxM w base x s sa) (i p : Nat) (hi : i < s.length) (hp : sa.getD i 0 = p + 1) :
    Calls Tryz.prog 68 #[.pointer (some ⟨x, 0, none⟩), .int .i64 (i : Int)] w fun e w' => ∃ i' : Nat, e = .returned (.int .i64 (i' : Int)) ∧ i' < s.length ∧ sa.getD i' 0 = p ∧ Below w.heap.size w w' := by
  obtain ⟨h1, h2, h3, h4, h5, tr, g3, y, yc, mb, pb, pg, k, rb, r, b1, b2, b3, b4, b5, c0, c1, c2, c3, c4, c5, c6, c7, c8⟩ := h
  have hlf := lf_at h4 h5 (at_opt (by rw [h5.length]; exact hi) hp)
  have hpl : p < s.length := by
    have := h5.lt (p := p + 1) (by rw [← hp, getD_at (by rw [h5.length]; exact hi)]; exact List.getElem_mem _)
    omega
  obtain ⟨hlf1, hlf2⟩ := hlf
  have htl := trn_length h5
  have hti := (opt_at hlf1).2
  obtain ⟨hil, hiv⟩ := opt_at hlf2
  rw [h5.length] at hil
  have hc512 : s.getD p 0 < 512 := by rw [getD_at hpl]; exact h3 _ (List.getElem_mem _)
  have hle : lessN s (s.getD p 0) ≤ s.length := by unfold lessN; exact List.length_filter_le _ _
  have hll : s.getD p 0 < ((List.range 513).map (lessN s)).length := by rw [List.length_map, List.length_range]; omega
  have hless := c2.cell (i := s.getD p 0) (by rw [NI_length]; exact hll)
  rw [NI_getD _ _ hll, getD_at hll, List.getElem_map, List.getElem_range] at hless
  have HG := Lib.hid (tgetZ c1 (i : Int))
  rw [atZ_in (by rw [IL_length, htl]; exact hi), IL_getD _ _ (by rw [htl]; exact hi), hti] at HG
  have HR := Lib.hid (fun (W : World) (hb : Below w.heap.size w W) => trankZ (c1.below hb) ((s.getD p 0 : Nat) : Int) (i : Int))
  simp only [rk_IL, Int.toNat_natCast] at HR
  have hk0 := (cell_blk c0 0).trans rfl
  have hk1 := (cell_blk c0 1).trans rfl
  have Hiv := Lib.hid hiv
  generalize hcc : s.getD p 0 = c at *
  generalize rk (trn s sa) c i = q at *
  generalize lessN s c = m at *
  clear hcc hll hlf1 hlf2 hti htl hiv hp c0 c1 c2 c3 c4 c5 c6 c7 c8 h3 h4 h5
  go_enter Tryz.func68, Tryz.ntmps68
  go_wp2_with fail
  go_at_call 67
  refine HG.out.mono ?_
  rintro e w1 ⟨rfl, hB1⟩
  have hk0' := hB1.cell (p := ⟨x, 0, none⟩) (World.block_lt_of_cell? w _ hk0)
  have hk1' := hB1.cell (p := ⟨x, 1, none⟩) (World.block_lt_of_cell? w _ hk1)
  have hk2' := hB1.cell (p := ⟨g3, c, none⟩) (World.block_lt_of_cell? w _ hless)
  rw [hk0] at hk0'
  rw [hk1] at hk1'
  rw [hless] at hk2'
  clear hk0 hk1 hless
  have HB1 := Lib.hid hB1
  clear hB1
  have e1 : (0 : Int) ≤ (c : Int) := by omega
  have e2 : (c : Int) < 513 := by omega
  have e3 : IntKind.i64.wrap ((m : Int) + (q : Int)) = ((m + q : Nat) : Int) := by rw [IntWalk.i64_in _ (by omega)]; omega
  go_wp2_with fail
  have HR1 := Lib.hid (fun (W : World) (h : W.cell? ⟨x, 0, none⟩ = some (.pointer (some ⟨tr, 0, none⟩)) ∧ W.cell? ⟨x, 1, none⟩ = some (.slice (some ⟨g3, 0, none⟩) 513 513) ∧ W.cell? ⟨g3, c, none⟩ = some (.int .i64 (m : Int)) ∧ Below w1.heap.size w1 W) => HR.out W (below_step HB1.out h.2.2.2))
  clear HR HG
  go_region_held3 (fun W => W.cell? ⟨x, 0, none⟩ = some (.pointer (some ⟨tr, 0, none⟩)) ∧ W.cell? ⟨x, 1, none⟩ = some (.slice (some ⟨g3, 0, none⟩) 513 513) ∧ W.cell? ⟨g3, c, none⟩ = some (.int .i64 (m : Int)) ∧ Below w1.heap.size w1 W)
    (first | exact keep3D' hk0' hk1' hk2' | exact keep3K (by assumption) (by assumption))
    (first | (go_at_call 110; refine (HR1.out _ (by assumption)).mono ?_; rintro e W2 ⟨rfl, hBr⟩))
  all_goals go_wp2_with fail
  all_goals go_ret
  all_goals exact ⟨m + q, ret_int (by omega), hil, Hiv.out, below_step HB1.out (by rename_i h; exact h.2.2.2)⟩

/-- the place in the row at which an ending begins -/
theorem place_any {w : World} {base x : Nat} {s sa : List Nat} (h : IdxM w base x s sa) (i : Nat) (hi : i < s.length) :
    Calls Tryz.prog 57 #[.pointer (some ⟨x, 0, none⟩), .int .i64 (i : Int)] w fun e w' => e = .returned (.int .i64 ((sa.getD i 0 : Nat) : Int)) ∧ Below w.heap.size w w' := by
  have hlen := h.len
  have hl := h.ord.length
  have hsl : ∀ i, i < s.length → sa.getD i 0 < s.length := fun i hi => h.ord.lt (by rw [getD_at (by rw [hl]; exact hi)]; exact List.getElem_mem _)
  have hp := hsl i hi
  have H := Lib.hid h
  have Hsl := Lib.hid hsl
  have Hl := Lib.hid hl
  clear h hsl hl
  go_enter Tryz.func57, Tryz.ntmps57
  go_wp2_with fail
  go_loopw [1, 5] (fun a q wr => ∃ j k : Nat, a = .int .i64 (j : Int) ∧ q = .int .i64 (k : Int) ∧ j < s.length ∧ k ≤ sa.getD i 0 ∧ Hid (sa.getD j 0 = sa.getD i 0 - k) ∧ Below w.heap.size w wr) (fun _ q _ => s.length - (intOf q).toNat)
  case atStart => exact ⟨i, 0, rfl, rfl, hi, Nat.zero_le _, Lib.hid (by omega), Below.refl _ _⟩
  case round =>
    obtain ⟨j, k, rfl, rfl, hj, hk, Hjk, hB⟩ := hrel
    have h := H.out.below hB
    have HI := Lib.hid h
    obtain ⟨h1, h2, h3, h4, h5, tr, g3, y, yc, mb, pb, pg, kk, rb, r, b1, b2, b3, b4, b5, c0, c1, c2, c3, c4, c5, c6, c7, c8⟩ := h
    have hc3 := (cell_blk c0 3).trans rfl
    have hc4 := (cell_blk c0 4).trans rfl
    have HV := Lib.hid c5
    have HP := Lib.hid c6
    have HB := Lib.hid hB
    clear c0 c1 c2 c3 c4 c5 c6 c7 c8 h1 h3 h4 h5 b1 b2 b3 b4 b5 hB
    have HG := Lib.hid (bget_any HV.out (j : Int))
    have hjsa : j < sa.length := by rw [Hl.out]; exact hj
    rw [Int.toNat_natCast, mrk_getD sa j hjsa] at HG
    have hdj : decide (0 ≤ (j : Int)) = true := by simp
    by_cases h8 : sa.getD j 0 % 8 = 0
    · have hb8 : (sa.getD j 0 % 8 == 0) = true := by rw [h8]; rfl
      rw [hb8, hdj, Bool.true_and] at HG
      obtain ⟨hq1, hq2⟩ := plc_rk sa j hjsa h8
      rw [Hl.out] at hq1 hq2
      have HR := Lib.hid (fun n => rank_any (HV.out.drewN n) true (j : Int))
      simp only [Int.toNat_natCast] at HR
      have HGk := Lib.hid (fun n => get_in (PArr.kept (w' := wr.drewN n) HP.out rfl rfl) _ hq1)
      rw [hq2] at HGk
      have hpj := Hsl.out j hj
      have Hpk := Lib.hid (show sa.getD j 0 + k = sa.getD i 0 by have := Hjk.out; omega)
      clear hb8 h8 hdj hq1 hq2
      generalize sa.getD j 0 = pj at *
      generalize rk (mrk sa) true j = q at *
      have e1 : IntKind.i64.wrap (pj : Int) = (pj : Int) := IntWalk.i64_in _ (by omega)
      have e2 : IntKind.i64.wrap ((pj : Int) + (k : Int)) = (pj : Int) + (k : Int) := IntWalk.i64_in _ (by omega)
      have e3 : IntKind.u64.wrap (pj : Int) = (pj : Int) := by rw [IntKind.wrap_u64]; omega
      go_wp2_with fail
      go_at_call 111
      refine HG.out.mono ?_
      rintro e w' ⟨rfl, rfl⟩
      go_wp2_with fail
      go_quiet ((first | (go_at_call 113; exact Calls.quiet_of (HR.out _)) | (go_at_call 112; exact Calls.quiet_of (HGk.out _))))
      go_wp2_with fail
      go_ret
      exact ⟨ret_int (by have := Hpk.out; omega), below_step HB.out (below_drewN _ _ _)⟩
    · have hb8 : (sa.getD j 0 % 8 == 0) = false := by simpa using h8
      rw [hb8, hdj, Bool.true_and] at HG
      have hpj := Hsl.out j hj
      obtain ⟨p1, hp1⟩ : ∃ p1, sa.getD j 0 = p1 + 1 := ⟨sa.getD j 0 - 1, by omega⟩
      have HA := Lib.hid (ahead_any HI.out j p1 hj hp1)
      have Hp1 := Lib.hid hp1
      clear hb8 h8 hdj hp1
      go_wp2_with fail
      go_at_call 111
      refine HG.out.mono ?_
      rintro e w' ⟨rfl, rfl⟩
      go_wp2_with fail
      go_at_call 68
      refine HA.out.mono ?_
      rintro e w2 ⟨j', rfl, hj', hp', hB2⟩
      have Hp' := Lib.hid hp'
      have HB2 := Lib.hid hB2
      have hk1 : k + 1 ≤ sa.getD i 0 := by have := Hjk.out; have := Hp1.out; omega
      clear hp' hB2
      go_wp2_with fail
      go_roundw
      case rel => exact ⟨j', k + 1, rfl, by go_num, hj', hk1, Lib.hid (by have := Hp'.out; have := Hjk.out; have := Hp1.out; omega), below_step HB.out HB2.out⟩
      case measure => simp [intOf]; omega

theorem whole_any (x t : Nat) (w : World) (h0 : w.cell? ⟨x, 0, none⟩ = some (.pointer (some ⟨t, 0, none⟩))) :
    Calls Tryz.prog 64 #[.pointer (some ⟨x, 0, none⟩)] w fun e w' => e = .returned (.bool true) ∧ w = w' := by
  go_enter Tryz.func64, Tryz.ntmps64
  go_wp2_with fail
  go_ret
  exact ⟨rfl, rfl⟩
theorem whole_nil (w : World) : Calls Tryz.prog 64 #[.pointer none] w fun e w' => e = .returned (.bool false) ∧ w = w' := by
  go_enter Tryz.func64, Tryz.ntmps64
  go_wp2_with fail
  go_ret
  exact ⟨rfl, rfl⟩
theorem docs_nil (w : World) : Calls Tryz.prog 23 #[.pointer none] w fun e w' => e = .returned (.int .i64 0) ∧ w = w' := by
  have H := Lib.hid (whole_nil w)
  go_enter Tryz.func23, Tryz.ntmps23
  go_wp2_with (go_at_call 64; refine H.out.mono ?_; rintro e w' ⟨rfl, rfl⟩)
  go_ret
  exact ⟨rfl, rfl⟩
/-- how many texts a row has -/
def many (s : List Nat) : Nat := (stp s s.length).length - 1
theorem stp_pos (s : List Nat) : 1 ≤ (stp s s.length).length := by simp [stp]
theorem docs_any {w : World} {base x : Nat} {s sa : List Nat} (h : IdxM w base x s sa) :
    Calls Tryz.prog 23 #[.pointer (some ⟨x, 0, none⟩)] w fun e w' => e = .returned (.int .i64 ((many s : Nat) : Int)) ∧ w = w' := by
  have hsl := h.len
  obtain ⟨h1, h2, h3, h4, h5, tr, g3, y, yc, mb, pb, pg, kk, rb, r, b1, b2, b3, b4, b5, c0, c1, c2, c3, c4, c5, c6, c7, c8⟩ := h
  have hc0 := (cell_blk c0 0).trans rfl
  have hc2 := (cell_blk c0 2).trans rfl
  have hp := stp_pos s
  have hle := stp_le s s.length
  have Hm := Lib.hid (show (((stp s s.length).length : Nat) : Int) - 1 = ((many s : Nat) : Int) by unfold many; omega)
  have H := Lib.hid (whole_any x tr w hc0)
  clear c0 c1 c2 c3 c4 c5 c6 c7 c8 h1 h3 h4 h5 b1 b2 b3 b4 b5
  generalize (stp s s.length).length = m at *
  go_enter Tryz.func23, Tryz.ntmps23
  go_wp2_with (go_at_call 64; refine H.out.mono ?_; rintro e w' ⟨rfl, rfl⟩)
  go_ret
  exact ⟨ret_int Hm.out, rfl⟩
theorem len_nilx (d : Int) (w : World) : Calls Tryz.prog 65 #[.pointer none, .int .i64 d] w fun e w' => e = .returned (.int .i64 0) ∧ w = w' := by
  have H := Lib.hid (docs_nil w)
  by_cases hd : d < 0
  · go_enter Tryz.func65, Tryz.ntmps65
    go_wp2_with fail
    go_ret
    exact ⟨rfl, rfl⟩
  · go_enter Tryz.func65, Tryz.ntmps65
    go_wp2_with (go_at_call 23; refine H.out.mono ?_; rintro e w' ⟨rfl, rfl⟩)
    go_ret
    exact ⟨rfl, rfl⟩
theorem len_out {w : World} {base x : Nat} {s sa : List Nat} (h : IdxM w base x s sa) (d : Int) (hd : d < 0 ∨ ((many s : Nat) : Int) ≤ d) :
    Calls Tryz.prog 65 #[.pointer (some ⟨x, 0, none⟩), .int .i64 d] w fun e w' => e = .returned (.int .i64 0) ∧ w = w' := by
  have H := Lib.hid (docs_any h)
  clear h
  generalize many s = m at *
  by_cases hd0 : d < 0
  · go_enter Tryz.func65, Tryz.ntmps65
    go_wp2_with fail
    go_ret
    exact ⟨rfl, rfl⟩
  · have hd1 : (m : Int) ≤ d := by omega
    clear hd
    go_enter Tryz.func65, Tryz.ntmps65
    go_wp2_with (go_at_call 23; refine H.out.mono ?_; rintro e w' ⟨rfl, rfl⟩)
    go_ret
    exact ⟨rfl, rfl⟩
theorem len_in {w : World} {base x : Nat} {s sa : List Nat} (h : IdxM w base x s sa) (d L : Nat) (hd : d < many s) (hL : (stp s s.length).getD (d + 1) 0 = (stp s s.length).getD d 0 + L + 1) (hb : (stp s s.length).getD (d + 1) 0 ≤ 65536) :
    Calls Tryz.prog 65 #[.pointer (some ⟨x, 0, none⟩), .int .i64 (d : Int)] w fun e w' => e = .returned (.int .i64 (L : Int)) ∧ ∃ n, w' = w.drewN n := by
  have hsl := h.len
  have H := Lib.hid (docs_any h)
  obtain ⟨h1, h2, h3, h4, h5, tr, g3, y, yc, mb, pb, pg, kk, rb, r, b1, b2, b3, b4, b5, c0, c1, c2, ⟨cur, c3, c3t⟩, c4, c5, c6, c7, c8⟩ := h
  have hc2 := (cell_blk c0 2).trans rfl
  have hm : (stp s s.length).length = many s + 1 := by have := stp_pos s; unfold many; omega
  have hS := sl_take c3 c3t
  have hx := sl_cell hS (VI_get (NI (stp s s.length)) d (by rw [NI_length]; omega))
  have hy := sl_cell hS (VI_get (NI (stp s s.length)) (d + 1) (by rw [NI_length]; omega))
  rw [NI_getD _ _ (by omega)] at hx hy
  rw [hm] at hc2
  have Hl := Lib.hid hL
  have hle : (stp s s.length).getD d 0 ≤ 65536 := by omega
  have hmle : many s ≤ 65536 := by have := stp_le s s.length; omega
  clear c0 c1 c2 c3 c3t c4 c5 c6 c7 c8 h1 h3 h4 h5 b1 b2 b3 b4 b5 hm hS hL
  generalize (stp s s.length).getD (d + 1) 0 = u at *
  generalize (stp s s.length).getD d 0 = v at *
  generalize many s = m at *
  have e1 : (0 : Int) ≤ (d : Int) := by omega
  have e2 : (d : Int) < (m : Int) := by omega
  have e3 : IntKind.i64.wrap ((d : Int) + 1) = ((d + 1 : Nat) : Int) := by rw [IntWalk.i64_in _ (by omega)]; omega
  have e4 : (0 : Int) ≤ (d : Int) + 1 := by omega
  have e5 : (d : Int) + 1 < ((m + 1 : Nat) : Int) := by omega
  have e6 : ((d : Int) + 1).toNat = d + 1 := by omega
  go_enter Tryz.func65, Tryz.ntmps65
  go_wp2_with (go_at_call 23; refine H.out.mono ?_; rintro e w' ⟨rfl, rfl⟩)
  go_quiet (fail)
  go_wp2_with fail
  go_ret
  refine ⟨ret_int ?_, _, rfl⟩
  have := Hl.out
  omega
end Go.Proofs.YtphccomhggnccaaGreat
