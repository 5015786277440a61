/- The law SegmentPromotes, walked. -/
import Derived.Test.YtphccomhggnccaaGreatSgZ
import Derived.Test.YtphccomhggnccaaGreatSgP
import Derived.Test.YtphccomhggnccaaGreatRfN
import Derived.Test.YtphccomhggnccaaGreatRfB
import Derived.Test.YtphccomhggnccaaGreatFmX
import Derived.Deep.RegionHeld3
namespace Go.Proofs.YtphccomhggnccaaGreat
set_option maxRecDepth 100000
set_option linter.unusedVariables false
set_option linter.unusedSimpArgs false
set_option maxRecDepth 100000
open Go.RowKit Sg Fm
theorem SetOk.below {w w' : World} {s : St} (h : SetOk w s) (hb : Below w.heap.size w w') : SetOk w' s := ⟨h.d.below hb, h.g.below hb, h.k, h.q, h.m⟩
theorem lite_of_heavy {s : St} (h : wtL [s] ≤ 1500) : Lite (s.es.map De.dc) s.gs := by
  have h1 : wtD (s.es.map De.dc) + wtG s.gs ≤ 1500 := by simpa [wtL, wtS] using h
  refine ⟨by omega, fun d hd => ?_⟩
  have := wtD_mem hd
  omega
theorem textsD_lt {w : World} {es : List De} (h : ∀ e ∈ es, TxtOk w e) : ∀ t ∈ textsD (sortD (es.map De.dc)), ∀ b ∈ t, b < 256 := by
  intro t ht
  obtain ⟨d, hd, rfl⟩ := List.mem_map.1 ht
  obtain ⟨e, he, rfl⟩ := List.mem_map.1 ((sortD_perm _).mem_iff.1 hd)
  exact (h e he).lt
theorem ext_len (ts : List (List Nat)) (d f k : Int) (h : (body ts).length ≤ 65536) : (ext ts d f k).length ≤ 65536 := by
  unfold ext
  split
  · exact Nat.zero_le _
  · rw [List.length_take, List.length_drop]
    refine Nat.le_trans (Nat.min_le_right _ _) ?_
    rcases Nat.lt_or_ge d.toNat ts.length with h1 | h1
    · have h2 := body_take_succ ts d.toNat h1
      have h3 := body_take_le ts (d.toNat + 1)
      rw [h2, List.length_append, txt_length] at h3
      omega
    · simp [List.getD, List.getElem?_eq_none h1]
set_option maxHeartbeats 8000000 in
theorem lawPromotes (w : World) (s : St) (hs : SetOk w s) (Ap : Option Addr) (np cp : Nat) (p : List Nat) (hp : Sl w Ap (VY p)) (hpl : p.length = np) (hpb : ∀ b ∈ p, b < 256) (hnp : np ≤ 140737488355328) (d f k : Int) :
    Calls Tryz.prog 4 #[.agg #[.slice s.A s.n s.c, .slice s.Ag s.ng s.cg], .slice Ap np cp, .int .i64 d, .int .i64 f, .int .i64 k] w fun e w' => e = .returned (.bool true) ∧ Below w.heap.size w w' := by
  have HP := Lib.hid hp
  have Hpl := Lib.hid hpl
  have Hpb := Lib.hid hpb
  have Hs := Lib.hid hs
  have hC1 := below_new w (.cells #[.slice s.A s.n s.c, .slice s.Ag s.ng s.cg] 25)
  have hb1 : (w.alloc (.cells #[.slice s.A s.n s.c, .slice s.Ag s.ng s.cg] 25)).heap[w.heap.size]? = some (.cells #[.slice s.A s.n s.c, .slice s.Ag s.ng s.cg] 25 (0, 0)) := heap_alloc_new w _
  obtain ⟨x, hx⟩ : ∃ x, w.heap.size = x := ⟨_, rfl⟩
  have Hx := Lib.hid hx
  have HC1 := Lib.hid hC1
  have hc0 : (w.alloc (.cells #[.slice s.A s.n s.c, .slice s.Ag s.ng s.cg] 25)).cell? ⟨x, 0, none⟩ = some (.slice s.A s.n s.c) := by rw [← hx]; exact cell_blk hb1 0
  have hc1 : (w.alloc (.cells #[.slice s.A s.n s.c, .slice s.Ag s.ng s.cg] 25)).cell? ⟨x, 1, none⟩ = some (.slice s.Ag s.ng s.cg) := by rw [← hx]; exact cell_blk hb1 1
  obtain ⟨sA, sn, sc, ses, sG, sng, scg, sgs⟩ := s
  dsimp only at *
  clear hp hpl hpb hs hC1 hb1
  go_enter Tryz.func4, Tryz.ntmps4
  go_wp2_with fail
  have hCC := HC1.out.alloc HC1.out.size (.cells #[.slice sA sn sc, .slice sG sng scg] 25)
  have hb2 : ((w.alloc (.cells #[.slice sA sn sc, .slice sG sng scg] 25)).alloc (.cells #[.slice sA sn sc, .slice sG sng scg] 25)).heap[x + 1]? = some (.cells #[.slice sA sn sc, .slice sG sng scg] 25 (0, 0)) := by
    have := heap_alloc_new (w.alloc (.cells #[.slice sA sn sc, .slice sG sng scg] 25)) (.cells #[.slice sA sn sc, .slice sG sng scg] 25)
    rw [World.size_alloc, Hx.out] at this
    exact this
  have hx0 := (World.cell?_of_block ((below_new _ (.cells #[.slice sA sn sc, .slice sG sng scg] 25)).block x (World.block_lt_of_cell? _ _ hc0))).trans hc0
  have hx1 := (World.cell?_of_block ((below_new _ (.cells #[.slice sA sn sc, .slice sG sng scg] 25)).block x (World.block_lt_of_cell? _ _ hc1))).trans hc1
  have HHv := Lib.hid (heavy9_any _ (some ⟨x + 1, 0, none⟩) 1 1 [⟨sA, sn, sc, ses, sG, sng, scg, sgs⟩] (sl_blk (xs := VSt [⟨sA, sn, sc, ses, sG, sng, scg, sgs⟩]) hb2) rfl (by omega) (fun s hm => by
    have : s = ⟨sA, sn, sc, ses, sG, sng, scg, sgs⟩ := by simpa using hm
    subst this
    exact Hs.out.below hCC))
  have HCC := Lib.hid hCC
  clear hc0 hc1 hCC hb2 HC1
  generalize (w.alloc (.cells #[.slice sA sn sc, .slice sG sng scg] 25)).alloc (.cells #[.slice sA sn sc, .slice sG sng scg] 25) = w2 at *
  go_at_call 12
  refine HHv.out.mono ?_
  rintro e w3 ⟨b, rfl, hbw, hB3⟩
  have hy0 := (World.cell?_of_block (hB3.block x (World.block_lt_of_cell? _ _ hx0))).trans hx0
  have hy1 := (World.cell?_of_block (hB3.block x (World.block_lt_of_cell? _ _ hx1))).trans hx1
  have HB3 := Lib.hid (below_step HCC.out hB3)
  have Hbw := Lib.hid hbw
  clear hx0 hx1 hbw hB3 HHv HCC
  cases b with
  | true =>
    go_wp2_with fail
    go_ret
    exact ⟨rfl, HB3.out⟩
  | false =>
    have hLi : Lite (ses.map De.dc) sgs := lite_of_heavy (s := ⟨sA, sn, sc, ses, sG, sng, scg, sgs⟩) (Hbw.out rfl).1
    by_cases h100 : 100 < np
    · have h100i : (100 : Int) < (np : Int) := by omega
      go_wp2_with fail
      go_ret
      exact ⟨rfl, HB3.out⟩
    · have h100i : ¬ (100 : Int) < (np : Int) := by omega
      have hS3 := Hs.out.below HB3.out
      have HNw := Lib.hid (segnew_any w3 sA sG sn sc sng scg ses sgs hS3.d hS3.g hLi)
      have HLi := Lib.hid hLi
      clear hLi hS3
      go_wp2_with fail
      go_at_call 16
      refine HNw.out.mono ?_
      rintro e w4 hN4
      by_cases hR : Rise (keysD (ses.map De.dc) ++ sgs)
      · obtain ⟨-, x4, sa, rfl, hSM, hB4⟩ | ⟨hR2, -⟩ := hN4
        case inr => exact absurd hR hR2
        have hz0 := (World.cell?_of_block (hB4.block x (World.block_lt_of_cell? _ _ hy0))).trans hy0
        have hz1 := (World.cell?_of_block (hB4.block x (World.block_lt_of_cell? _ _ hy1))).trans hy1
        have HB4 := Lib.hid (below_step HB3.out hB4)
        have hS4 := Hs.out.below HB4.out
        have HN9 := Lib.hid (new9_any w4 sA sG sn sc sng scg ses sgs hS4.d hS4.g HLi.out)
        have HSM := Lib.hid hSM
        have HR := Lib.hid hR
        clear hR hB4 hS4 hy0 hy1 HNw hSM
        go_wp2_with fail
        go_at_call 13
        refine HN9.out.mono ?_
        rintro e w5 (⟨-, xr, es', rfl, hso, hRM, hB5⟩ | ⟨hR2, -⟩)
        case inr => exact absurd HR.out hR2
        have hlen' : es'.length ≤ 4000 := by
          have h1 := congrArg List.length hso
          have h2 := wtD_len (ses.map De.dc)
          have h3 := HLi.out.w
          rw [List.length_map, sortD_length, List.length_map] at h1
          rw [List.length_map] at h2
          omega
        have HTx := Lib.hid (texts9_any hRM (by omega))
        have HSM5 := Lib.hid (HSM.out.below hB5)
        obtain ⟨ix, hix, hI5⟩ := HSM5.out.ixc
        have HI5 := Lib.hid hI5
        have HB5 := Lib.hid (below_step HB4.out hB5)
        have HRM := Lib.hid hRM
        have Hso := Lib.hid hso
        clear hB5 HN9 hRM hI5 hso HSM
        go_wp2_with fail
        go_at_call 19
        refine HTx.out.mono ?_
        rintro e w6 ⟨A6, c6, rfl, hS6, hn6, hnil6, hB6⟩
        have hix6 := (World.cell?_of_block (hB6.block x4 (World.block_lt_of_cell? _ _ hix))).trans hix
        have HI6 := Lib.hid (HI5.out.below hB6)
        have HB6 := Lib.hid (below_step HB5.out hB6)
        have HS6 := Lib.hid hS6
        have Hts : Hid (es'.map (·.t) = textsD (sortD (ses.map De.dc))) := Lib.hid (by rw [← Hso.out]; simp [textsD, De.dc])
        have HRM6 := Lib.hid (HRM.out.below hB6)
        have hfit := (HLi.out.perm (sortD_perm _) (srt_perm sgs)).fits.t
        have Hfit := Lib.hid hfit
        have hRA : RArg w6 A6 es'.length c6 (textsD (sortD (ses.map De.dc))) := by
          obtain ⟨_, _, _, _, _, q2, _⟩ := HRM6.out.blk
          rw [← Hts.out]
          refine rarg_of_row hS6 rfl (by omega) q2.txt (fun e he => ?_)
          have h1 := (q2.txt e he).len
          have h2 : e.t.length ≤ 4096 := (HLi.out.perm (sortD_perm _) (List.Perm.refl sgs)).t e.dc (by rw [← Hso.out]; exact List.mem_map_of_mem (f := De.dc) he)
          omega
        have HRA := Lib.hid hRA
        have HLo := Lib.hid (locateT HI6.out Ap np cp p (HP.out.below HB6.out) Hpl.out (by omega) Hpb.out)
        obtain ⟨te, hte⟩ : ∃ te, es'.length = te := ⟨_, rfl⟩
        rw [hte] at HRA hn6 ⊢
        clear hix hB6 hS6 hnil6 hRA hfit hte HTx
        go_wp2_with fail
        go_at_call 20
        refine HLo.out.mono ?_
        rintro e w7 ⟨A7, c7, rfl, hS7, hB7⟩
        have hix7 := (World.cell?_of_block (hB7.block x4 (World.block_lt_of_cell? _ _ hix6))).trans hix6
        have HI7 := Lib.hid (HI6.out.below hB7)
        have HRA7 := Lib.hid (HRA.out.below hB7)
        have HB7 := Lib.hid (below_step HB6.out hB7)
        have HS7 := Lib.hid hS7
        have HL7 := Lib.hid (locate7_any w7 A6 Ap te c6 np cp _ p HRA7.out (HP.out.below HB7.out) Hpl.out (by omega) Hpb.out (by have := Hfit.out; rw [rowT_length] at this; omega))
        clear hix6 hB7 hS7 HLo
        go_wp2_with fail
        go_at_call 21
        refine HL7.out.mono ?_
        rintro e w8 ⟨A8, c8, rfl, hS8, hB8⟩
        have hix8 := (World.cell?_of_block (hB8.block x4 (World.block_lt_of_cell? _ _ hix7))).trans hix7
        have HI8 := Lib.hid (HI7.out.below hB8)
        have HRA8 := Lib.hid (HRA7.out.below hB8)
        have HS78 := Lib.hid (HS7.out.below hB8)
        have HB8 := Lib.hid (below_step HB7.out hB8)
        have HS8 := Lib.hid hS8
        obtain ⟨fl, hfl⟩ : ∃ fl, (IH (found (textsD (sortD (ses.map De.dc))) p)).length = fl := ⟨_, rfl⟩
        have Hfl := Lib.hid hfl
        have hfb : fl ≤ 65536 := by
          have h1 := found_len (textsD (sortD (ses.map De.dc))) p
          have h2 := Hfit.out
          rw [IH_length] at hfl
          rw [rowT_length] at h2
          omega
        rw [hfl]
        clear hix7 hB8 hS8 HL7 HRA7 HI7 HS7 hfl
        go_upto_region 14 with fail
        have HCn := Lib.hid (fun (W : World) (h : W.cell? ⟨x4, 0, none⟩ = some (.pointer (some ⟨ix, 0, none⟩)) ∧ Below w8.heap.size w8 W) => countT (HI8.out.below h.2) Ap np cp p ((HP.out.below HB8.out).below h.2) Hpl.out (by omega) Hpb.out)
        have HDc := Lib.hid (fun (W : World) (h : W.cell? ⟨x4, 0, none⟩ = some (.pointer (some ⟨ix, 0, none⟩)) ∧ Below w8.heap.size w8 W) => docsT (HI8.out.below h.2))
        have HK0 := Lib.hid hix8
        have HBw := Lib.hid (fun (W : World) (h : W.cell? ⟨x4, 0, none⟩ = some (.pointer (some ⟨ix, 0, none⟩)) ∧ Below w8.heap.size w8 W) => h.2)
        obtain ⟨fc, hfc⟩ : ∃ fc, (found (textsD (sortD (ses.map De.dc))) p).length = fc := ⟨_, rfl⟩
        obtain ⟨dc, hdc⟩ : ∃ dc, (textsD (sortD (ses.map De.dc))).length = dc := ⟨_, rfl⟩
        rw [hfc] at HCn
        rw [hdc] at HDc
        have k1 : (fl == fl) = true := by simp
        have k2 : (fc == fc) = true := by simp
        have k3 : (dc == dc) = true := by simp
        clear hfc hdc
        go_cut [101] (fun s wx => s = .bool false ∧ Hid (Below w8.heap.size w8 wx))
        case first =>
          go_region_held3 (fun w' => w'.cell? ⟨x4, 0, none⟩ = some (.pointer (some ⟨ix, 0, none⟩)) ∧ Below w8.heap.size w8 w')
            (first | assumption | exact keep0 HK0.out _ | exact keepD HK0.out _ | exact keep00 HK0.out | exact keepS (by assumption) (by assumption) | exact keepE HK0.out (by assumption))
            (first | (go_at_call 22; refine (HCn.out _ (by assumption)).mono ?_; rintro e w5' ⟨rfl, hB5'⟩) | (go_at_call 23; refine (HDc.out _ (by assumption)).mono ?_; rintro e w6' ⟨rfl, rfl⟩))
          all_goals go_wp2_with fail
          all_goals go_meet
          all_goals exact ⟨rfl, Lib.hid (HBw.out _ (by first | assumption | exact keepE HK0.out (by assumption) | exact keepS (by assumption) (by assumption)))⟩
        case rest =>
          obtain ⟨rfl, HBc⟩ := hcut
          have HI9 := Lib.hid (HI8.out.below HBc.out)
          have HRA9 := Lib.hid (HRA8.out.below HBc.out)
          have HSa := Lib.hid (HS78.out.below HBc.out)
          have HSb := Lib.hid (HS8.out.below HBc.out)
          have HB9 := Lib.hid (below_step HB8.out HBc.out)
          have hix9 := (World.cell?_of_block (HBc.out.block x4 (World.block_lt_of_cell? _ _ hix8))).trans hix8
          clear hix8 HI8 HRA8 HS78 HS8 HB8 HCn HDc HK0 k1 k2 k3 HBw HBc
          have HTl := Lib.hid (fun t ht => textsD_lt Hs.out.d.txt t ht)
          go_wp2_with fail
          go_loopw [18] (fun q wr => ∃ i : Nat, i ≤ fl ∧ q = .int .i64 (i : Int) ∧ Hid (Below wc.heap.size wc wr)) (fun q _ => fl - (intOf q).toNat)
          case atStart => exact ⟨0, Nat.zero_le _, rfl, Lib.hid (Below.refl _ _)⟩
          case round =>
            obtain ⟨i, hi, rfl, HW⟩ := hrel
            by_cases hif : i < fl
            · have hfi : i < (IH (found (textsD (sortD (ses.map De.dc))) p)).length := by rw [Hfl.out]; exact hif
              have hS1 := HSa.out.below HW.out
              have hS2 := HSb.out.below HW.out
              obtain ⟨ba', oa, hA7, hca⟩ := hS1.lit (j := i * 2) (by rw [VH_length]; omega)
              obtain ⟨bb, ob, hA8, hcb⟩ := hS2.lit (j := i * 2) (by rw [VH_length]; omega)
              have hca1 := hS1.cell _ hA7 (i * 2 + 1) _ (VH_get1 _ i hfi)
              have hcb1 := hS2.cell _ hA8 (i * 2 + 1) _ (VH_get1 _ i hfi)
              rw [VH_get0 _ i hfi] at hca hcb
              rw [show (⟨ba', oa, none⟩ : Addr).add (i * 2 + 1) = ⟨ba', oa + i * 2 + 1, none⟩ by unfold Addr.add; split <;> simp_all; omega] at hca1
              rw [show (⟨bb, ob, none⟩ : Addr).add (i * 2 + 1) = ⟨bb, ob + i * 2 + 1, none⟩ by unfold Addr.add; split <;> simp_all; omega] at hcb1
              generalize (IH (found (textsD (sortD (ses.map De.dc))) p)).getD i (0, 0) = hh at *
              have HWi := Lib.hid HW.out
              clear hS1 hS2 hfi
              subst hA7
              subst hA8
              go_wp2_with fail
              go_quiet (fail)
              go_wp2_with fail
              go_roundw
              case rel => exact ⟨i + 1, by omega, by go_num, Lib.hid (HWi.out.trans (below_drewN _ _ _))⟩
              case measure => simp [intOf]; omega
            · obtain rfl : i = fl := by omega
              have hixr := (World.cell?_of_block (HW.out.block x4 (World.block_lt_of_cell? _ _ hix9))).trans hix9
              have HEx := Lib.hid (extractX_any (HI9.out.below HW.out) HTl.out d f k)
              have HRAr := Lib.hid (HRA9.out.below HW.out)
              have HBr := Lib.hid (below_step HB9.out HW.out)
              clear hix9
              go_wp2_with fail
              go_at_call 24
              refine HEx.out.mono ?_
              rintro e wa ⟨Aa, ca, rfl, hSa, hBa⟩
              have HSx := Lib.hid hSa
              have HE7 := Lib.hid (extract7_any wa A6 te c6 _ d f k (HRAr.out.below hBa) (by have := Hfit.out; rw [rowT_length] at this; omega))
              have HBa := Lib.hid (below_step HBr.out hBa)
              have hel : (ext (textsD (sortD (ses.map De.dc))) d f k).length ≤ 65536 := ext_len _ _ _ _ (by have := Hfit.out; rw [rowT_length] at this; omega)
              obtain ⟨xl, hxl⟩ : ∃ xl, (ext (textsD (sortD (ses.map De.dc))) d f k).length = xl := ⟨_, rfl⟩
              have Hxl := Lib.hid hxl
              rw [hxl] at HE7 hel ⊢
              clear hSa hBa HEx hxl
              go_wp2_with fail
              go_at_call 25
              refine HE7.out.mono ?_
              rintro e wb ⟨Ab, cb, rfl, hSb, hBb⟩
              have HSm := Lib.hid (same9_true wb Aa Ab xl ca cb _ (HSx.out.below hBb) hSb Hxl.out (by omega))
              have HBb := Lib.hid (below_step HBa.out hBb)
              clear hSb hBb HE7
              go_wp2_with fail
              go_at_call 17
              refine HSm.out.mono ?_
              rintro e wd ⟨rfl, qd, rfl⟩
              have HBd := Lib.hid (HBb.out.trans (below_drewN _ _ qd))
              have HK := Lib.hid (known9_any (wb.drewN qd))
              generalize wb.drewN qd = we at *
              go_wp2_with fail
              go_at_call 14
              refine HK.out.mono ?_
              rintro e wf ⟨rfl, hBf⟩
              have HBf := Lib.hid (below_step HBd.out hBf)
              go_wp2_with fail
              go_ret
              exact ⟨rfl, HBf.out⟩
      · obtain ⟨hR2, -⟩ | ⟨-, rfl, hB4⟩ := hN4
        case inl => exact absurd hR2 hR
        have hz0 := (World.cell?_of_block (hB4.block x (World.block_lt_of_cell? _ _ hy0))).trans hy0
        have hz1 := (World.cell?_of_block (hB4.block x (World.block_lt_of_cell? _ _ hy1))).trans hy1
        have HB4 := Lib.hid (below_step HB3.out hB4)
        have hS4 := Hs.out.below HB4.out
        have HN9 := Lib.hid (new9_any w4 sA sG sn sc sng scg ses sgs hS4.d hS4.g HLi.out)
        have HR := Lib.hid hR
        clear hR hB4 hS4 hy0 hy1 HNw
        go_wp2_with fail
        go_at_call 13
        refine HN9.out.mono ?_
        rintro e w5 (⟨hR2, -⟩ | ⟨-, rfl, hB5⟩)
        · exact absurd hR2 HR.out
        have HB5 := Lib.hid (below_step HB4.out hB5)
        have HK := Lib.hid (known9_any w5)
        clear hB5 HN9
        go_wp2_with fail
        go_at_call 14
        refine HK.out.mono ?_
        rintro e w6 ⟨rfl, hB6⟩
        have HB6 := Lib.hid (below_step HB5.out hB6)
        go_wp2_with fail
        go_ret
        exact ⟨rfl, HB6.out⟩
end Go.Proofs.YtphccomhggnccaaGreat
