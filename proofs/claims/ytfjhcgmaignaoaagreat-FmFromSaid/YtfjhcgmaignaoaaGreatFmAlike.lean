/- The laws' alike: an index is what plain texts are, as somebody asks. -/
import Derived.Test.YtfjhcgmaignaoaaGreatFmAskB
import Derived.Test.YtfjhcgmaignaoaaGreatFmArg
namespace Go.Proofs.YtfjhcgmaignaoaaGreat
set_option linter.unusedVariables false
set_option linter.unusedSimpArgs false
set_option maxRecDepth 100000
open Go.RowKit Fm Rank

theorem kqDN3 {w2 : World} {a1 a2 a3 : Addr} {v1 v2 v3 : Value} (h1 : w2.cell? a1 = some v1) (h2 : w2.cell? a2 = some v2) (h3 : w2.cell? a3 = some v3) (q : Nat) : (w2.drewN q).cell? a1 = some v1 ∧ (w2.drewN q).cell? a2 = some v2 ∧ (w2.drewN q).cell? a3 = some v3 ∧ Below w2.heap.size w2 (w2.drewN q) := ⟨h1, h2, h3, below_drewN _ _ _⟩
theorem kqN3 {w2 W : World} {a1 a2 a3 : Addr} {v1 v2 v3 : Value} (h : W.cell? a1 = some v1 ∧ W.cell? a2 = some v2 ∧ W.cell? a3 = some v3 ∧ Below w2.heap.size w2 W) (q : Nat) : (W.drewN q).cell? a1 = some v1 ∧ (W.drewN q).cell? a2 = some v2 ∧ (W.drewN q).cell? a3 = some v3 ∧ Below w2.heap.size w2 (W.drewN q) := ⟨h.1, h.2.1, h.2.2.1, h.2.2.2.trans (below_drewN _ W q)⟩
theorem ext_length (ts : List (List Nat)) (d f n : Int) (hb : (body ts).length ≤ 65535) : (ext ts d f n).length ≤ 65535 := by
  unfold ext
  split
  · simp
  · rw [List.length_take, List.length_drop]
    rcases Nat.lt_or_ge d.toNat ts.length with h | h
    · have q1 := congrArg List.length (body_take_succ ts d.toNat h)
      have q2 := body_take_le ts (d.toNat + 1)
      rw [List.length_append, txt_length] at q1
      omega
    · simp [List.getD, List.getElem?_eq_none h]
set_option maxHeartbeats 8000000 in
theorem alike_any7 {w : World} {base x : Nat} {ts ps : List (List Nat)} {sa : List Nat} {asks : List Int} (A P B : Option Addr) (n c np cp na ca : Nat) (h : IdxM w base x (rowT ts) sa) (hA : RArg w A n c ts) (hP : RArg w P np cp ps) (hB : Sl w B (VI asks)) (hna : asks.length = na)
    (hnp : np ≤ 65536) (hps : ∀ p ∈ ps, p.length ≤ 65536) (hna2 : na ≤ 65536) :
    Calls Tryz.prog 10 #[.pointer (some ⟨x, 0, none⟩), .slice A n c, .slice P np cp, .slice B na ca] w (TrueBelow w) := by
  have hm := h.len
  have hrl := rowT_length ts
  have hb : (body ts).length ≤ 65535 := by omega
  have hn : n ≤ 65535 := by have := len_le_body ts; have := hA.len; omega
  have HI := Lib.hid h
  have HA := Lib.hid hA
  have Hl := Lib.hid hA.len
  have HP := Lib.hid hP
  have Hpl := Lib.hid hP.len
  have HBa := Lib.hid hB
  have Hna := Lib.hid hna
  have Hps := Lib.hid hps
  have HD := Lib.hid (docsT h)
  rw [hA.len] at HD
  have HT := Lib.hid (turnedX_any h)
  have Hb := Lib.hid hb
  have Hm := Lib.hid hm
  clear h hA hP hB hna hps hb hrl
  go_enter Tryz.func10, Tryz.ntmps10
  go_wp2_with fail
  go_at_call 17
  refine HD.out.mono ?_
  rintro e w' ⟨rfl, rfl⟩
  clear HD
  go_wp2_with fail
  go_at_call 15
  refine HT.out.mono ?_
  rintro e w1 ⟨A1, c1, rfl, hS1, hB1⟩
  have HR := Lib.hid (turned7_any w1 A n c ts (HA.out.below hB1) Hm.out)
  have HS1 := Lib.hid hS1
  have HB1 := Lib.hid hB1
  clear hS1 hB1 HT
  go_wp2_with fail
  go_at_call 18
  refine HR.out.mono ?_
  rintro e w2 ⟨A2, c2, sb, rfl, hsb, hS2, hB2⟩
  obtain rfl := hsb.unique HI.out.ord
  have hS1' := HS1.out.below hB2
  have HIn := Lib.hid (ints7_any A1 A2 (NI (trn (rowT ts) sb)) (rowT ts).length (rowT ts).length c1 c2 w2 hS1' hS2 (by rw [NI_length, trn_length HI.out.ord]) (by rw [NI_length, trn_length HI.out.ord]) (by have := Hm.out; omega))
  have HB2 := Lib.hid (below_step HB1.out hB2)
  clear hsb hS2 hB2 hS1' HR HS1 HB1
  go_wp2_with fail
  go_at_call 14
  refine HIn.out.mono ?_
  rintro e w3 ⟨rfl, q3, rfl⟩
  have hB3 := HB2.out.trans (below_drewN w.heap.size w2 q3)
  have HI3 := Lib.hid (HI.out.below hB3)
  have HL1 := Lib.hid (lenT_out HI3.out (-1) (.inl (by omega)))
  have HL2 := Lib.hid (lenT_out HI3.out (n : Int) (.inr (by rw [Hl.out]; exact Int.le_refl _)))
  have HB3 := Lib.hid hB3
  clear hB3 HIn HB2
  generalize w2.drewN q3 = w4 at *
  go_wp2_with fail
  go_at_call 19
  refine HL1.out.mono ?_
  rintro e w' ⟨rfl, rfl⟩
  go_wp2_with fail
  go_at_call 19
  refine HL2.out.mono ?_
  rintro e w' ⟨rfl, rfl⟩
  clear HL1 HL2
  go_wp2_with fail
  go_loopw [9] (fun q wr => ∃ i : Nat, i ≤ np ∧ q = .int .i64 (i : Int) ∧ Hid (Below w.heap.size w wr)) (fun q _ => np - (intOf q).toNat)
  case atStart => exact ⟨0, Nat.zero_le _, rfl, HB3⟩
  case round =>
    clear HB3 HI3
    obtain ⟨i, hi, rfl, HB⟩ := hrel
    by_cases hip : i < np
    · as_aux_lemma =>
      obtain ⟨ap, Ad, L, C, rfl, hcell0, hL, hLC, hnil, hS⟩ := HP.out.row i hip
      have hil : i < ps.length := by rw [Hpl.out]; exact hip
      have hpm : ps.getD i [] ∈ ps := by rw [getD_in2 hil]; exact List.getElem_mem hil
      have hL6 : L ≤ 65536 := by rw [← hL]; exact Hps.out _ hpm
      have hlt := HP.out.lt _ hpm
      have HcP := Lib.hid (fun wx (hx : Below w.heap.size w wx) => (World.cell?_of_block (hx.block _ (World.block_lt_of_cell? w _ hcell0))).trans hcell0)
      have HS := Lib.hid hS
      have HL := Lib.hid hL
      have Hlt := Lib.hid hlt
      have hcw := HcP.out _ HB.out
      have HRo := Lib.hid (roomy_any wr Ad L C (ps.getD i []) (hS.below HB.out) hL hnil hL6)
      clear hcell0 hL hnil hS hlt hpm hil
      generalize ps.getD i [] = p at *
      go_wp2_with fail
      go_at_call 20
      refine HRo.out.mono ?_
      rintro e w5 ⟨g, cc, rfl, hcc, hg, hS5, hB5⟩
      have HB5 := Lib.hid (below_step HB.out hB5)
      have HS5 := Lib.hid hS5
      have hcw5 := HcP.out _ HB5.out
      have HLo := Lib.hid (locate7_any w5 A Ad n c L C ts p (HA.out.below HB5.out) (HS.out.below HB5.out) HL.out hL6 Hlt.out Hb.out)
      clear hS5 hB5 HRo hcw
      go_wp2_with fail
      go_at_call 21
      refine HLo.out.mono ?_
      rintro e w6 ⟨A6, c6, rfl, hS6, hB6⟩
      have HB6 := Lib.hid (below_step HB5.out hB6)
      have HS6 := Lib.hid hS6
      have HR6 := Lib.hid (HS5.out.below hB6)
      have hcw6 := HcP.out _ HB6.out
      have hS0 := sl_cutY HR6.out 0 L
      rw [Nat.add_zero, List.drop_zero, List.take_left' HL.out] at hS0
      have HS0 := Lib.hid hS0
      have HI6 := Lib.hid (HI.out.below HB6.out)
      have HLx := Lib.hid (locateT HI6.out (some ⟨g, 0, none⟩) L cc p hS0 HL.out (by omega) Hlt.out)
      have j1 : (L : Int) ≤ (cc : Int) := by omega
      have j3 : L ≤ cc := by omega
      clear hS6 hB6 HLo HS5 hcw5 hS0 HB5
      go_wp2_with fail
      go_at_call 23
      refine HLx.out.mono ?_
      rintro e w7 ⟨A7, c7, rfl, hS7, hB7⟩
      have HB7 := Lib.hid (below_step HB6.out hB7)
      have HHt := Lib.hid (hits_true w7 A7 A6 (IH (found ts p)).length c7 c6 (IH (found ts p)) hS7 (HS6.out.below hB7) rfl (by
        rw [IH_length]
        have := fnd7_length ts p ts.length
        rw [fnd7_all, List.take_length] at this
        have := Hb.out
        omega))
      have HI7 := Lib.hid (HI6.out.below hB7)
      have HR7 := Lib.hid (HR6.out.below hB7)
      have HS07 := Lib.hid (HS0.out.below hB7)
      clear hS7 hB7 HLx HI6 HR6 HS0 HB6 HS6
      go_wp2_with fail
      go_at_call 22
      refine HHt.out.mono ?_
      rintro e w8 ⟨rfl, q8, rfl⟩
      have hB8 := HB7.out.trans (below_drewN w.heap.size w7 q8)
      have HB8 := Lib.hid hB8
      have hcw8 := HcP.out _ hB8
      have HI8 := Lib.hid (HI7.out.below (below_drewN _ w7 q8))
      have HR8 := Lib.hid (HR7.out.below (below_drewN _ w7 q8))
      have HCn := Lib.hid (countT HI8.out (some ⟨g, 0, none⟩) L cc p (HS07.out.below (below_drewN _ w7 q8)) HL.out (by omega) Hlt.out)
      rw [← IH_length] at HCn
      clear hB8 HHt HI7 HR7 HS07 HB7 hcw6
      generalize w7.drewN q8 = w9 at *
      go_wp2_with fail
      go_at_call 24
      refine HCn.out.mono ?_
      rintro e w10 ⟨rfl, hB10⟩
      have HB10 := Lib.hid (below_step HB8.out hB10)
      have hcw10 := HcP.out _ HB10.out
      have HSt := Lib.hid (stands_any w10 g cc Ad L C p (HR8.out.below hB10) (HS.out.below HB10.out) HL.out hcc hL6)
      clear hB10 HCn HB8 hcw8
      go_wp2_with fail
      go_at_call 25
      refine HSt.out.mono ?_
      rintro e w11 ⟨rfl, q11, rfl⟩
      go_wp2_with fail
      go_roundw
      case rel => exact ⟨i + 1, by omega, by go_num, Lib.hid (HB10.out.trans (below_drewN _ _ _))⟩
      case measure => simp [intOf]; omega
    · obtain rfl : np = i := by omega
      obtain ⟨w12, hw12⟩ : ∃ W, W = wr := ⟨_, rfl⟩
      subst hw12
      go_wp2_with fail
      go_loopw [12] (fun q wr => ∃ d : Nat, d ≤ n ∧ q = .int .i64 (d : Int) ∧ Hid (Below w.heap.size w wr)) (fun q _ => n - (intOf q).toNat)
      case atStart => exact ⟨0, Nat.zero_le _, rfl, HB⟩
      case round =>
        clear HB
        obtain ⟨d, hd, rfl, HB⟩ := hrel
        by_cases hdn : d < n
        · as_aux_lemma =>
          obtain ⟨a, Ad, L, C, rfl, hcell0, hL, hLC, hnil, hS⟩ := HA.out.row d hdn
          have hcw := (World.cell?_of_block (HB.out.block _ (World.block_lt_of_cell? w _ hcell0))).trans hcell0
          have HLn := Lib.hid (fun q' => lenT ((HI.out.below HB.out).below (below_drewN _ wr q')) d (by rw [Hl.out]; exact hdn))
          rw [hL] at HLn
          have j1 : (d : Int) < (n : Int) := by omega
          have j2 : (0 : Int) ≤ (d : Int) := by omega
          clear hcell0 hL hnil hS hLC
          go_wp2_with fail
          go_quiet ((go_at_call 19; exact Calls.quiet_of (HLn.out _)))
          go_wp2_with fail
          go_roundw
          case rel => exact ⟨d + 1, by omega, by go_num, Lib.hid (HB.out.trans (below_drewN _ _ _))⟩
          case measure => simp [intOf]; omega
        · obtain rfl : n = d := by omega
          go_wp2_with fail
          go_loopw [13] (fun q wr => ∃ i : Nat, i ≤ na + 3 ∧ q = .int .i64 (i : Int) ∧ Hid (Below w.heap.size w wr)) (fun q _ => na + 4 - (intOf q).toNat)
          case atStart => exact ⟨0, Nat.zero_le _, rfl, HB⟩
          case round =>
            clear HB
            obtain ⟨i, hi, rfl, HB⟩ := hrel
            by_cases hin : i + 2 < na
            · as_aux_lemma =>
              obtain ⟨bb, ob, rfl, _⟩ := HBa.out.lit (j := 0) (by rw [VI_length, Hna.out]; omega)
              have hcell := fun (W : World) (hW : Below w.heap.size w W) (k : Nat) (hk : k < na) => (HBa.out.below hW).cell _ rfl k _ (VI_get asks k (by rw [Hna.out]; exact hk))
              have hc1 := hcell wr HB.out i (by omega)
              have hc2 := hcell wr HB.out (i + 1) (by omega)
              have hc3 := hcell wr HB.out (i + 2) hin
              rw [show ∀ k, (⟨bb, ob, none⟩ : Addr).add k = ⟨bb, ob + k, none⟩ from fun k => by unfold Addr.add; split <;> simp_all] at hc1 hc2 hc3
              generalize asks.getD i 0 = x1 at *
              generalize asks.getD (i + 1) 0 = x2 at *
              generalize asks.getD (i + 2) 0 = x3 at *
              have HEx := Lib.hid (fun (W : World) (h : W.cell? ⟨bb, ob + i, none⟩ = some (.int .i64 x1) ∧ W.cell? ⟨bb, ob + (i + 1), none⟩ = some (.int .i64 x2) ∧ W.cell? ⟨bb, ob + (i + 2), none⟩ = some (.int .i64 x3) ∧ Below wr.heap.size wr W) => extractX_any (HI.out.below (below_step HB.out h.2.2.2)) HA.out.lt x1 x2 x3)
              have HE7 := Lib.hid (fun (W : World) (h : W.cell? ⟨bb, ob + i, none⟩ = some (.int .i64 x1) ∧ W.cell? ⟨bb, ob + (i + 1), none⟩ = some (.int .i64 x2) ∧ W.cell? ⟨bb, ob + (i + 2), none⟩ = some (.int .i64 x3) ∧ Below wr.heap.size wr W) => extract7_any W A n c ts x1 x2 x3 (HA.out.below (below_step HB.out h.2.2.2)) Hb.out)
              have HSm := Lib.hid (fun (W : World) (A6 B7 : Option Addr) (c6 c7 : Nat) (h6 : Sl W A6 (VY (ext ts x1 x2 x3))) (h7 : Sl W B7 (VY (ext ts x1 x2 x3))) => same_true W A6 B7 (ext ts x1 x2 x3).length c6 c7 (ext ts x1 x2 x3) h6 h7 rfl (by have := ext_length ts x1 x2 x3 Hb.out; omega))
              have j1 : IntKind.i64.wrap ((i : Int) + 1) = (i : Int) + 1 := by rw [IntWalk.i64_in _ (by omega)]
              have j2 : IntKind.i64.wrap ((i : Int) + 2) = (i : Int) + 2 := by rw [IntWalk.i64_in _ (by omega)]
              have j3 : (i : Int) < (na : Int) := by omega
              have j4 : (i : Int) + 1 < (na : Int) := by omega
              have j5 : (i : Int) + 2 < (na : Int) := by omega
              have j6 : (0 : Int) ≤ (i : Int) := by omega
              have j7 : (0 : Int) ≤ (i : Int) + 1 := by omega
              have j8 : (0 : Int) ≤ (i : Int) + 2 := by omega
              have j9 : ((i : Int) + 1).toNat = i + 1 := by omega
              have j10 : ((i : Int) + 2).toNat = i + 2 := by omega
              clear hcell hi hn hnp
              generalize ext ts x1 x2 x3 = E at *
              go_wp2_with fail
              go_region_held3 (fun W => W.cell? ⟨bb, ob + i, none⟩ = some (.int .i64 x1) ∧ W.cell? ⟨bb, ob + (i + 1), none⟩ = some (.int .i64 x2) ∧ W.cell? ⟨bb, ob + (i + 2), none⟩ = some (.int .i64 x3) ∧ Below wr.heap.size wr W)
                (first | exact keep3D' hc1 hc2 hc3 | exact kqDN3 hc1 hc2 hc3 _ | exact kqN3 (by assumption) _ | exact keep3K (by assumption) (by assumption) | fail)
                (first | (go_at_call 8; (with_reducible refine (HSm.out _ _ _ _ _ (by assumption) (by assumption)).mono ?_); rintro e W8 ⟨rfl, q8, rfl⟩) | (go_at_call 27; (with_reducible refine (HE7.out _ (by assumption)).mono ?_); rintro e W7 ⟨B7, c7, rfl, hS7, hB7⟩; have hS67 := Sl.below (by assumption) hB7) | (go_at_call 26; (with_reducible refine (HEx.out _ (by assumption)).mono ?_); rintro e W6 ⟨A6, c6, rfl, hS6, hB6⟩) | fail "NO ARM")
              rename_i hh
              obtain ⟨g0, g1, g2, gB⟩ := hh
              have GB := Lib.hid (below_step HB.out gB)
              clear gB g0 g1 g2 hc1 hc2 hc3 HEx HE7 HSm
              first
                | (generalize W7.drewN q8 = w9 at GB ⊢
                   go_wp2_with fail
                   go_roundw
                   case rel => exact ⟨i + 3, by omega, by go_num, GB⟩
                   case measure => simp [intOf]; omega)
                | (go_wp2_with fail
                   go_roundw
                   case rel => exact ⟨i + 3, by omega, by go_num, by first | exact GB | exact Lib.hid (GB.out.trans (below_drewN _ _ _))⟩
                   case measure => simp [intOf]; omega)
            · have j5 : ¬ (i : Int) + 2 < (na : Int) := by omega
              go_wp2_with fail
              go_ret
              exact ⟨rfl, HB.out⟩
end Go.Proofs.YtfjhcgmaignaoaaGreat
