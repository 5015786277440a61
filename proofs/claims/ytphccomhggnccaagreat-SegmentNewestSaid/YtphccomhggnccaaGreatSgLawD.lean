/- The law SegmentNewest, walked. -/
import Derived.Test.YtphccomhggnccaaGreatSgM0
import Derived.Test.YtphccomhggnccaaGreatSgG
import Derived.Test.YtphccomhggnccaaGreatSgP
set_option linter.unusedVariables false
set_option linter.unusedSimpArgs false
set_option maxRecDepth 100000
namespace Go.Proofs.YtphccomhggnccaaGreat
open Go.RowKit Go.Maps Sg Fm
def notIn (s : Sgm) (d : Dc) : Bool := !((keysD s.1).contains d.1 || s.2.contains d.1)
theorem mrg_two (last : Bool) (s t : Sgm) (hs : Once s) (ht : Once t) : (mrg last [s, t]).ds = s.1 ++ t.1.filter (notIn s) := by
  have e1 : mrg last [s, t] = mgS last (mgS last ⟨[], [], []⟩ s) t := rfl
  obtain ⟨a1, a2, a3⟩ := foldS last ⟨[], [], []⟩ s hs
  obtain ⟨b1, b2, b3⟩ := foldS last (mgS last ⟨[], [], []⟩ s) t ht
  rw [e1, b1, a1]
  have e2 : ([] : List Dc) ++ s.1.filter (fun d => decide (d.1 ∉ ([] : List Key))) = s.1 := by simp
  rw [show (⟨[], [], []⟩ : Sg.Mg).ds = [] from rfl, show (⟨[], [], []⟩ : Sg.Mg).seen = [] from rfl, e2]
  refine congrArg (s.1 ++ ·) (List.filter_congr fun d _ => ?_)
  unfold notIn
  have h3 := a3 d.1
  simp only [List.not_mem_nil, false_or] at h3
  have h4 : (d.1 ∈ (mgS last ⟨[], [], []⟩ s).seen) ↔ (d.1 ∈ keysD s.1 ∨ d.1 ∈ s.2) := h3
  by_cases q1 : d.1 ∈ keysD s.1 <;> by_cases q2 : d.1 ∈ s.2 <;> simp [h4, q1, q2]
theorem mrg_last (l : List Sgm) (h : SgsOk l) : (mrg true l).gs = [] := by
  cases hg : (mrg true l).gs with
  | nil => rfl
  | cons a r =>
    have := (((h.mg true).gs a).1 (by rw [hg]; exact List.mem_cons_self)).1
    cases this
theorem filt_succ {s : Sgm} {l : List Dc} {k : Nat} (h : k < l.length) : ((l.take (k + 1)).filter (notIn s)).length = ((l.take k).filter (notIn s)).length + (notIn s (l.getD k default)).toNat := by
  rw [List.take_succ_eq_append_getElem h, List.filter_append, List.length_append]
  simp only [List.getD, List.getElem?_eq_getElem h, Option.getD_some]
  by_cases hq : notIn s l[k] = true <;> simp [hq]
set_option maxHeartbeats 16000000 in
theorem lawNewest (w : World) (s t : St) (hs : SetOk w s) (ht : SetOk w t) (last : Bool) :
    Calls Tryz.prog 6 #[.agg #[.slice s.A s.n s.c, .slice s.Ag s.ng s.cg], .agg #[.slice t.A t.n t.c, .slice t.Ag t.ng t.cg], .bool last] w fun e w' => e = .returned (.bool true) ∧ Below w.heap.size w w' := by
  obtain ⟨A1, n1, c1, es1, G1, ng1, cg1, gs1⟩ := s
  obtain ⟨A2, n2, c2, es2, G2, ng2, cg2, gs2⟩ := t
  have Hs := Lib.hid hs
  have Ht := Lib.hid ht
  obtain ⟨x, hx⟩ : ∃ x, w.heap.size = x := ⟨_, rfl⟩
  have hz1 : (w.alloc (.cells #[.slice A1 n1 c1, .slice G1 ng1 cg1] 25)).heap.size = x + 1 := by rw [World.size_alloc, hx]
  have hz2 : ((w.alloc (.cells #[.slice A1 n1 c1, .slice G1 ng1 cg1] 25)).alloc (.cells #[.slice A2 n2 c2, .slice G2 ng2 cg2] 25)).heap.size = x + 1 + 1 := by rw [World.size_alloc, hz1]
  have hb1 : (w.alloc (.cells #[.slice A1 n1 c1, .slice G1 ng1 cg1] 25)).heap[x]? = some (.cells #[.slice A1 n1 c1, .slice G1 ng1 cg1] 25 (0, 0)) := by rw [← hx]; exact heap_alloc_new w _
  have hb2 : ((w.alloc (.cells #[.slice A1 n1 c1, .slice G1 ng1 cg1] 25)).alloc (.cells #[.slice A2 n2 c2, .slice G2 ng2 cg2] 25)).heap[x + 1]? = some (.cells #[.slice A2 n2 c2, .slice G2 ng2 cg2] 25 (0, 0)) := by rw [← hz1]; exact heap_alloc_new _ _
  have hb1' : ((w.alloc (.cells #[.slice A1 n1 c1, .slice G1 ng1 cg1] 25)).alloc (.cells #[.slice A2 n2 c2, .slice G2 ng2 cg2] 25)).heap[x]? = some (.cells #[.slice A1 n1 c1, .slice G1 ng1 cg1] 25 (0, 0)) := blk_alloc hb1 _
  have hb3 : (((w.alloc (.cells #[.slice A1 n1 c1, .slice G1 ng1 cg1] 25)).alloc (.cells #[.slice A2 n2 c2, .slice G2 ng2 cg2] 25)).alloc (.cells #[.slice A1 n1 c1, .slice G1 ng1 cg1, .slice A2 n2 c2, .slice G2 ng2 cg2] 25)).heap[x + 1 + 1]? = some (.cells #[.slice A1 n1 c1, .slice G1 ng1 cg1, .slice A2 n2 c2, .slice G2 ng2 cg2] 25 (0, 0)) := by rw [← hz2]; exact heap_alloc_new _ _
  have hCb : Below w.heap.size w ((w.alloc (.cells #[.slice A1 n1 c1, .slice G1 ng1 cg1] 25)).alloc (.cells #[.slice A2 n2 c2, .slice G2 ng2 cg2] 25)) := (below_new w _).alloc (below_new w _).size _
  have hCc := below_new ((w.alloc (.cells #[.slice A1 n1 c1, .slice G1 ng1 cg1] 25)).alloc (.cells #[.slice A2 n2 c2, .slice G2 ng2 cg2] 25)) (.cells #[.slice A1 n1 c1, .slice G1 ng1 cg1, .slice A2 n2 c2, .slice G2 ng2 cg2] 25)
  have hCC := hCb.trans (hCc.mono hCb.size)
  have c10 : ((w.alloc (.cells #[.slice A1 n1 c1, .slice G1 ng1 cg1] 25)).alloc (.cells #[.slice A2 n2 c2, .slice G2 ng2 cg2] 25)).cell? ⟨x, 0, none⟩ = some (.slice A1 n1 c1) := cell_blk hb1' 0
  have c11 : ((w.alloc (.cells #[.slice A1 n1 c1, .slice G1 ng1 cg1] 25)).alloc (.cells #[.slice A2 n2 c2, .slice G2 ng2 cg2] 25)).cell? ⟨x, 1, none⟩ = some (.slice G1 ng1 cg1) := cell_blk hb1' 1
  have c20 : ((w.alloc (.cells #[.slice A1 n1 c1, .slice G1 ng1 cg1] 25)).alloc (.cells #[.slice A2 n2 c2, .slice G2 ng2 cg2] 25)).cell? ⟨x + 1, 0, none⟩ = some (.slice A2 n2 c2) := cell_blk hb2 0
  have c21 : ((w.alloc (.cells #[.slice A1 n1 c1, .slice G1 ng1 cg1] 25)).alloc (.cells #[.slice A2 n2 c2, .slice G2 ng2 cg2] 25)).cell? ⟨x + 1, 1, none⟩ = some (.slice G2 ng2 cg2) := cell_blk hb2 1
  have HC := Lib.hid (fun (W : World) (hB : Below ((w.alloc (.cells #[.slice A1 n1 c1, .slice G1 ng1 cg1] 25)).alloc (.cells #[.slice A2 n2 c2, .slice G2 ng2 cg2] 25)).heap.size ((w.alloc (.cells #[.slice A1 n1 c1, .slice G1 ng1 cg1] 25)).alloc (.cells #[.slice A2 n2 c2, .slice G2 ng2 cg2] 25)) W) => And.intro ((World.cell?_of_block (hB.block x (World.block_lt_of_cell? _ _ c10))).trans c10) (And.intro ((World.cell?_of_block (hB.block x (World.block_lt_of_cell? _ _ c11))).trans c11) (And.intro ((World.cell?_of_block (hB.block (x + 1) (World.block_lt_of_cell? _ _ c20))).trans c20) ((World.cell?_of_block (hB.block (x + 1) (World.block_lt_of_cell? _ _ c21))).trans c21))))
  have HHv := Lib.hid (heavy9_any (((w.alloc (.cells #[.slice A1 n1 c1, .slice G1 ng1 cg1] 25)).alloc (.cells #[.slice A2 n2 c2, .slice G2 ng2 cg2] 25)).alloc (.cells #[.slice A1 n1 c1, .slice G1 ng1 cg1, .slice A2 n2 c2, .slice G2 ng2 cg2] 25)) (some ⟨x + 1 + 1, 0, none⟩) 2 2 [⟨A1, n1, c1, es1, G1, ng1, cg1, gs1⟩, ⟨A2, n2, c2, es2, G2, ng2, cg2, gs2⟩] (sl_blk (xs := VSt [⟨A1, n1, c1, es1, G1, ng1, cg1, gs1⟩, ⟨A2, n2, c2, es2, G2, ng2, cg2, gs2⟩]) hb3) rfl (by omega) (fun s hm => by
    simp only [List.mem_cons, List.not_mem_nil, or_false] at hm
    rcases hm with rfl | rfl
    · exact Hs.out.below hCC
    · exact Ht.out.below hCC))
  have HCC := Lib.hid hCC
  have HCc := Lib.hid hCc
  have Hx := Lib.hid hx
  clear hs ht hb1 hb2 hb1' hb3 hCb hCc hCC hz1 hz2
  go_enter Tryz.func6, Tryz.ntmps6
  go_wp2_with fail
  clear c10 c11 c20 c21
  generalize ((w.alloc (.cells #[.slice A1 n1 c1, .slice G1 ng1 cg1] 25)).alloc (.cells #[.slice A2 n2 c2, .slice G2 ng2 cg2] 25)).alloc (.cells #[.slice A1 n1 c1, .slice G1 ng1 cg1, .slice A2 n2 c2, .slice G2 ng2 cg2] 25) = w2 at *
  generalize ((w.alloc (.cells #[.slice A1 n1 c1, .slice G1 ng1 cg1] 25)).alloc (.cells #[.slice A2 n2 c2, .slice G2 ng2 cg2] 25)) = wb at *
  clear hx
  go_at_call 12
  refine HHv.out.mono ?_
  rintro e w3 ⟨b, rfl, hbw, hB3⟩
  have HB3 := Lib.hid (below_step HCC.out hB3)
  have HBb := Lib.hid (below_step HCc.out hB3)
  have Hbw := Lib.hid hbw
  clear hbw hB3 HHv HCC HCc
  cases b with
  | true =>
    go_wp2_with fail
    go_ret
    exact ⟨rfl, HB3.out⟩
  | false =>
    have hw : wtS ⟨A1, n1, c1, es1, G1, ng1, cg1, gs1⟩ + wtS ⟨A2, n2, c2, es2, G2, ng2, cg2, gs2⟩ ≤ 1500 := by simpa [wtL] using (Hbw.out rfl).1
    have HL1 : Hid (Lite (es1.map De.dc) gs1) := Lib.hid (lite_of_wt (s := ⟨A1, n1, c1, es1, G1, ng1, cg1, gs1⟩) (by omega))
    have HL2 : Hid (Lite (es2.map De.dc) gs2) := Lib.hid (lite_of_wt (s := ⟨A2, n2, c2, es2, G2, ng2, cg2, gs2⟩) (by omega))
    have Hw := Lib.hid hw
    have hS3 := Hs.out.below HB3.out
    have HN1 := Lib.hid (new9_any w3 A1 G1 n1 c1 ng1 cg1 es1 gs1 hS3.d hS3.g HL1.out)
    obtain ⟨r0, r1, r2, r3⟩ := HC.out w3 HBb.out
    clear hw hS3 Hbw
    go_wp2_with fail
    go_at_call 13
    refine HN1.out.mono ?_
    rintro e w4 hN4
    by_cases hR1 : Rise (keysD (es1.map De.dc) ++ gs1)
    case neg =>
      obtain ⟨hR2, -⟩ | ⟨-, rfl, hB4⟩ := hN4
      case inl => exact absurd hR2 hR1
      have HB4 := Lib.hid (below_step HB3.out hB4)
      have HBb4 := Lib.hid (below_step HBb.out hB4)
      clear r0 r1 r2 r3
      obtain ⟨r0, r1, r2, r3⟩ := HC.out w4 HBb4.out
      have hS4 := Ht.out.below HB4.out
      have HN2 := Lib.hid (new9_any w4 A2 G2 n2 c2 ng2 cg2 es2 gs2 hS4.d hS4.g HL2.out)
      clear hS4 hB4 hR1
      go_wp2_with fail
      go_at_call 13
      refine HN2.out.mono ?_
      rintro e w5 (⟨-, xr, esr, rfl, -, -, hB5⟩ | ⟨-, rfl, hB5⟩)
      all_goals
        have HB5 := Lib.hid (below_step HB4.out hB5)
        clear hB5 r0 r1 r2 r3
        have HK := Lib.hid (known9_any w5)
        go_wp2_with fail
        go_at_call 14
        refine HK.out.mono ?_
        rintro e wk ⟨rfl, hBk⟩
        have HBk := Lib.hid (below_step HB5.out hBk)
        go_wp2_with fail
        go_ret
        exact ⟨rfl, HBk.out⟩
    obtain ⟨-, xr1, er1, rfl, hso1, hRM1, hB4⟩ | ⟨hR2, -⟩ := hN4
    case inr => exact absurd hR1 hR2
    have HB4 := Lib.hid (below_step HB3.out hB4)
    have HBb4 := Lib.hid (below_step HBb.out hB4)
    clear r0 r1 r2 r3
    obtain ⟨r0, r1, r2, r3⟩ := HC.out w4 HBb4.out
    have hS4 := Ht.out.below HB4.out
    have HN2 := Lib.hid (new9_any w4 A2 G2 n2 c2 ng2 cg2 es2 gs2 hS4.d hS4.g HL2.out)
    have HRM1 := Lib.hid hRM1
    have Hso1 := Lib.hid hso1
    have HR1 := Lib.hid hR1
    clear hS4 hB4 hR1 hRM1 hso1 HN1
    go_wp2_with fail
    go_at_call 13
    refine HN2.out.mono ?_
    rintro e w5 hN5
    by_cases hR2 : Rise (keysD (es2.map De.dc) ++ gs2)
    case neg =>
      obtain ⟨hR3, -⟩ | ⟨-, rfl, hB5⟩ := hN5
      case inl => exact absurd hR3 hR2
      have HB5 := Lib.hid (below_step HB4.out hB5)
      clear r0 r1 r2 r3 hB5 hR2
      have HK := Lib.hid (known9_any w5)
      go_wp2_with fail
      go_at_call 14
      refine HK.out.mono ?_
      rintro e wk ⟨rfl, hBk⟩
      have HBk := Lib.hid (below_step HB5.out hBk)
      go_wp2_with fail
      go_ret
      exact ⟨rfl, HBk.out⟩
    obtain ⟨-, xr2, er2, rfl, hso2, hRM2, hB5⟩ | ⟨hR3, -⟩ := hN5
    case inr => exact absurd hR2 hR3
    have HB5 := Lib.hid (below_step HB4.out hB5)
    have HBb5 := Lib.hid (below_step HBb4.out hB5)
    have HRM1 := Lib.hid (HRM1.out.below hB5)
    have HRM2 := Lib.hid hRM2
    have Hso2 := Lib.hid hso2
    have HR2 := Lib.hid hR2
    clear r0 r1 r2 r3
    obtain ⟨r0, r1, r2, r3⟩ := HC.out w5 HBb5.out
    have hS5 := Hs.out.below HB5.out
    have HN3 := Lib.hid (segnew_any w5 A1 G1 n1 c1 ng1 cg1 es1 gs1 hS5.d hS5.g HL1.out)
    clear hS5 hB5 hR2 hRM2 hso2 HN2
    go_wp2_with fail
    go_at_call 16
    refine HN3.out.mono ?_
    rintro e w6 (⟨-, x6, sa6, rfl, hSM6, hB6⟩ | ⟨hR3, -⟩)
    case inr => exact absurd HR1.out hR3
    have HB6 := Lib.hid (below_step HB5.out hB6)
    have HBb6 := Lib.hid (below_step HBb5.out hB6)
    have HRM1 := Lib.hid (HRM1.out.below hB6)
    have HRM2 := Lib.hid (HRM2.out.below hB6)
    have HSM6 := Lib.hid hSM6
    clear r0 r1 r2 r3
    obtain ⟨r0, r1, r2, r3⟩ := HC.out w6 HBb6.out
    have hS6 := Ht.out.below HB6.out
    have HN4 := Lib.hid (segnew_any w6 A2 G2 n2 c2 ng2 cg2 es2 gs2 hS6.d hS6.g HL2.out)
    clear hS6 hB6 hSM6 HN3
    go_wp2_with fail
    go_at_call 16
    refine HN4.out.mono ?_
    rintro e w7 (⟨-, x7, sa7, rfl, hSM7, hB7⟩ | ⟨hR3, -⟩)
    case inr => exact absurd HR2.out hR3
    have hC8 := below_new w7 (.cells #[.pointer (some ⟨x6, 0, none⟩), .pointer (some ⟨x7, 0, none⟩)] 37)
    have HB7 := Lib.hid (below_step HB6.out hB7)
    have HB8 := Lib.hid (below_step HB7.out hC8)
    have HRM1 := Lib.hid ((HRM1.out.below hB7).below hC8)
    have HRM2 := Lib.hid ((HRM2.out.below hB7).below hC8)
    have ok1 := segOk_of HR1.out HL1.out Hs.out.d.txt
    have ok2 := segOk_of HR2.out HL2.out Ht.out.d.txt
    have hok : SegsOk (w7.alloc (.cells #[.pointer (some ⟨x6, 0, none⟩), .pointer (some ⟨x7, 0, none⟩)] 37)) [⟨x6, sortD (es1.map De.dc), srt gs1, sa6⟩, ⟨x7, sortD (es2.map De.dc), srt gs2, sa7⟩] := by
      refine ⟨fun s hm => ?_, fun s hm => ?_, ?_⟩
      · simp only [List.mem_cons, List.not_mem_nil, or_false] at hm
        rcases hm with rfl | rfl
        · exact ((HSM6.out.mono (Nat.zero_le _)).below hB7).below hC8
        · exact (hSM7.mono (Nat.zero_le _)).below hC8
      · simp only [List.mem_cons, List.not_mem_nil, or_false] at hm
        rcases hm with rfl | rfl
        · exact ok1
        · exact ok2
      · have h1 := wtSg_sort (es1.map De.dc) gs1
        have h2 := wtSg_sort (es2.map De.dc) gs2
        have h3 : wtD (es1.map De.dc) + wtG gs1 + (wtD (es2.map De.dc) + wtG gs2) ≤ 1500 := Hw.out
        simp only [List.map_cons, List.map_nil, Sg1.sg, List.sum_cons, List.sum_nil]
        omega
    have HMe := Lib.hid (merge_any _ last (some ⟨w7.heap.size, 0, none⟩) 2 2 _ (sl_blk (xs := VX [⟨x6, sortD (es1.map De.dc), srt gs1, sa6⟩, ⟨x7, sortD (es2.map De.dc), srt gs2, sa7⟩]) (heap_alloc_new w7 _)) rfl (by omega) hok)
    have hsg := hok.sgs
    have e0 : [(⟨x6, sortD (es1.map De.dc), srt gs1, sa6⟩ : Sg1), ⟨x7, sortD (es2.map De.dc), srt gs2, sa7⟩].map Sg1.sg = [(sortD (es1.map De.dc), srt gs1), (sortD (es2.map De.dc), srt gs2)] := rfl
    rw [e0] at HMe hsg
    rw [← Hso1.out] at HMe hsg ok1
    rw [← Hso2.out] at HMe hsg ok2
    have HSgs := Lib.hid hsg
    have Hok1 := Lib.hid ok1
    have Hok2 := Lib.hid ok2
    clear hok hsg e0 ok1 ok2 hC8 hB7 hSM7 HSM6 HN4 r0 r1 r2 r3 HR1 HR2 HL1 HL2 Hw Hso1 Hso2
    go_wp2_with fail
    go_at_call 28
    refine HMe.out.mono ?_
    rintro e w9 ⟨x9, sa9, rfl, hSM9, hB9⟩
    have Htwo := Lib.hid (mrg_two last (er1.map De.dc, srt gs1) (er2.map De.dc, srt gs2) Hok1.out.r.2 Hok2.out.r.2)
    have Hmg := Lib.hid (HSgs.out.mg last)
    have Hgl : Hid (last = true → (mrg last [(er1.map De.dc, srt gs1), (er2.map De.dc, srt gs2)]).gs = []) := Lib.hid (fun h => by subst h; exact mrg_last _ HSgs.out)
    have hok9 := HSgs.out.seg last
    generalize mrg last [(er1.map De.dc, srt gs1), (er2.map De.dc, srt gs2)] = mm at *
    have Hok9 := Lib.hid hok9
    have HB9 := Lib.hid (below_step HB8.out hB9)
    have HRM1 := Lib.hid (HRM1.out.below hB9)
    have HRM2 := Lib.hid (HRM2.out.below hB9)
    have HSM9 := Lib.hid hSM9
    clear hB9 hok9 hSM9 HMe HSgs HB8
    obtain ⟨Ad1, Ag1, cd1, cG1, hyb1, hyD1, hyG1, hya1, hyg1, hye1⟩ := HRM1.out.blk
    obtain ⟨Ad2, Ag2, cd2, cG2, hyb2, hyD2, hyG2, hya2, hyg2, hye2⟩ := HRM2.out.blk
    have hy1 : w9.cell? ⟨xr1, 0, none⟩ = some (.slice Ad1 er1.length cd1) := cell_blk hyb1 0
    have hy2 : w9.cell? ⟨xr2, 0, none⟩ = some (.slice Ad2 er2.length cd2) := cell_blk hyb2 0
    have hd1 := Hok1.out.nd
    have hd2 := Hok2.out.nd
    have hg1 := Hok1.out.ng
    rw [List.length_map] at hd1 hd2
    obtain ⟨l1, hl1⟩ : ∃ l, er1.length = l := ⟨_, rfl⟩
    obtain ⟨l2, hl2⟩ : ∃ l, er2.length = l := ⟨_, rfl⟩
    rw [hl1] at hy1 hyD1 hd1
    rw [hl2] at hy2 hyD2 hd2
    have HD1 := Lib.hid hyD1
    have HD2 := Lib.hid hyD2
    have Hl1 := Lib.hid hl1
    have Hl2 := Lib.hid hl2
    have Hg1 := Lib.hid hg1
    have HCy := Lib.hid (fun (W : World) (hB : Below w9.heap.size w9 W) => And.intro ((World.cell?_of_block (hB.block xr1 (World.block_lt_of_cell? _ _ hy1))).trans hy1) ((World.cell?_of_block (hB.block xr2 (World.block_lt_of_cell? _ _ hy2))).trans hy2))
    have Hget := Lib.hid (fun (k : Key) (t : List Nat) (hm : (k, t) ∈ mm.ds) (W : World) (hB : Below w9.heap.size w9 W) => show Calls Tryz.prog 29 #[.pointer (some ⟨x9, 0, none⟩), .string (ba k)] W (fun e w' => ∃ A c b, e = .returned (.tuple #[.slice A t.length c, .bool true, .bool b]) ∧ Sl w' A (VY t) ∧ Below W.heap.size W w') from by
      refine (getS_any (HSM9.out.below hB) Hok9.out k).mono ?_
      rintro e w' ⟨v, he, ho, hB'⟩
      have hm2 : (k, t) ∈ sortD mm.ds := (sortD_perm _).mem_iff.2 hm
      have h1 := txtOf_mem Hok9.out.kd.n hm2
      have h2 : (keysD (sortD mm.ds)).contains k = true := List.contains_iff_mem.2 (List.mem_map_of_mem (f := fun x : Dc => x.1) hm2)
      rw [h1] at ho
      have ho : w'.ownsRow W.heap.size 5 1 v t.length (VY t) := ho
      obtain ⟨A, c, hv, hS, -⟩ := own_form ho
      exact ⟨A, c, true, by rw [he, h2, hv, Bool.true_or], hS, hB'⟩)
    have Hgetx := Lib.hid (fun (k : Key) (W : World) (hB : Below w9.heap.size w9 W) => show Calls Tryz.prog 29 #[.pointer (some ⟨x9, 0, none⟩), .string (ba k)] W (fun e w' => ∃ A n c b1 b2, e = .returned (.tuple #[.slice A n c, .bool b1, .bool b2]) ∧ Below W.heap.size W w') from by
      refine (getS_any (HSM9.out.below hB) Hok9.out k).mono ?_
      rintro e w' ⟨v, he, ho, hB'⟩
      obtain ⟨A, c, hv, -⟩ := own_form ho
      exact ⟨A, _, c, _, _, by rw [he, hv], hB'⟩)
    have HgetR := Lib.hid (fun (k : Key) (b : Bool) (hb : ((keysD (er1.map De.dc)).contains k || (srt gs1).contains k) = b) (W : World) (hB : Below w9.heap.size w9 W) => show Calls Tryz.prog 30 #[.pointer (some ⟨xr1, 0, none⟩), .string (ba k)] W (fun e w' => ∃ v b1, e = .returned (.tuple #[v, .bool b1, .bool b]) ∧ Below W.heap.size W w') from by
      refine (get9_any (HRM1.out.below hB) (by rw [Hl1.out]; omega) (by have := Hg1.out; omega) (fun e he => by
        have h1 := (HD1.out.txt e he).len
        have h2 : e.t.length ≤ 4096 := Hok1.out.l.t e.dc (List.mem_map_of_mem he)
        omega) k).mono ?_
      rintro e w' ⟨v, he, hB'⟩
      exact ⟨v, _, by rw [he, hb], hB'⟩)
    clear hyb1 hyb2 hyD1 hyD2 hyG1 hyG2 hya1 hya2 hyg1 hyg2 hye1 hye2 hl1 hl2 hg1
    go_wp2_with fail
    go_loopw [17, 18] (fun t q wr => ∃ i : Nat, i ≤ l1 ∧ q = .int .i64 (i : Int) ∧ t = .int .i64 (i : Int) ∧ Hid (Below w9.heap.size w9 wr)) (fun _ q _ => l1 - (intOf q).toNat)
    case atStart => exact ⟨0, Nat.zero_le _, rfl, rfl, Lib.hid (Below.refl _ _)⟩
    case round =>
      obtain ⟨i, hi, rfl, rfl, HW⟩ := hrel
      clear hy1 hy2
      obtain ⟨hy1, hy2⟩ := HCy.out wr HW.out
      by_cases hin : i < l1
      · have hil : i < er1.length := by rw [Hl1.out]; exact hin
        obtain ⟨bd, od, rfl, hw0, hw1⟩ := garg_docs0 HD1.out hin
        have hmem : er1[i]?.getD default ∈ er1 := by simp [hil]
        have htx := HD1.out.txt _ hmem
        have hen : (er1[i]?.getD default).n ≤ 4096 := by
          have h2 : (er1[i]?.getD default).t.length ≤ 4096 := Hok1.out.l.t (er1[i]?.getD default).dc (List.mem_map_of_mem hmem)
          rw [← htx.len]; exact h2
        have hmm : ((er1[i]?.getD default).k, (er1[i]?.getD default).t) ∈ mm.ds := by
          rw [Htwo.out]
          exact List.mem_append_left _ (List.mem_map_of_mem (f := De.dc) hmem)
        have HG := Hget.out _ _ hmm wr HW.out
        generalize er1[i]?.getD default = e0 at *
        obtain ⟨ek, ea, en, ec, et⟩ := e0
        dsimp only at *
        have htl : et.length = en := htx.len
        rw [htl] at HG
        have HG := Lib.hid HG
        have hblw := World.block_lt_of_cell? w9 _ hw0
        have HCd := Lib.hid (fun (W : World) (hB : Below w9.heap.size w9 W) => And.intro ((World.cell?_of_block (hB.block bd hblw)).trans hw0) ((World.cell?_of_block (hB.block bd hblw)).trans hw1))
        obtain ⟨hd0, hd1'⟩ := HCd.out wr HW.out
        have Htx := Lib.hid htx
        have Htl := Lib.hid htl
        clear hil hmem htx hmm hw0 hw1 htl
        go_wp2_with fail
        go_at_call 29
        refine HG.out.mono ?_
        rintro e wg ⟨At, ct, b9, rfl, hSt, hBg⟩
        have HBg := Lib.hid (below_step HW.out hBg)
        have HSm := Lib.hid (same9_true wg At ea en ct ec et hSt (Htx.out.sl.below HBg.out) Htl.out (by omega))
        clear hd0 hd1' hy1 hy2 hSt hBg
        obtain ⟨hy1, hy2⟩ := HCy.out wg HBg.out
        obtain ⟨hd0, hd1'⟩ := HCd.out wg HBg.out
        go_wp2_with fail
        go_at_call 17
        refine HSm.out.mono ?_
        rintro e wh ⟨rfl, qh, rfl⟩
        have HBh := Lib.hid (HBg.out.trans (below_drewN _ wg qh))
        go_wp2_with fail
        go_roundw
        case rel => exact ⟨i + 1, by omega, by go_num, by go_num, HBh⟩
        case measure => simp [intOf]; omega
      · obtain rfl : i = l1 := by omega
        obtain ⟨wo, rfl⟩ : ∃ wo : World, wo = wr := ⟨_, rfl⟩
        have hfl : ∀ k, ((((er2.map De.dc).take k).filter (notIn (er1.map De.dc, srt gs1))).length) ≤ 4000 := fun k => Nat.le_trans (List.length_filter_le _ _) (by rw [List.length_take, List.length_map, Hl2.out]; omega)
        have Hfl := Lib.hid hfl
        clear hfl
        go_wp2_with fail
        go_loopw [17, 22] (fun t q wr => ∃ k m : Nat, k ≤ l2 ∧ q = .int .i64 (k : Int) ∧ t = .int .i64 (m : Int) ∧ Hid (m = i + (((er2.map De.dc).take k).filter (notIn (er1.map De.dc, srt gs1))).length) ∧ Hid (Below w9.heap.size w9 wr)) (fun _ q _ => l2 - (intOf q).toNat)
        case atStart => exact ⟨0, i, Nat.zero_le _, rfl, rfl, Lib.hid (by simp), HW⟩
        case round =>
          obtain ⟨k, m, hk, rfl, rfl, Hm, HW2⟩ := hrel
          clear hy1 hy2
          obtain ⟨hy1, hy2⟩ := HCy.out wr HW2.out
          by_cases hkn : k < l2
          · have hil : k < er2.length := by rw [Hl2.out]; exact hkn
            obtain ⟨bd, od, rfl, hw0, hw1⟩ := garg_docs0 HD2.out hkn
            have hmem : er2[k]?.getD default ∈ er2 := by simp [hil]
            have htx := HD2.out.txt _ hmem
            have hdm : (er2[k]?.getD default).dc ∈ er2.map De.dc := List.mem_map_of_mem hmem
            have hen : (er2[k]?.getD default).n ≤ 4096 := by
              have h2 : (er2[k]?.getD default).t.length ≤ 4096 := Hok2.out.l.t (er2[k]?.getD default).dc hdm
              rw [← htx.len]; exact h2
            have hsu := filt_succ (s := (er1.map De.dc, srt gs1)) (l := er2.map De.dc) (k := k) (by rw [List.length_map]; exact hil)
            rw [show (er2.map De.dc).getD k default = (er2[k]?.getD default).dc by simp [List.getD, hil]] at hsu
            have hm9 : m ≤ 8000 := by have h1 := Hm.out; have h2 := Hfl.out k; omega
            generalize er2[k]?.getD default = e0 at *
            obtain ⟨ek, ea, en, ec, et⟩ := e0
            dsimp only [De.dc] at *
            have htl : et.length = en := htx.len
            have hblw := World.block_lt_of_cell? w9 _ hw0
            have HCd := Lib.hid (fun (W : World) (hB : Below w9.heap.size w9 W) => And.intro ((World.cell?_of_block (hB.block bd hblw)).trans hw0) ((World.cell?_of_block (hB.block bd hblw)).trans hw1))
            obtain ⟨hd0, hd1'⟩ := HCd.out wr HW2.out
            have Htx := Lib.hid htx
            have Htl := Lib.hid htl
            obtain ⟨bi, hbi⟩ : ∃ bi, ((keysD (er1.map De.dc)).contains ek || (srt gs1).contains ek) = bi := ⟨_, rfl⟩
            have HGR := Lib.hid (HgetR.out ek bi hbi wr HW2.out)
            have hni : notIn (er1.map De.dc, srt gs1) (ek, et) = !bi := by unfold notIn; rw [← hbi]
            rw [hni] at hsu
            have Hsu := Lib.hid hsu
            have Hin : Hid (bi = false → (ek, et) ∈ mm.ds) := Lib.hid (fun h => by
              rw [Htwo.out]
              refine List.mem_append_right _ (List.mem_filter.2 ⟨hdm, ?_⟩)
              rw [hni, h]
              rfl)
            clear hil hmem htx hw0 hw1 htl hbi hni hsu hdm
            go_wp2_with fail
            go_at_call 30
            refine HGR.out.mono ?_
            rintro e wg ⟨v1, b1, rfl, hBg⟩
            have HBg := Lib.hid (below_step HW2.out hBg)
            clear hd0 hd1' hy1 hy2 hBg HGR
            obtain ⟨hy1, hy2⟩ := HCy.out wg HBg.out
            obtain ⟨hd0, hd1'⟩ := HCd.out wg HBg.out
            cases bi with
            | true =>
              have HGx := Lib.hid (Hgetx.out ek wg HBg.out)
              go_wp2_with fail
              go_at_call 29
              refine HGx.out.mono ?_
              rintro e wh ⟨Ah, nh, ch, b2, b3, rfl, hBh⟩
              have HBh := Lib.hid (below_step HBg.out hBh)
              clear hBh HGx
              go_wp2_with fail
              go_roundw
              case rel => exact ⟨k + 1, m, by omega, by go_num, rfl, Lib.hid (by have h1 := Hm.out; have h2 := Hsu.out; simp only [Bool.not_true, Bool.toNat_false] at h2; omega), HBh⟩
              case measure => simp [intOf]; omega
            | false =>
              have HGx := Hget.out ek et (Hin.out rfl) wg HBg.out
              rw [Htl.out] at HGx
              have HGx := Lib.hid HGx
              go_wp2_with fail
              go_at_call 29
              refine HGx.out.mono ?_
              rintro e wh ⟨At, ct, b2, rfl, hSt, hBh⟩
              have HBh := Lib.hid (below_step HBg.out hBh)
              have HSm := Lib.hid (same9_true wh At ea en ct ec et hSt (Htx.out.sl.below HBh.out) Htl.out (by omega))
              clear hd0 hd1' hy1 hy2 hSt hBh HGx
              obtain ⟨hy1, hy2⟩ := HCy.out wh HBh.out
              obtain ⟨hd0, hd1'⟩ := HCd.out wh HBh.out
              go_wp2_with fail
              go_at_call 17
              refine HSm.out.mono ?_
              rintro e wi ⟨rfl, qi, rfl⟩
              have HBi := Lib.hid (HBh.out.trans (below_drewN _ wh qi))
              go_wp2_with fail
              go_roundw
              case rel => exact ⟨k + 1, m + 1, by omega, by go_num, by go_num, Lib.hid (by have h1 := Hm.out; have h2 := Hsu.out; simp only [Bool.not_false, Bool.toNat_true] at h2; omega), HBi⟩
              case measure => simp [intOf]; omega
          · obtain rfl : k = l2 := by omega
            have hmd : m = mm.ds.length := by
              have h1 := Hm.out
              rw [List.take_of_length_le (by rw [List.length_map, Hl2.out]; exact Nat.le_refl _)] at h1
              have h2 := congrArg List.length Htwo.out
              rw [List.length_append, List.length_map, Hl1.out] at h2
              omega
            have hk9 := keysS_any (HSM9.out.below HW2.out) (by have := Hok9.out.nd; omega)
            unfold OwnS at hk9
            rw [keysD_length, (sortD_perm mm.ds).length_eq, ← hmd] at hk9
            have HK9 := Lib.hid hk9
            have HW3 := Lib.hid (below_step HB9.out HW2.out)
            clear hmd hk9
            go_wp2_with fail
            go_at_call 31
            refine HK9.out.mono ?_
            rintro e wk ⟨v9, rfl, ho9, hBk⟩
            obtain ⟨A9, c9, rfl, -, -, -, -, -, -⟩ := own_form ho9
            have HBk := Lib.hid (below_step HW3.out hBk)
            have HBk9 := Lib.hid (below_step HW2.out hBk)
            clear ho9 hBk HK9
            cases last with
            | false =>
              have HKn := Lib.hid (known9_any wk)
              go_wp2_with fail
              go_at_call 14
              refine HKn.out.mono ?_
              rintro e wz ⟨rfl, hBz⟩
              have HBz := Lib.hid (below_step HBk.out hBz)
              go_wp2_with fail
              go_ret
              exact ⟨rfl, HBz.out⟩
            | true =>
              have hg9 := goneS_any (HSM9.out.below HBk9.out) (by have := Hok9.out.ng; omega)
              unfold OwnS at hg9
              rw [srt_length, Hgl.out rfl] at hg9
              have HG9 := Lib.hid hg9
              clear hg9
              go_wp2_with fail
              go_at_call 32
              refine HG9.out.mono ?_
              rintro e wy ⟨vy, rfl, hoy, hBy⟩
              obtain ⟨Ay, cy, hvy, -, -, -, -, -, -⟩ := own_form hoy
              have hvy2 : vy = .slice Ay 0 cy := hvy
              subst hvy2
              have HBy := Lib.hid (below_step HBk.out hBy)
              have HKn := Lib.hid (known9_any wy)
              clear hoy hBy hvy
              go_wp2_with fail
              go_at_call 14
              refine HKn.out.mono ?_
              rintro e wz ⟨rfl, hBz⟩
              have HBz := Lib.hid (below_step HBy.out hBz)
              go_wp2_with fail
              go_ret
              exact ⟨rfl, HBz.out⟩
end Go.Proofs.YtphccomhggnccaaGreat
