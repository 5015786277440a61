/- The law SegmentMakes, walked. -/
import Derived.Test.YtphccomhggnccaaGreatSgAl
import Derived.Test.YtphccomhggnccaaGreatRfN
import Derived.Test.YtphccomhggnccaaGreatSgP
import Derived.Test.YtphccomhggnccaaGreatSgDo
import Derived.Deep.QuietTactic
set_option linter.unusedVariables false
set_option linter.unusedSimpArgs false
set_option maxRecDepth 100000
namespace Go.Proofs.YtphccomhggnccaaGreat
open Go.RowKit Sg Fm
def txv (e : De) : Value := .slice e.a e.n e.c
structure LeftD (base top : Nat) (w0 w : World) (v : Value) (es : List De) (i : Nat) : Prop where
  row : w.ownsRow base 36 2 v es.length (VD es)
  own : ∀ j, i ≤ j → j < es.length → w.ownsRow base 5 1 (txv (es[j]?.getD default)) (es[j]?.getD default).t.length (VY (es[j]?.getD default).t)
  ap : ∀ j k, j < k → k < es.length → ∀ g, (txv (es[j]?.getD default)).ownBlock = some g → (txv (es[k]?.getD default)).ownBlock ≠ some g
  tp : ∀ j, j < es.length → ∀ g, (txv (es[j]?.getD default)).ownBlock = some g → g < top
  keep : ∀ k, top ≤ k → k < w0.heap.size → w.heap[k]? = w0.heap[k]?
  sz : w0.heap.size ≤ w.heap.size
theorem LeftD.start {w4 w6 : World} {base : Nat} {v : Value} {es : List De} (h : CopD w4 base v es) (hb : Below w4.heap.size w4 w6) : LeftD base w4.heap.size w6 w6 v es 0 := by
  have h6 := h.below hb
  have hm : ∀ j, j < es.length → es[j]?.getD default = es.getD j default := fun j hj => by simp [List.getD]
  refine ⟨h6.row, fun j _ hj => h6.own _ (by simp [hj]), fun j k hjk hk g h1 => ?_, fun j hj g h1 => (World.ownsRow.lt (h.own (es[j]?.getD default) (by simp [hj])) g h1).2, fun _ _ _ => rfl, Nat.le_refl _⟩
  have hp := List.pairwise_iff_getElem.1 h.ap j k (by omega) hk hjk g
  have e1 : es[j]?.getD default = es[j] := by simp [show j < es.length by omega]
  have e2 : es[k]?.getD default = es[k] := by simp [hk]
  rw [e1] at h1
  rw [e2]
  exact hp h1
theorem LeftD.drewN {base top : Nat} {w0 w : World} {v : Value} {es : List De} {i : Nat} (h : LeftD base top w0 w v es i) (q : Nat) : LeftD base top w0 (w.drewN q) v es i :=
  ⟨own_below h.row (below_drewN _ _ q), fun j h1 h2 => own_below (h.own j h1 h2) (below_drewN _ _ q), h.ap, h.tp, h.keep, h.sz⟩
theorem LeftD.next {base top : Nat} {w0 w w' : World} {v : Value} {es : List De} {i : Nat} (h : LeftD base top w0 w v es i) (hi : i < es.length) (hg : w.grownBy w' (txv (es[i]?.getD default)).ownBlock) : LeftD base top w0 w' v es (i + 1) := by
  have hoi := h.own i (Nat.le_refl _) hi
  refine ⟨own_keepT h.row hoi (by decide) hg, fun j h1 h2 => own_keepR (h.own j (by omega) h2) hg (fun g h3 h4 => h.ap i j (by omega) h2 g h4 h3), h.ap, h.tp, fun k h1 h2 => ?_, Nat.le_trans h.sz hg.size⟩
  have h3 := h.keep k h1 h2
  rw [← h3]
  refine hg.block k (Nat.lt_of_lt_of_le h2 h.sz) (fun e => ?_)
  have := h.tp i hi k e.symm
  omega
set_option maxHeartbeats 16000000 in
theorem lawMakes (w : World) (s : St) (hs : SetOk w s) (Ap : Option Addr) (np cp : Nat) (p : List Nat) (hp : Sl w Ap (VY p)) (hpl : p.length = np) (hpb : ∀ b ∈ p, b < 256) (hnp : np ≤ 140737488355328) :
    Calls Tryz.prog 5 #[.agg #[.slice s.A s.n s.c, .slice s.Ag s.ng s.cg], .slice Ap np cp] w fun e w' => e = .returned (.bool true) ∧ Below w.heap.size w w' := by
  have HP := Lib.hid hp
  have Hpl := Lib.hid hpl
  have Hpb := Lib.hid hpb
  have Hs := Lib.hid hs
  have hC1 := below_new w (.cells #[.slice s.A s.n s.c, .slice s.Ag s.ng s.cg] 25)
  have hb1 : (w.alloc (.cells #[.slice s.A s.n s.c, .slice s.Ag s.ng s.cg] 25)).heap[w.heap.size]? = some (.cells #[.slice s.A s.n s.c, .slice s.Ag s.ng s.cg] 25 (0, 0)) := heap_alloc_new w _
  obtain ⟨x, hx⟩ : ∃ x, w.heap.size = x := ⟨_, rfl⟩
  have Hx := Lib.hid hx
  have HC1 := Lib.hid hC1
  have hc0 : (w.alloc (.cells #[.slice s.A s.n s.c, .slice s.Ag s.ng s.cg] 25)).cell? ⟨x, 0, none⟩ = some (.slice s.A s.n s.c) := by rw [← hx]; exact cell_blk hb1 0
  have hc1 : (w.alloc (.cells #[.slice s.A s.n s.c, .slice s.Ag s.ng s.cg] 25)).cell? ⟨x, 1, none⟩ = some (.slice s.Ag s.ng s.cg) := by rw [← hx]; exact cell_blk hb1 1
  obtain ⟨sA, sn, sc, ses, sG, sng, scg, sgs⟩ := s
  dsimp only at *
  clear hp hpl hpb hs hC1 hb1
  go_enter Tryz.func5, Tryz.ntmps5
  go_wp2_with fail
  have hCC := HC1.out.alloc HC1.out.size (.cells #[.slice sA sn sc, .slice sG sng scg] 25)
  have hb2 : ((w.alloc (.cells #[.slice sA sn sc, .slice sG sng scg] 25)).alloc (.cells #[.slice sA sn sc, .slice sG sng scg] 25)).heap[x + 1]? = some (.cells #[.slice sA sn sc, .slice sG sng scg] 25 (0, 0)) := by
    have := heap_alloc_new (w.alloc (.cells #[.slice sA sn sc, .slice sG sng scg] 25)) (.cells #[.slice sA sn sc, .slice sG sng scg] 25)
    rw [World.size_alloc, Hx.out] at this
    exact this
  have hx0 := (World.cell?_of_block ((below_new _ (.cells #[.slice sA sn sc, .slice sG sng scg] 25)).block x (World.block_lt_of_cell? _ _ hc0))).trans hc0
  have hx1 := (World.cell?_of_block ((below_new _ (.cells #[.slice sA sn sc, .slice sG sng scg] 25)).block x (World.block_lt_of_cell? _ _ hc1))).trans hc1
  have HHv := Lib.hid (heavy9_any _ (some ⟨x + 1, 0, none⟩) 1 1 [⟨sA, sn, sc, ses, sG, sng, scg, sgs⟩] (sl_blk (xs := VSt [⟨sA, sn, sc, ses, sG, sng, scg, sgs⟩]) hb2) rfl (by omega) (fun s hm => by
    have : s = ⟨sA, sn, sc, ses, sG, sng, scg, sgs⟩ := by simpa using hm
    subst this
    exact Hs.out.below hCC))
  have HCC := Lib.hid hCC
  clear hc0 hc1 hCC hb2 HC1
  generalize (w.alloc (.cells #[.slice sA sn sc, .slice sG sng scg] 25)).alloc (.cells #[.slice sA sn sc, .slice sG sng scg] 25) = w2 at *
  go_at_call 12
  refine HHv.out.mono ?_
  rintro e w3 ⟨b, rfl, hbw, hB3⟩
  have hy0 := (World.cell?_of_block (hB3.block x (World.block_lt_of_cell? _ _ hx0))).trans hx0
  have hy1 := (World.cell?_of_block (hB3.block x (World.block_lt_of_cell? _ _ hx1))).trans hx1
  have HB3 := Lib.hid (below_step HCC.out hB3)
  have Hbw := Lib.hid hbw
  clear hx0 hx1 hbw hB3 HHv HCC
  cases b with
  | true =>
    go_wp2_with fail
    go_ret
    exact ⟨rfl, HB3.out⟩
  | false =>
    have hLi : Lite (ses.map De.dc) sgs := lite_of_heavy (s := ⟨sA, sn, sc, ses, sG, sng, scg, sgs⟩) (Hbw.out rfl).1
    by_cases h100 : 100 < np
    · have h100i : (100 : Int) < (np : Int) := by omega
      go_wp2_with fail
      go_ret
      exact ⟨rfl, HB3.out⟩
    · have h100i : ¬ (100 : Int) < (np : Int) := by omega
      have hS3 := Hs.out.below HB3.out
      have hsn : sn ≤ 4000 := by
        have h1 := wtD_len (ses.map De.dc)
        have h2 := hLi.w
        have h3 := hS3.d.len
        rw [List.length_map] at h1
        dsimp only at h3
        omega
      have hen : ∀ e ∈ ses, e.n ≤ 4096 := fun e he => by
        have h1 := (hS3.d.txt e he).len
        have h2 : e.t.length ≤ 4096 := hLi.t e.dc (List.mem_map_of_mem he)
        omega
      have HDo := Lib.hid (docs9_any w3 sA sn sc ses hS3.d (by omega) (fun e he => by have := hen e he; omega))
      have Hen := Lib.hid hen
      have HLi := Lib.hid hLi
      have hy0' := Lib.hid hy0
      have hy1' := Lib.hid hy1
      clear hLi hS3 hen
      go_wp2_with fail
      go_at_call 15
      refine HDo.out.mono ?_
      rintro e w4 ⟨v4, es', rfl, hCp, hdc, hB4⟩
      obtain ⟨A4, c4, rfl, hDA⟩ := hCp.arg
      have hln : es'.length = sn := by
        have h1 := congrArg List.length hdc
        rw [List.length_map, List.length_map, (Hs.out.d.len : ses.length = sn)] at h1
        exact h1
      have Hln := Lib.hid hln
      rw [hln] at hDA hCp ⊢
      have HCp := Lib.hid hCp
      have Hdc := Lib.hid hdc
      have hz0 := (World.cell?_of_block (hB4.block x (World.block_lt_of_cell? _ _ hy0))).trans hy0
      have hz1 := (World.cell?_of_block (hB4.block x (World.block_lt_of_cell? _ _ hy1))).trans hy1
      have HB4 := Lib.hid (below_step HB3.out hB4)
      have HB34 := Lib.hid hB4
      have HN := segnew_any w4 A4 sG sn c4 sng scg es' sgs hDA (Hs.out.g.below HB4.out) (by rw [hdc]; exact HLi.out)
      rw [hdc] at HN
      have HN := Lib.hid HN
      clear hB4 hCp hdc hDA hln hy0 hy1 HDo
      go_wp2_with fail
      go_at_call 16
      refine HN.out.mono ?_
      rintro e w5 hN5
      by_cases hR : Rise (keysD (ses.map De.dc) ++ sgs)
      · obtain ⟨-, x5, sa, rfl, hSM, hB5⟩ | ⟨hR2, -⟩ := hN5
        case inr => exact absurd hR hR2
        have hv0 := (World.cell?_of_block (hB5.block x (World.block_lt_of_cell? _ _ hz0))).trans hz0
        have hv1 := (World.cell?_of_block (hB5.block x (World.block_lt_of_cell? _ _ hz1))).trans hz1
        have HB5 := Lib.hid (below_step HB4.out hB5)
        have hS5 := Hs.out.below HB5.out
        have HN9 := Lib.hid (new9_any w5 sA sG sn sc sng scg ses sgs hS5.d hS5.g HLi.out)
        have HSM := Lib.hid hSM
        have HR := Lib.hid hR
        have HB45 := Lib.hid hB5
        clear hR hB5 hS5 hz0 hz1 HN hSM
        go_wp2_with fail
        go_at_call 13
        refine HN9.out.mono ?_
        rintro e w6 (⟨-, xr, esr, rfl, hso, hRM, hB6⟩ | ⟨hR2, -⟩)
        case inr => exact absurd HR.out hR2
        have HSM6 := Lib.hid (HSM.out.below hB6)
        have HRM := Lib.hid (hRM.mono HB45.out.size)
        have Hso := Lib.hid hso
        have HB6 := Lib.hid (below_step HB5.out hB6)
        have HB46 := Lib.hid (below_step HB45.out hB6)
        have HB36 := Lib.hid (below_step HB34.out HB46.out)
        have Hok := Lib.hid (segOk_of HR.out HLi.out (fun e he => (Hs.out.d.txt e he)))
        clear hRM hso hB6 HN9 HSM hv0 hv1 HB5 HB45 HB34
        have HL0 := Lib.hid (LeftD.start HCp.out HB46.out)
        have HC := Lib.hid (fun (W : World) (hB : Below w3.heap.size w3 W) => And.intro ((World.cell?_of_block (hB.block x (World.block_lt_of_cell? _ _ hy0'.out))).trans hy0'.out) ((World.cell?_of_block (hB.block x (World.block_lt_of_cell? _ _ hy1'.out))).trans hy1'.out))
        have HD3 := Lib.hid ((Hs.out.below HB3.out).d)
        go_wp2_with fail
        go_loopw [10] (fun q wr => ∃ i : Nat, i ≤ sn ∧ q = .int .i64 (i : Int) ∧ Hid (LeftD w3.heap.size w4.heap.size w6 wr (.slice A4 sn c4) es' i) ∧ Hid (Below w3.heap.size w3 wr)) (fun q _ => sn - (intOf q).toNat)
        case atStart => exact ⟨0, Nat.zero_le _, rfl, HL0, HB36⟩
        case round =>
          obtain ⟨i, hi, rfl, HL, HW⟩ := hrel
          by_cases hin : i < sn
          · obtain ⟨bd, od, rfl, hw0, hw1⟩ := garg_docs0 HD3.out hin
            have hblw := World.block_lt_of_cell? w3 _ hw0
            have hd0 := (World.cell?_of_block (HW.out.block bd hblw)).trans hw0
            have hd1 := (World.cell?_of_block (HW.out.block bd hblw)).trans hw1
            obtain ⟨hr0, hr1⟩ := HC.out wr HW.out
            have hil : i < ses.length := by rw [(HD3.out.len : ses.length = sn)]; exact hin
            have hil' : i < es'.length := by rw [Hln.out]; exact hin
            obtain ⟨A', c', hv', hSr, -⟩ := own_form HL.out.row
            injection hv' with e1 e2 e3
            subst e1
            obtain ⟨br, or, rfl, hc0⟩ := hSr.lit (j := i * 2) (by rw [VD_length]; omega)
            have hc1 := hSr.cell _ rfl (i * 2 + 1) _ (VD_get1 es' i hil')
            rw [VD_get0 es' i hil'] at hc0
            rw [show (⟨br, or, none⟩ : Addr).add (i * 2 + 1) = ⟨br, or + i * 2 + 1, none⟩ by unfold Addr.add; split <;> simp_all; omega] at hc1
            have hde : (es'[i]?.getD default).dc = (ses[i]?.getD default).dc := by
              have h1 := congrArg (fun l : List Dc => l[i]?.getD default) Hdc.out
              simpa [hil, hil'] using h1
            have hmem : ses[i]?.getD default ∈ ses := by simp [hil]
            have hen := Hen.out _ hmem
            have htx := (HD3.out.txt _ hmem).below HW.out
            have hoi := HL.out.own i (Nat.le_refl _) hil'
            have HLn := Lib.hid (fun (q : Nat) (W' : World) (hg : (wr.drewN q).grownBy W' (txv (es'[i]?.getD default)).ownBlock) => (HL.out.drewN q).next hil' hg)
            have hlen' : (es'[i]?.getD default).n = (es'[i]?.getD default).t.length := by
              obtain ⟨A9, c9, hv9, -⟩ := own_form hoi
              injection hv9
            generalize es'[i]?.getD default = e1 at *
            generalize ses[i]?.getD default = e0 at *
            obtain ⟨ek, ea, en, ec, et⟩ := e0
            obtain ⟨fk, fa, fn, fc, ft⟩ := e1
            simp only [De.dc, Prod.mk.injEq] at hde
            obtain ⟨hk1, hk2⟩ := hde
            dsimp only [txv] at *
            subst hk1 hk2
            have hfe : fn = en := by rw [hlen']; exact htx.len
            subst hfe
            have hkk : (fk == fk) = true := by simp
            obtain ⟨A9, c9, hv9, hS9, -⟩ := own_form hoi
            injection hv9 with e4 e5 e6
            subst e4
            have HSm := Lib.hid (fun q => same9_true (wr.drewN q) fa ea fn fc ec ft (hS9.drewN q) (htx.sl.drewN q) htx.len (by omega))
            have Hoi := Lib.hid hoi
            have Hln' := Lib.hid htx.len
            have j1 : (i : Int) < (sn : Int) := by omega
            have j2 : (0 : Int) ≤ (i : Int) := by omega
            clear hw0 hw1 hil hil' hSr hmem htx hoi hlen' hS9 e2 e3 e5 e6
            go_upto_region 11 with fail
            go_quiet ((go_at_call 17; exact Calls.quiet_of (HSm.out _)))
            have HSp := Lib.hid (spoil9_n (wr.drewN nq) w3.heap.size fa fn fc ft Hln'.out (own_len (own_below Hoi.out (below_drewN _ wr nq)) Hln'.out) (by omega) (HW.out.trans (below_drewN _ wr nq)).size)
            have HBs := Lib.hid (fun (W' : World) (hg : (wr.drewN nq).grownBy W' (Value.slice fa fn fc).ownBlock) => spoil_below (HW.out.trans (below_drewN _ wr nq)) (own_below Hoi.out (below_drewN _ wr nq)) (Nat.le_refl _) hg)
            have HLq := Lib.hid (HLn.out nq)
            have hs0 : (wr.drewN nq).cell? ⟨br, or + i * 2 + 1, none⟩ = some (.slice fa fn fc) := hc1
            clear HSm HLn hd0 hd1 hr0 hr1 hc0 hc1
            generalize wr.drewN nq = w7 at *
            go_wp2_with fail
            go_at_call 26
            refine HSp.out.mono ?_
            rintro e w8 ⟨rfl, hg8⟩
            have HL8 := Lib.hid (HLq.out w8 hg8)
            have HW8 := Lib.hid (HBs.out w8 hg8)
            clear hg8 HSp HBs HLq
            go_wp2_with fail
            go_roundw
            case rel => exact ⟨i + 1, by omega, by go_num, HL8, HW8⟩
            case measure => simp [intOf]; omega
          · obtain rfl : i = sn := by omega
            have HSM7 := HSM6.out.keep HL.out.sz (fun k h1 h2 => HL.out.keep k h1 h2)
            have HRM7 := Lib.hid (HRM.out.keep HL.out.sz (fun k h1 h2 => HL.out.keep k h1 h2))
            rw [← Hso.out] at HSM7 Hok
            have HSM7 := Lib.hid HSM7
            have HBw := Lib.hid (below_step HB3.out HW.out)
            have HAl := Lib.hid (alike9_any wr HSM7.out HRM7.out Hok.out Ap np cp p (HP.out.below HBw.out) Hpl.out (by omega) Hpb.out)
            clear HL HW
            go_wp2_with fail
            go_at_call 27
            refine HAl.out.mono ?_
            rintro e w9 ⟨rfl, hB9⟩
            have HB9 := Lib.hid (below_step HBw.out hB9)
            have HK := Lib.hid (known9_any w9)
            clear hB9 HAl
            go_wp2_with fail
            go_at_call 14
            refine HK.out.mono ?_
            rintro e wf ⟨rfl, hBf⟩
            have HBf := Lib.hid (below_step HB9.out hBf)
            go_wp2_with fail
            go_ret
            exact ⟨rfl, HBf.out⟩
      · obtain ⟨hR2, -⟩ | ⟨-, rfl, hB5⟩ := hN5
        case inl => exact absurd hR2 hR
        have hv0 := (World.cell?_of_block (hB5.block x (World.block_lt_of_cell? _ _ hz0))).trans hz0
        have hv1 := (World.cell?_of_block (hB5.block x (World.block_lt_of_cell? _ _ hz1))).trans hz1
        have HB5 := Lib.hid (below_step HB4.out hB5)
        have hS5 := Hs.out.below HB5.out
        have HN9 := Lib.hid (new9_any w5 sA sG sn sc sng scg ses sgs hS5.d hS5.g HLi.out)
        have HR := Lib.hid hR
        have HB45 := Lib.hid hB5
        clear hR hB5 hS5 hz0 hz1 HN
        go_wp2_with fail
        go_at_call 13
        refine HN9.out.mono ?_
        rintro e w6 (⟨hR2, -⟩ | ⟨-, rfl, hB6⟩)
        · exact absurd hR2 HR.out
        have HB6 := Lib.hid (below_step HB5.out hB6)
        have HB46 := Lib.hid (below_step HB45.out hB6)
        have HB36 := Lib.hid (below_step HB34.out HB46.out)
        clear hB6 HN9 hv0 hv1 HB5 HB45 HB34
        have HL0 := Lib.hid (LeftD.start HCp.out HB46.out)
        have HC := Lib.hid (fun (W : World) (hB : Below w3.heap.size w3 W) => And.intro ((World.cell?_of_block (hB.block x (World.block_lt_of_cell? _ _ hy0'.out))).trans hy0'.out) ((World.cell?_of_block (hB.block x (World.block_lt_of_cell? _ _ hy1'.out))).trans hy1'.out))
        have HD3 := Lib.hid ((Hs.out.below HB3.out).d)
        go_wp2_with fail
        go_loopw [10] (fun q wr => ∃ i : Nat, i ≤ sn ∧ q = .int .i64 (i : Int) ∧ Hid (LeftD w3.heap.size w4.heap.size w6 wr (.slice A4 sn c4) es' i) ∧ Hid (Below w3.heap.size w3 wr)) (fun q _ => sn - (intOf q).toNat)
        case atStart => exact ⟨0, Nat.zero_le _, rfl, HL0, HB36⟩
        case round =>
          obtain ⟨i, hi, rfl, HL, HW⟩ := hrel
          by_cases hin : i < sn
          · obtain ⟨bd, od, rfl, hw0, hw1⟩ := garg_docs0 HD3.out hin
            have hblw := World.block_lt_of_cell? w3 _ hw0
            have hd0 := (World.cell?_of_block (HW.out.block bd hblw)).trans hw0
            have hd1 := (World.cell?_of_block (HW.out.block bd hblw)).trans hw1
            obtain ⟨hr0, hr1⟩ := HC.out wr HW.out
            have hil : i < ses.length := by rw [(HD3.out.len : ses.length = sn)]; exact hin
            have hil' : i < es'.length := by rw [Hln.out]; exact hin
            obtain ⟨A', c', hv', hSr, -⟩ := own_form HL.out.row
            injection hv' with e1 e2 e3
            subst e1
            obtain ⟨br, or, rfl, hc0⟩ := hSr.lit (j := i * 2) (by rw [VD_length]; omega)
            have hc1 := hSr.cell _ rfl (i * 2 + 1) _ (VD_get1 es' i hil')
            rw [VD_get0 es' i hil'] at hc0
            rw [show (⟨br, or, none⟩ : Addr).add (i * 2 + 1) = ⟨br, or + i * 2 + 1, none⟩ by unfold Addr.add; split <;> simp_all; omega] at hc1
            have hde : (es'[i]?.getD default).dc = (ses[i]?.getD default).dc := by
              have h1 := congrArg (fun l : List Dc => l[i]?.getD default) Hdc.out
              simpa [hil, hil'] using h1
            have hmem : ses[i]?.getD default ∈ ses := by simp [hil]
            have hen := Hen.out _ hmem
            have htx := (HD3.out.txt _ hmem).below HW.out
            have hoi := HL.out.own i (Nat.le_refl _) hil'
            have HLn := Lib.hid (fun (q : Nat) (W' : World) (hg : (wr.drewN q).grownBy W' (txv (es'[i]?.getD default)).ownBlock) => (HL.out.drewN q).next hil' hg)
            have hlen' : (es'[i]?.getD default).n = (es'[i]?.getD default).t.length := by
              obtain ⟨A9, c9, hv9, -⟩ := own_form hoi
              injection hv9
            generalize es'[i]?.getD default = e1 at *
            generalize ses[i]?.getD default = e0 at *
            obtain ⟨ek, ea, en, ec, et⟩ := e0
            obtain ⟨fk, fa, fn, fc, ft⟩ := e1
            simp only [De.dc, Prod.mk.injEq] at hde
            obtain ⟨hk1, hk2⟩ := hde
            dsimp only [txv] at *
            subst hk1 hk2
            have hfe : fn = en := by rw [hlen']; exact htx.len
            subst hfe
            have hkk : (fk == fk) = true := by simp
            obtain ⟨A9, c9, hv9, hS9, -⟩ := own_form hoi
            injection hv9 with e4 e5 e6
            subst e4
            have HSm := Lib.hid (fun q => same9_true (wr.drewN q) fa ea fn fc ec ft (hS9.drewN q) (htx.sl.drewN q) htx.len (by omega))
            have Hoi := Lib.hid hoi
            have Hln' := Lib.hid htx.len
            have j1 : (i : Int) < (sn : Int) := by omega
            have j2 : (0 : Int) ≤ (i : Int) := by omega
            clear hw0 hw1 hil hil' hSr hmem htx hoi hlen' hS9 e2 e3 e5 e6
            go_upto_region 11 with fail
            go_quiet ((go_at_call 17; exact Calls.quiet_of (HSm.out _)))
            have HSp := Lib.hid (spoil9_n (wr.drewN nq) w3.heap.size fa fn fc ft Hln'.out (own_len (own_below Hoi.out (below_drewN _ wr nq)) Hln'.out) (by omega) (HW.out.trans (below_drewN _ wr nq)).size)
            have HBs := Lib.hid (fun (W' : World) (hg : (wr.drewN nq).grownBy W' (Value.slice fa fn fc).ownBlock) => spoil_below (HW.out.trans (below_drewN _ wr nq)) (own_below Hoi.out (below_drewN _ wr nq)) (Nat.le_refl _) hg)
            have HLq := Lib.hid (HLn.out nq)
            have hs0 : (wr.drewN nq).cell? ⟨br, or + i * 2 + 1, none⟩ = some (.slice fa fn fc) := hc1
            clear HSm HLn hd0 hd1 hr0 hr1 hc0 hc1
            generalize wr.drewN nq = w7 at *
            go_wp2_with fail
            go_at_call 26
            refine HSp.out.mono ?_
            rintro e w8 ⟨rfl, hg8⟩
            have HL8 := Lib.hid (HLq.out w8 hg8)
            have HW8 := Lib.hid (HBs.out w8 hg8)
            clear hg8 HSp HBs HLq
            go_wp2_with fail
            go_roundw
            case rel => exact ⟨i + 1, by omega, by go_num, HL8, HW8⟩
            case measure => simp [intOf]; omega
          · obtain rfl : i = sn := by omega
            have HBw := Lib.hid (below_step HB3.out HW.out)
            have HK := Lib.hid (known9_any wr)
            clear HL HW
            go_wp2_with fail
            go_at_call 14
            refine HK.out.mono ?_
            rintro e wf ⟨rfl, hBf⟩
            have HBf := Lib.hid (below_step HBw.out hBf)
            go_wp2_with fail
            go_ret
            exact ⟨rfl, HBf.out⟩
end Go.Proofs.YtphccomhggnccaaGreat
