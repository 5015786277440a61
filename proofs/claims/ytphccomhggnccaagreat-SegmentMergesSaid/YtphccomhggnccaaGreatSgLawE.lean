/- The law SegmentMerges, walked. -/
import Derived.Test.YtphccomhggnccaaGreatSgMk
import Derived.Deep.RegionHeld3
set_option linter.unusedVariables false
set_option linter.unusedSimpArgs false
set_option maxRecDepth 100000
namespace Go.Proofs.YtphccomhggnccaaGreat
open Go.RowKit Go.Maps Sg Fm
theorem hh {p : Prop} (h : p) : Hid p := Lib.hid h
set_option maxHeartbeats 16000000 in
theorem lawMerges (w : World) (A : Option Addr) (n c : Nat) (l : List St) (hS : Sl w A (VSt l)) (hl : l.length = n) (hn : n ≤ 140737488355328) (hs : ∀ s ∈ l, SetOk w s) (last : Bool)
    (Ap : Option Addr) (np cp : Nat) (p : List Nat) (hp : Sl w Ap (VY p)) (hpl : p.length = np) (hpb : ∀ b ∈ p, b < 256) (hnp : np ≤ 140737488355328) :
    Calls Tryz.prog 8 #[.slice A n c, .bool last, .slice Ap np cp] w fun e w' => e = .returned (.bool true) ∧ Below w.heap.size w w' := by
  have HS := hh hS
  have Hl := hh hl
  have Hs := hh hs
  have HP := hh hp
  have Hpl := hh hpl
  have Hpb := hh hpb
  have HHv := hh (heavy9_any w A n c l hS hl hn hs)
  clear hS hl hs hp hpl hpb
  go_enter Tryz.func8, Tryz.ntmps8
  go_wp2_with fail
  go_at_call 12
  refine HHv.out.mono ?_
  rintro e w1 ⟨b, rfl, hbw, hB1⟩
  have HB1 := hh hB1
  have Hbw := hh hbw
  clear hbw hB1 HHv
  cases b with
  | true =>
   go_wp2_with fail
   go_ret
   exact ⟨rfl, HB1.out⟩
  | false =>
   obtain ⟨hw, h8⟩ := Hbw.out rfl
   by_cases h100 : 100 < np
   · have h100i : (100 : Int) < (np : Int) := by omega
     clear hw h8
     go_wp2_with fail
     go_ret
     exact ⟨rfl, HB1.out⟩
   · have h100i : ¬ (100 : Int) < (np : Int) := by omega
     have hn8 : n ≤ 8 := by rw [← Hl.out]; exact h8
     have Hw := hh hw
     clear hw h8 hn
     go_wp2_with fail
     go_loopw [7, 8, 9] (fun t7 t8 q wr => ∃ (i m : Nat) (la : List Sg1) (lb : List Sr) (Aa Ab : Option Addr) (ca cb : Nat), i ≤ n ∧ m ≤ i ∧ q = .int .i64 (i : Int) ∧ t7 = .slice Aa m ca ∧ t8 = .slice Ab m cb ∧ Hid (la.length = m ∧ lb.length = m) ∧ Hid (la.map Sg1.sg = sgsOf (l.take i) ∧ lb.map Sr.sg = sgsOf (l.take i)) ∧ Hid (MkS w1 wr (.slice Aa m ca) (.slice Ab m cb) la lb)) (fun _ _ q _ => n - (intOf q).toNat)
     case atStart => exact ⟨0, 0, [], [], none, none, 0, 0, Nat.zero_le _, Nat.le_refl _, rfl, rfl, rfl, hh ⟨rfl, rfl⟩, hh ⟨rfl, rfl⟩, hh (MkS.start w1)⟩
     case round =>
     obtain ⟨i, m, la, lb, Aa, Ab, ca, cb, hi, hmi, rfl, rfl, rfl, Hlen, Hsg, HM⟩ := hrel
     by_cases hin : i < n
     · have hil : i < l.length := by rw [Hl.out]; exact hin
       obtain ⟨bs, os, rfl, hw0⟩ := HS.out.lit (j := i * 2) (by rw [VSt_length]; omega)
       have hw1 := HS.out.cell _ rfl (i * 2 + 1) _ (VSt_get1 l i hil)
       rw [VSt_get0 l i hil] at hw0
       rw [show (⟨bs, os, none⟩ : Addr).add (i * 2 + 1) = ⟨bs, os + i * 2 + 1, none⟩ by unfold Addr.add; split <;> simp_all; omega] at hw1
       have hmem : l.getD i default ∈ l := by simp [List.getD, hil]
       have hok := Hs.out _ hmem
       have hLi := lite_of_wt (s := l.getD i default) (Nat.le_trans (wtS_le hmem) Hw.out)
       have hsu := sgsOf_succ hil
       generalize l.getD i default = s at *
       obtain ⟨sA, sn, sc, ses, sG, sng, scg, sgs⟩ := s
       dsimp only at *
       have hbsw := World.block_lt_of_cell? w _ hw0
       have HC := hh (fun (W : World) (hB : Below w.heap.size w W) => And.intro ((World.cell?_of_block (hB.block bs hbsw)).trans hw0) ((World.cell?_of_block (hB.block bs hbsw)).trans hw1))
       have HBr := hh (below_step HB1.out HM.out.bel)
       obtain ⟨hr0, hr1⟩ := HC.out wr HBr.out
       have Hok := hh hok
       have HLi := hh hLi
       have j1 : (i : Int) < (n : Int) := by omega
       have j2 : (0 : Int) ≤ (i : Int) := by omega
       obtain ⟨wo, rfl⟩ : ∃ wo : World, wo = wr := ⟨_, rfl⟩
       by_cases hR : Rise (keysD (ses.map De.dc) ++ sgs)
       · have hg : good ⟨sA, sn, sc, ses, sG, sng, scg, sgs⟩ = true := decide_eq_true hR
         rw [if_pos hg] at hsu
         have Hsu := hh hsu
         have HR := hh hR
         have HN := hh (fun (W : World) (h : S2 ⟨bs, os + i * 2, none⟩ ⟨bs, os + i * 2 + 1, none⟩ (.slice sA sn sc) (.slice sG sng scg) wo W) => show Calls Tryz.prog 16 #[.slice sA sn sc, .slice sG sng scg] W (fun e w' => ∃ x sa, e = .returned (.tuple #[.pointer (some ⟨x, 0, none⟩), .int .i64 0]) ∧ SegM w' W.heap.size x (sortD (ses.map De.dc)) (srt sgs) sa ∧ Below W.heap.size W w') from by
           have hS9 := Hok.out.below (below_step HBr.out h.2.2)
           refine (segnew_any W sA sG sn sc sng scg ses sgs hS9.d hS9.g HLi.out).mono ?_
           rintro e w' (⟨-, x, sa, he, h1, h2⟩ | ⟨hn, -⟩)
           · exact ⟨x, sa, he, h1, h2⟩
           · exact absurd HR.out hn)
         obtain ⟨k1, k2, k3, k4, k5, k6, k7, k8⟩ := kpack (w2 := wo) (S := S2 ⟨bs, os + i * 2, none⟩ ⟨bs, os + i * 2 + 1, none⟩ (.slice sA sn sc) (.slice sG sng scg) wo) (fun W h => h.2.2) (fun W h => ⟨(HC.out W (below_step HBr.out h)).1, (HC.out W (below_step HBr.out h)).2, h⟩)
         clear hmem hok hLi hsu hg hR hil
         go_upto_region 8 with fail
         go_cut [10, 11] (fun s t wx => ∃ x sa W0, s = .pointer (some ⟨x, 0, none⟩) ∧ t = .int .i64 0 ∧ Hid (SegM wx W0 x (sortD (ses.map De.dc)) (srt sgs) sa ∧ wo.heap.size ≤ W0 ∧ Below wo.heap.size wo wx))
         case first =>
          go_region_held3 (fun W => W.cell? ⟨bs, os + i * 2, none⟩ = some (.slice sA sn sc) ∧ W.cell? ⟨bs, os + i * 2 + 1, none⟩ = some (.slice sG sng scg) ∧ Below wo.heap.size wo W)
            (first | assumption | exact k8.out | exact k3.out _ | exact k2.out _ | exact k4.out _ _ (by assumption) (by assumption) | exact k5.out _ _ (by assumption))
            (first | (go_at_call 16; refine (HN.out _ (by assumption)).mono ?_; rintro e w5' ⟨x5, sa5, rfl, hM5, hB5⟩) | fail)
          all_goals go_wp2_with fail
          all_goals go_meet
          all_goals exact ⟨x5, sa5, _, rfl, rfl, hh ⟨hM5, Nat.le_refl _, (by assumption : _ ∧ _ ∧ _).2.2⟩⟩
         case rest =>
         obtain ⟨x5, sa5, W0, rfl, rfl, H5⟩ := hcut
         obtain ⟨wd, rfl⟩ : ∃ wo : World, wo = wc := ⟨_, rfl⟩
         have HBd := hh (below_step HBr.out H5.out.2.2)
         clear k1 k2 k3 k4 k5 k6 k7 k8 HN hr0 hr1
         have HN := hh (fun (W : World) (h : S2 ⟨bs, os + i * 2, none⟩ ⟨bs, os + i * 2 + 1, none⟩ (.slice sA sn sc) (.slice sG sng scg) wd W) => show Calls Tryz.prog 13 #[.slice sA sn sc, .slice sG sng scg] W (fun e w' => ∃ x es', e = .returned (.tuple #[.pointer (some ⟨x, 0, none⟩), .int .i64 0]) ∧ RefM w' W.heap.size x es' (srt sgs) ∧ es'.map De.dc = sortD (ses.map De.dc) ∧ Below W.heap.size W w') from by
           have hS9 := Hok.out.below (below_step HBd.out h.2.2)
           refine (new9_any W sA sG sn sc sng scg ses sgs hS9.d hS9.g HLi.out).mono ?_
           rintro e w' (⟨-, x, es', he, h0, h1, h2⟩ | ⟨hn, -⟩)
           · exact ⟨x, es', he, h1, h0, h2⟩
           · exact absurd HR.out hn)
         obtain ⟨k1, k2, k3, k4, k5, k6, k7, k8⟩ := kpack (w2 := wd) (S := S2 ⟨bs, os + i * 2, none⟩ ⟨bs, os + i * 2 + 1, none⟩ (.slice sA sn sc) (.slice sG sng scg) wd) (fun W h => h.2.2) (fun W h => ⟨(HC.out W (below_step HBd.out h)).1, (HC.out W (below_step HBd.out h)).2, h⟩)
         obtain ⟨hr0, hr1⟩ := HC.out wd HBd.out
         go_upto_region 9 with fail
         go_cut [12, 13] (fun s t wx => ∃ x es' W0, s = .pointer (some ⟨x, 0, none⟩) ∧ t = .int .i64 0 ∧ Hid (RefM wx W0 x es' (srt sgs) ∧ es'.map De.dc = sortD (ses.map De.dc) ∧ wd.heap.size ≤ W0 ∧ Below wd.heap.size wd wx))
         case first =>
          go_region_held3 (fun W => W.cell? ⟨bs, os + i * 2, none⟩ = some (.slice sA sn sc) ∧ W.cell? ⟨bs, os + i * 2 + 1, none⟩ = some (.slice sG sng scg) ∧ Below wd.heap.size wd W)
            (first | assumption | exact k8.out | exact k3.out _ | exact k2.out _ | exact k4.out _ _ (by assumption) (by assumption) | exact k5.out _ _ (by assumption))
            (first | (go_at_call 13; refine (HN.out _ (by assumption)).mono ?_; rintro e w5' ⟨x6, es6, rfl, hM6, hd6, hB6⟩) | fail)
          all_goals go_wp2_with fail
          all_goals go_meet
          all_goals exact ⟨x6, es6, _, rfl, rfl, hh ⟨hM6, hd6, Nat.le_refl _, (by assumption : _ ∧ _ ∧ _).2.2⟩⟩
         case rest =>
         obtain ⟨xr, esr, W1, rfl, rfl, H6⟩ := hcut
         clear k1 k2 k3 k4 k5 k6 k7 k8 HN hr0 hr1
         have hMc := (HM.out.below H5.out.2.2).below H6.out.2.2.2
         have hC1 := below_new wc (.cells #[.pointer (some ⟨x5, 0, none⟩)] 37)
         have HMa := hh (hMc.below hC1)
         have hsn1 : Snap wc wd W0 (.slice Aa m ca) (.slice Ab m cb) := ⟨H6.out.2.2.2.size, fun k _ h2 => H6.out.2.2.2.block k h2, fun g hg => .inl (Nat.lt_of_lt_of_le (World.ownsRow.lt HM.out.ha g hg).2 H5.out.2.1), fun g hg => .inl (Nat.lt_of_lt_of_le (World.ownsRow.lt HM.out.hb g hg).2 H5.out.2.1)⟩
         have hsz5 := H5.out.2.2.size
         have hsn2 : Snap wc wc W1 (.slice Aa m ca) (.slice Ab m cb) := ⟨Nat.le_refl _, fun k _ _ => rfl, fun g hg => .inl (Nat.lt_of_lt_of_le (World.ownsRow.lt HM.out.ha g hg).2 (Nat.le_trans hsz5 H6.out.2.2.1)), fun g hg => .inl (Nat.lt_of_lt_of_le (World.ownsRow.lt HM.out.hb g hg).2 (Nat.le_trans hsz5 H6.out.2.2.1))⟩
         have Hsn1 := hh (hsn1.below hC1)
         have Hsn2 := hh (hsn2.below hC1)
         have hok5 : SegOk (sortD (ses.map De.dc)) (srt sgs) := segOk_of HR.out HLi.out Hok.out.d.txt
         have Hok5 := hh hok5
         have hs1 := HMa.out.bel.size
         have hm9 : m + 1 ≤ 1099511627776 := by omega
         clear hMc hC1 hsn1 hsn2 hok5 hsz5
         go_wp2_with (at_builtin; first | (refine appE el_seg rfl _ _ rfl w1.heap.size _ m (VX la) rfl (own_len HMa.out.ha Hlen.out.1) (some ⟨wc.heap.size, 0, none⟩) 1 1 [.pointer (some ⟨x5, 0, none⟩)] rfl (fun e => by cases e) rfl (sl_blk (heap_alloc_new wc _)) (fun u hu => by simp at hu; subst hu; rfl) hm9 hs1 ?_; intro v7 w7 hown7 hg7 _ hat7; obtain ⟨A7, c7, hv7, -, -, -, -, -, -⟩ := own_form hown7; subst hv7; have HM7 := hh (HMa.out.appA (s := ⟨x5, sortD (ses.map De.dc), srt sgs, sa5⟩) ⟨W0, wd, H5.out.1, Hsn1.out⟩ Hok5.out (own_len hown7 (congrArg (· + 1) Hlen.out.1.symm)) hg7 hat7); have Hsn7 := hh ((Hsn2.out.growA hg7 hat7).below (below_new w7 (.cells #[.pointer (some ⟨xr, 0, none⟩)] 28))); have HMb := hh (HM7.out.below (below_new w7 (.cells #[.pointer (some ⟨xr, 0, none⟩)] 28))); have hs7 := HMb.out.bel.size; clear hown7 hg7 hat7) | (refine appE el_ref rfl _ _ rfl w1.heap.size _ m (VR lb) rfl (own_len HMb.out.hb Hlen.out.2) (some ⟨w7.heap.size, 0, none⟩) 1 1 [.pointer (some ⟨xr, 0, none⟩)] rfl (fun e => by cases e) rfl (sl_blk (heap_alloc_new w7 _)) (fun u hu => by simp at hu; subst hu; rfl) hm9 hs7 ?_; intro v8 w8 hown8 hg8 _ hat8; obtain ⟨A8, c8, hv8, -, -, -, -, -, -⟩ := own_form hown8; subst hv8; have HM8 := hh (HMb.out.appB (s := ⟨xr, esr, srt sgs⟩) ⟨W1, wc, H6.out.1, Hsn7.out⟩ (own_len hown8 (congrArg (· + 1) Hlen.out.2.symm)) hg8 hat8); clear hown8 hg8 hat8))
         go_roundw
         case rel => exact ⟨i + 1, m + 1, la ++ [⟨x5, sortD (ses.map De.dc), srt sgs, sa5⟩], lb ++ [⟨xr, esr, srt sgs⟩], A7, A8, c7, c8, by omega, by omega, by go_num, rfl, rfl, hh ⟨by rw [List.length_append, Hlen.out.1]; rfl, by rw [List.length_append, Hlen.out.2]; rfl⟩, hh ⟨by rw [List.map_append, Hsg.out.1, Hsu.out]; rfl, by rw [List.map_append, Hsg.out.2, Hsu.out]; simp only [List.map_cons, List.map_nil, Sr.sg, H6.out.2.1]; rfl⟩, HM8⟩
         case measure => simp [intOf]; omega
       · have hg : good ⟨sA, sn, sc, ses, sG, sng, scg, sgs⟩ = false := decide_eq_false hR
         rw [hg] at hsu
         have Hsu : Hid (sgsOf (l.take (i + 1)) = sgsOf (l.take i)) := hh (by rw [hsu]; simp)
         have HR := hh hR
         have HN := hh (fun (W : World) (h : S2 ⟨bs, os + i * 2, none⟩ ⟨bs, os + i * 2 + 1, none⟩ (.slice sA sn sc) (.slice sG sng scg) wo W) => show Calls Tryz.prog 16 #[.slice sA sn sc, .slice sG sng scg] W (fun e w' => e = .returned (.tuple #[.pointer none, .int .i64 1]) ∧ Below W.heap.size W w') from by
           have hS9 := Hok.out.below (below_step HBr.out h.2.2)
           refine (segnew_any W sA sG sn sc sng scg ses sgs hS9.d hS9.g HLi.out).mono ?_
           rintro e w' (⟨hn, -⟩ | ⟨-, he, h2⟩)
           · exact absurd hn HR.out
           · exact ⟨he, h2⟩)
         obtain ⟨k1, k2, k3, k4, k5, k6, k7, k8⟩ := kpack (w2 := wo) (S := S2 ⟨bs, os + i * 2, none⟩ ⟨bs, os + i * 2 + 1, none⟩ (.slice sA sn sc) (.slice sG sng scg) wo) (fun W h => h.2.2) (fun W h => ⟨(HC.out W (below_step HBr.out h)).1, (HC.out W (below_step HBr.out h)).2, h⟩)
         have HBw := hh (fun (W : World) (h : S2 ⟨bs, os + i * 2, none⟩ ⟨bs, os + i * 2 + 1, none⟩ (.slice sA sn sc) (.slice sG sng scg) wo W) => h.2.2)
         clear hmem hok hLi hsu hg hR hil
         go_upto_region 8 with fail
         go_cut [10, 11] (fun s t wx => s = .pointer none ∧ t = .int .i64 1 ∧ Hid (Below wo.heap.size wo wx))
         case first =>
          go_region_held3 (fun W => W.cell? ⟨bs, os + i * 2, none⟩ = some (.slice sA sn sc) ∧ W.cell? ⟨bs, os + i * 2 + 1, none⟩ = some (.slice sG sng scg) ∧ Below wo.heap.size wo W)
            (first | assumption | exact k8.out | exact k3.out _ | exact k2.out _ | exact k4.out _ _ (by assumption) (by assumption) | exact k5.out _ _ (by assumption))
            (first | (go_at_call 16; refine (HN.out _ (by assumption)).mono ?_; rintro e w5' ⟨rfl, hB5⟩) | fail)
          all_goals go_wp2_with fail
          all_goals go_meet
          all_goals exact ⟨rfl, rfl, hh (HBw.out _ (by assumption))⟩
         case rest =>
         obtain ⟨rfl, rfl, H5⟩ := hcut
         obtain ⟨wd, rfl⟩ : ∃ wo : World, wo = wc := ⟨_, rfl⟩
         have HBd := hh (below_step HBr.out H5.out)
         clear k1 k2 k3 k4 k5 k6 k7 k8 HN hr0 hr1 HBw
         have HN := hh (fun (W : World) (h : S2 ⟨bs, os + i * 2, none⟩ ⟨bs, os + i * 2 + 1, none⟩ (.slice sA sn sc) (.slice sG sng scg) wd W) => show Calls Tryz.prog 13 #[.slice sA sn sc, .slice sG sng scg] W (fun e w' => e = .returned (.tuple #[.pointer none, .int .i64 1]) ∧ Below W.heap.size W w') from by
           have hS9 := Hok.out.below (below_step HBd.out h.2.2)
           refine (new9_any W sA sG sn sc sng scg ses sgs hS9.d hS9.g HLi.out).mono ?_
           rintro e w' (⟨hn, -⟩ | ⟨-, he, h2⟩)
           · exact absurd hn HR.out
           · exact ⟨he, h2⟩)
         obtain ⟨k1, k2, k3, k4, k5, k6, k7, k8⟩ := kpack (w2 := wd) (S := S2 ⟨bs, os + i * 2, none⟩ ⟨bs, os + i * 2 + 1, none⟩ (.slice sA sn sc) (.slice sG sng scg) wd) (fun W h => h.2.2) (fun W h => ⟨(HC.out W (below_step HBd.out h)).1, (HC.out W (below_step HBd.out h)).2, h⟩)
         have HBw := hh (fun (W : World) (h : S2 ⟨bs, os + i * 2, none⟩ ⟨bs, os + i * 2 + 1, none⟩ (.slice sA sn sc) (.slice sG sng scg) wd W) => h.2.2)
         obtain ⟨hr0, hr1⟩ := HC.out wd HBd.out
         go_upto_region 9 with fail
         go_cut [12, 13] (fun s t wx => s = .pointer none ∧ t = .int .i64 1 ∧ Hid (Below wd.heap.size wd wx))
         case first =>
          go_region_held3 (fun W => W.cell? ⟨bs, os + i * 2, none⟩ = some (.slice sA sn sc) ∧ W.cell? ⟨bs, os + i * 2 + 1, none⟩ = some (.slice sG sng scg) ∧ Below wd.heap.size wd W)
            (first | assumption | exact k8.out | exact k3.out _ | exact k2.out _ | exact k4.out _ _ (by assumption) (by assumption) | exact k5.out _ _ (by assumption))
            (first | (go_at_call 13; refine (HN.out _ (by assumption)).mono ?_; rintro e w5' ⟨rfl, hB6⟩) | fail)
          all_goals go_wp2_with fail
          all_goals go_meet
          all_goals exact ⟨rfl, rfl, hh (HBw.out _ (by assumption))⟩
         case rest =>
         obtain ⟨rfl, rfl, H6⟩ := hcut
         clear k1 k2 k3 k4 k5 k6 k7 k8 HN hr0 hr1 HBw
         have HMc := hh ((HM.out.below H5.out).below H6.out)
         go_wp2_with fail
         go_roundw
         case rel => exact ⟨i + 1, m, la, lb, Aa, Ab, ca, cb, by omega, by omega, by go_num, rfl, rfl, Hlen, hh ⟨by rw [Hsu.out]; exact Hsg.out.1, by rw [Hsu.out]; exact Hsg.out.2⟩, HMc⟩
         case measure => simp [intOf]; omega
     · obtain rfl : i = n := by omega
       have hall : l.take i = l := List.take_of_length_le (by rw [Hl.out]; exact Nat.le_refl _)
       rw [hall] at Hsg
       have hwt : ((la.map Sg1.sg).map wtSg).sum ≤ 20000 := by
         rw [Hsg.out.1]
         exact Nat.le_trans (wt_sgsOf l) (Nat.le_trans Hw.out (by omega))
       have hsok : SegsOk wr la := ⟨HM.out.segs, HM.out.ok, hwt⟩
       obtain ⟨A', c', hv', hSa, -⟩ := own_form HM.out.ha
       injection hv' with e1 e2 e3
       subst e1
       have HMe := merge_any wr last Aa m ca la hSa Hlen.out.1 (by omega) hsok
       have hsgs := hsok.sgs
       have heq : la.map Sg1.sg = lb.map Sr.sg := Hsg.out.1.trans Hsg.out.2.symm
       rw [heq] at HMe hsgs
       have HMe := hh HMe
       have Hsgs := hh hsgs
       have Heq := hh heq
       have HBr := hh (below_step HB1.out HM.out.bel)
       obtain ⟨wo, rfl⟩ : ∃ wo : World, wo = wr := ⟨_, rfl⟩
       clear hall hwt hsok hSa e2 e3 hsgs heq
       go_wp2_with fail
       go_at_call 28
       refine HMe.out.mono ?_
       rintro e w3 ⟨x9, sa9, rfl, hSM9, hB3⟩
       have HM3 := hh (HM.out.below hB3)
       obtain ⟨B', d', hv', hSb, -⟩ := own_form HM3.out.hb
       injection hv' with e1 e2 e3
       subst e1
       have HMr := hh (mergeR_any w3 last Ab m cb lb hSb Hlen.out.2 (by omega) HM3.out.refs Hsgs.out)
       have HSM9 := hh hSM9
       have HB3 := hh (below_step HBr.out hB3)
       clear hSb hB3 hSM9 HMe e2 e3 HM HBr
       go_wp2_with fail
       go_at_call 34
       refine HMr.out.mono ?_
       rintro e w4 ⟨xr9, es9, rfl, hes9, hRM9, hB4⟩
       have hok9 := Hsgs.out.seg last
       rw [← hes9] at hok9
       have hSM4 := HSM9.out.below hB4
       rw [← hes9] at hSM4
       have HSM4 := hh hSM4
       have HRM4 := hh hRM9
       have Hok9 := hh hok9
       have HM4 := hh (HM3.out.below hB4)
       have HB4 := hh (below_step HB3.out hB4)
       clear hes9 hRM9 hB4 hok9 hSM4 HMr HSM9 HM3 HB3
       have hm8 : m ≤ 8 := by omega
       have Halk := hh (fun (j : Nat) (hj : j < m) (W : World) (hB : Below w4.heap.size w4 W) => show Calls Tryz.prog 27 #[.pointer (some ⟨(la.getD j default).x, 0, none⟩), .pointer (some ⟨(lb.getD j default).x, 0, none⟩), .slice Ap np cp] W (fun e w' => e = .returned (.bool true) ∧ Below W.heap.size W w') from by
         have hja : j < la.length := by rw [Hlen.out.1]; exact hj
         have hjb : j < lb.length := by rw [Hlen.out.2]; exact hj
         have h1 := congrArg (fun q : List Sgm => q[j]?) Heq.out
         have h2 : (la.getD j default).sg = (lb.getD j default).sg := by simpa [hja, hjb, List.getD] using h1
         have hma : la.getD j default ∈ la := by simp [List.getD, hja]
         have hmb : lb.getD j default ∈ lb := by simp [List.getD, hjb]
         have q1 := (HM4.out.segs _ hma).below hB
         have q2 := (HM4.out.refs _ hmb).below hB
         have q3 := HM4.out.ok _ hma
         have h3 : (la.getD j default).ds = (lb.getD j default).es.map De.dc := congrArg Prod.fst h2
         have h4 : (la.getD j default).gs = (lb.getD j default).gs := congrArg Prod.snd h2
         rw [h3, h4] at q1 q3
         exact alike9_any W q1 q2 q3 Ap np cp p (HP.out.below (below_step HB4.out hB)) Hpl.out (by omega) Hpb.out)
       go_wp2_with fail
       go_loopw [18] (fun q wr => ∃ j : Nat, j ≤ m ∧ q = .int .i64 (j : Int) ∧ Hid (Below w4.heap.size w4 wr)) (fun q _ => m - (intOf q).toNat)
       case atStart => exact ⟨0, Nat.zero_le _, rfl, hh (Below.refl _ _)⟩
       case round =>
       obtain ⟨j, hj, rfl, HW⟩ := hrel
       by_cases hjm : j < m
       · have hja : j < la.length := by rw [Hlen.out.1]; exact hjm
         have hjb : j < lb.length := by rw [Hlen.out.2]; exact hjm
         have hM := HM4.out.below HW.out
         obtain ⟨A', c', hv', hSa, -⟩ := own_form hM.ha
         injection hv' with e1 e2 e3
         subst e1
         obtain ⟨B', d', hv', hSb, -⟩ := own_form hM.hb
         injection hv' with e4 e5 e6
         subst e4
         obtain ⟨ba', oa, rfl, hca⟩ := hSa.lit (j := j) (by rw [VX_length]; exact hja)
         obtain ⟨bb, ob, rfl, hcb⟩ := hSb.lit (j := j) (by rw [VR_length]; exact hjb)
         rw [VX_get la j hja] at hca
         rw [VR_get lb j hjb] at hcb
         have HAk := hh (fun (W : World) (h : S2 ⟨ba', oa + j, none⟩ ⟨bb, ob + j, none⟩ (.pointer (some ⟨(la.getD j default).x, 0, none⟩)) (.pointer (some ⟨(lb.getD j default).x, 0, none⟩)) wr W) => Halk.out j hjm W (below_step HW.out h.2.2))
         obtain ⟨wp, rfl⟩ : ∃ wo : World, wo = wr := ⟨_, rfl⟩
         generalize (la.getD j default).x = xa at *
         generalize (lb.getD j default).x = xb at *
         obtain ⟨k1, k2, k3, k4, k5, k6, k7, k8⟩ := kpack (w2 := wp) (S := S2 ⟨ba', oa + j, none⟩ ⟨bb, ob + j, none⟩ (.pointer (some ⟨xa, 0, none⟩)) (.pointer (some ⟨xb, 0, none⟩)) wp) (fun W h => h.2.2) (fun W h => ⟨(World.cell?_of_block (h.block ba' (World.block_lt_of_cell? wp _ hca))).trans hca, (World.cell?_of_block (h.block bb (World.block_lt_of_cell? wp _ hcb))).trans hcb, h⟩)
         have HBw := hh (fun (W : World) (h : S2 ⟨ba', oa + j, none⟩ ⟨bb, ob + j, none⟩ (.pointer (some ⟨xa, 0, none⟩)) (.pointer (some ⟨xb, 0, none⟩)) wp W) => h.2.2)
         have j1 : (j : Int) < (m : Int) := by omega
         have j2 : (0 : Int) ≤ (j : Int) := by omega
         clear hM hSa hSb e2 e3 e5 e6 hja hjb
         go_upto_region 22 with fail
         go_cut [104] (fun s wx => s = .bool false ∧ Hid (Below wp.heap.size wp wx))
         case first =>
          go_region_held3 (fun W => W.cell? ⟨ba', oa + j, none⟩ = some (.pointer (some ⟨xa, 0, none⟩)) ∧ W.cell? ⟨bb, ob + j, none⟩ = some (.pointer (some ⟨xb, 0, none⟩)) ∧ Below wp.heap.size wp W)
            (first | assumption | exact k8.out | exact k3.out _ | exact k2.out _ | exact k4.out _ _ (by assumption) (by assumption) | exact k5.out _ _ (by assumption))
            (first | (go_at_call 27; refine (HAk.out _ (by assumption)).mono ?_; rintro e w5' ⟨rfl, hB6⟩) | fail)
          all_goals go_wp2_with fail
          all_goals go_meet
          all_goals exact ⟨rfl, hh (HBw.out _ (by assumption))⟩
         case rest =>
         obtain ⟨rfl, H6⟩ := hcut
         have HW6 := hh (below_step HW.out H6.out)
         clear k1 k2 k3 k4 k5 k6 k7 k8 HBw HAk
         go_wp2_with fail
         go_roundw
         case rel => exact ⟨j + 1, by omega, by go_num, HW6⟩
         case measure => simp [intOf]; omega
       · obtain rfl : j = m := by omega
         have HBz := hh (below_step HB4.out HW.out)
         have HAl := hh (alike9_any wr (HSM4.out.below HW.out) (HRM4.out.below HW.out) Hok9.out Ap np cp p (HP.out.below HBz.out) Hpl.out (by omega) Hpb.out)
         go_wp2_with fail
         go_at_call 27
         refine HAl.out.mono ?_
         rintro e w9 ⟨rfl, hB9⟩
         have HB9 := hh (below_step HBz.out hB9)
         have HK := hh (known9_any w9)
         clear hB9 HAl
         go_wp2_with fail
         go_at_call 14
         refine HK.out.mono ?_
         rintro e wf ⟨rfl, hBf⟩
         have HBf := hh (below_step HB9.out hBf)
         go_wp2_with fail
         go_ret
         exact ⟨rfl, HBf.out⟩
end Go.Proofs.YtphccomhggnccaaGreat
