/- haystacklaw9.alike. -/
import Derived.Test.YtphccomhggnccaaGreatSgG
import Derived.Deep.RegionHeld3
set_option linter.unusedVariables false
set_option linter.unusedSimpArgs false
set_option maxRecDepth 100000
namespace Go.Proofs.YtphccomhggnccaaGreat
open Go.RowKit Sg Fm
theorem kpack {w2 : World} {S : World → Prop} (hS : ∀ W, S W → Below w2.heap.size w2 W) (hK : ∀ W, Below w2.heap.size w2 W → S W) :
    Hid (S w2) ∧ Hid (∀ m, S (w2.drewN m)) ∧ Hid (∀ m, S (w2.drewN m).drew) ∧ Hid (∀ W W', S W → Below W.heap.size W W' → S W') ∧ Hid (∀ m W', Below (w2.drewN m).heap.size (w2.drewN m) W' → S W') ∧ Hid (∀ W m, S W → S (W.drewN m)) ∧ Hid (∀ W, S W → S W.drew) ∧ Hid (S w2.drew) :=
  ⟨Lib.hid (hK _ (Below.refl _ _)), Lib.hid (fun m => hK _ (below_drewN _ _ m)), Lib.hid (fun m => hK _ (below_drewN _ _ m).drew), Lib.hid (fun W W' h k => hK _ (below_step (hS W h) k)),
    Lib.hid (fun m W' k => hK _ (below_step (below_drewN _ _ m) k)), Lib.hid (fun W m h => hK _ ((hS W h).trans (below_drewN _ W m))), Lib.hid (fun W h => hK _ (hS W h).drew), Lib.hid (hK _ (Below.refl _ _).drew)⟩
theorem spoil_below {w0 w w' : World} {base : Nat} {A : Option Addr} {m c n : Nat} {xs : List Value} {e : TypeId} (hB : Below w0.heap.size w0 w) (ho : w.ownsRow base e 1 (.slice A m c) n xs) (hb : w0.heap.size ≤ base) (hg : w.grownBy w' (Value.slice A m c).ownBlock) : Below w0.heap.size w0 w' :=
  hB.grown hg hB.size (fun k hk => Nat.le_trans hb (World.ownsRow.lt ho k hk).1)
def nsk : Key := [110, 111, 32, 115, 117, 99, 104, 32, 107, 101, 121]
set_option maxHeartbeats 16000000 in
theorem alike9_any (w : World) {b1 b2 x y : Nat} {es : List De} {gs : List Key} {sa : List Nat} (h : SegM w b1 x (es.map De.dc) gs sa) (r : RefM w b2 y es gs) (ok : SegOk (es.map De.dc) gs)
    (A : Option Addr) (n c : Nat) (p : List Nat) (hp : Sl w A (VY p)) (hl : p.length = n) (hn : n ≤ 65536) (hb : ∀ x ∈ p, x < 256) :
    Calls Tryz.prog 27 #[.pointer (some ⟨x, 0, none⟩), .pointer (some ⟨y, 0, none⟩), .slice A n c] w fun e w' => e = .returned (.bool true) ∧ Below w.heap.size w w' := by
  obtain ⟨ix, hx0, hI⟩ := h.ixc
  obtain ⟨Ad, Ag, cd, cg, hyb, hyD, hyG, hya, hyg, hye⟩ := r.blk
  have hy0 : w.cell? ⟨y, 0, none⟩ = some (.slice Ad es.length cd) := cell_blk hyb 0
  have hy1 : w.cell? ⟨y, 1, none⟩ = some (.slice Ag gs.length cg) := cell_blk hyb 1
  have H := Lib.hid h
  have R := Lib.hid r
  have Ok := Lib.hid ok
  have HI := Lib.hid hI
  have HP := Lib.hid hp
  have Hl := Lib.hid hl
  have Hb := Lib.hid hb
  have hdl4 := ok.nd
  have hgl4 := ok.ng
  rw [List.length_map] at hdl4
  obtain ⟨dl, hdl⟩ : ∃ dl, es.length = dl := ⟨_, rfl⟩
  obtain ⟨gl, hgl⟩ : ∃ gl, gs.length = gl := ⟨_, rfl⟩
  rw [hdl] at hy0 hyD hdl4
  rw [hgl] at hy1 hyG hgl4
  have Hdl := Lib.hid hdl
  have Hgl := Lib.hid hgl
  have HD := Lib.hid hyD
  have HG := Lib.hid hyG
  have HC := Lib.hid (fun (W : World) (hB : Below w.heap.size w W) => And.intro ((World.cell?_of_block (hB.block x (World.block_lt_of_cell? w _ hx0))).trans hx0) (And.intro ((World.cell?_of_block (hB.block y (World.block_lt_of_cell? w _ hy0))).trans hy0) ((World.cell?_of_block (hB.block y (World.block_lt_of_cell? w _ hy1))).trans hy1)))
  clear h r ok hI hp hl hb hyb hyD hyG hya hyg hye hdl hgl
  go_enter Tryz.func27, Tryz.ntmps27
  go_upto_region 1 with fail
  obtain ⟨k1, k2, k3, k4, k5, k6, k7, k8⟩ := kpack (w2 := w) (S := fun W => W.cell? ⟨x, 0, none⟩ = some (.pointer (some ⟨ix, 0, none⟩)) ∧ W.cell? ⟨y, 1, none⟩ = some (.slice Ag gl cg) ∧ Below w.heap.size w W) (fun W h => h.2.2) (fun W h => ⟨(HC.out W h).1, (HC.out W h).2.2, h⟩)
  have HGo := Lib.hid (fun (W : World) (hB : W.cell? ⟨x, 0, none⟩ = some (.pointer (some ⟨ix, 0, none⟩)) ∧ W.cell? ⟨y, 1, none⟩ = some (.slice Ag gl cg) ∧ Below w.heap.size w W) => goneS_any (H.out.below hB.2.2) (by rw [Hgl.out]; omega))
  have HTx := Lib.hid (fun (W : World) (hB : W.cell? ⟨x, 0, none⟩ = some (.pointer (some ⟨ix, 0, none⟩)) ∧ W.cell? ⟨y, 1, none⟩ = some (.slice Ag gl cg) ∧ Below w.heap.size w W) (A5 : Option Addr) (c5 : Nat) (hS : Sl W A5 (VS gs)) => texts_true W A5 Ag gl c5 cg gs hS (HG.out.sl.below hB.2.2) Hgl.out (by omega))
  have HBw := Lib.hid (fun (W : World) (h : W.cell? ⟨x, 0, none⟩ = some (.pointer (some ⟨ix, 0, none⟩)) ∧ W.cell? ⟨y, 1, none⟩ = some (.slice Ag gl cg) ∧ Below w.heap.size w W) => h.2.2)
  go_cut [41] (fun s wx => s = .bool false ∧ Hid (Below w.heap.size w wx))
  case first =>
    go_region_held3 (fun W => W.cell? ⟨x, 0, none⟩ = some (.pointer (some ⟨ix, 0, none⟩)) ∧ W.cell? ⟨y, 1, none⟩ = some (.slice Ag gl cg) ∧ Below w.heap.size w W)
      (first | assumption | exact k1.out | exact k2.out _ | exact k3.out _ | exact k8.out | exact k4.out _ _ (by assumption) (by assumption) | exact k5.out _ _ (by assumption) | exact k6.out _ _ (by assumption) | exact k7.out _ (by assumption))
      (first | (go_at_call 32; refine (HGo.out _ (by assumption)).mono ?_; rintro e w5' ⟨v5, rfl, hO5, hB5⟩; rw [Hgl.out] at hO5; obtain ⟨A5, c5, hv5, hS5, -, -, -, -, -⟩ := own_form hO5; subst hv5; clear hO5) | (go_at_call 44; refine (HTx.out _ (by assumption) _ _ (by assumption)).mono ?_; rintro e w6' ⟨rfl, q6, rfl⟩) | fail)
    all_goals go_wp2_with fail
    all_goals go_meet
    all_goals exact ⟨rfl, Lib.hid (HBw.out _ (by first | assumption | exact k4.out _ _ (by assumption) (by assumption) | exact k6.out _ _ (by assumption) | exact k5.out _ _ (by assumption)))⟩
  case rest =>
    obtain ⟨rfl, HB1⟩ := hcut
    clear k1 k2 k3 k4 k5 k6 k7 k8 HGo HTx HBw hx0 hy0 hy1
    go_wp2_with fail
    obtain ⟨w1, rfl⟩ : ∃ w1 : World, w1 = wc := ⟨_, rfl⟩
    go_loopw [7, 8] (fun t q wr => ∃ (i : Nat) (Ak : Option Addr) (ck : Nat), i ≤ dl ∧ q = .int .i64 (i : Int) ∧ t = .slice Ak i ck ∧ Hid (wr.ownsRow w.heap.size 9 1 (.slice Ak i ck) i (VS ((es.take i).map (·.k)))) ∧ Hid (Below w.heap.size w wr)) (fun _ q _ => dl - (intOf q).toNat)
    case atStart => exact ⟨0, none, 0, Nat.zero_le _, rfl, rfl, Lib.hid (World.ownsRow_nil _ _ _ _), HB1⟩
    case round =>
      obtain ⟨i, Ak, ck, hi, rfl, rfl, HO, HB⟩ := hrel
      obtain ⟨hr0, hr1, hr2⟩ := HC.out wr HB.out
      by_cases hin : i < dl
      · --A
        have hil : i < es.length := by rw [Hdl.out]; exact hin
        obtain ⟨bd, od, rfl, hw0, hw1⟩ := garg_docs0 HD.out hin
        have hmem : es[i]?.getD default ∈ es := by simp [hil]
        have htx := HD.out.txt _ hmem
        have hdm : (es[i]?.getD default).dc ∈ es.map De.dc := List.mem_map_of_mem hmem
        have hkm : (es[i]?.getD default).k ∈ keysD (es.map De.dc) := List.mem_map_of_mem (f := fun x : Dc => x.1) hdm
        have htxt := txtOf_mem Ok.out.kd.n hdm
        have htl := Ok.out.l.t _ hdm
        have Htk := Lib.hid (show (es.take (i + 1)).map (·.k) = (es.take i).map (·.k) ++ [(es[i]?.getD default).k] by
          rw [List.take_succ_eq_append_getElem hil, List.map_append]; simp [hil])
        have HLn := Lib.hid (fun (W : World) (hB : Below w.heap.size w W) => lenT (HI.out.below hB) i (by rw [textsD_length, List.length_map]; exact hil))
        have htn : (textsD (es.map De.dc)).getD i [] = (es[i]?.getD default).t := by simp [textsD, List.getD, hil, De.dc]
        rw [htn, htx.len] at HLn
        have hcn : (keysD (es.map De.dc)).contains (es[i]?.getD default).k = true := List.contains_iff_mem.2 hkm
        have HGt := Lib.hid (fun (W : World) (hB : Below w.heap.size w W) => getS_any (H.out.below hB) Ok.out (es[i]?.getD default).k)
        unfold GetP at HGt
        rw [hcn, show txtOf (es.map De.dc) (es[i]?.getD default).k = some (es[i]?.getD default).t from htxt, Bool.true_or, Option.getD_some, htx.len] at HGt
        have hen : (es[i]?.getD default).n ≤ 4096 := by rw [← htx.len]; exact htl
        generalize es[i]?.getD default = e0 at *
        obtain ⟨ek, ea, en, ec, et⟩ := e0
        dsimp only [De.dc] at *
        have hblw := World.block_lt_of_cell? w _ hw0
        have HCd := Lib.hid (fun (W : World) (hB : Below w.heap.size w W) => And.intro ((World.cell?_of_block (hB.block bd hblw)).trans hw0) ((World.cell?_of_block (hB.block bd hblw)).trans hw1))
        obtain ⟨hd0, hd1⟩ := HCd.out wr HB.out
        have Htx := Lib.hid htx
        have hi9 : i ≤ 4000 := by omega
        have hi99 : i + 1 ≤ 1099511627776 := by omega
        have HOa := Lib.hid (World.ownsRow.alloc HO.out (.cells #[.string (ba ek)] 9))
        have HBa := Lib.hid (HB.out.alloc HB.out.size (.cells #[.string (ba ek)] 9))
        have hsa := HBa.out.size
        clear hil hmem htx hdm hkm htxt htl htn hcn hw0 hw1
        go_upto_region 8 with (at_builtin; (refine appE el_str rfl _ _ rfl w.heap.size _ i (VS ((es.take i).map fun e : De => e.k)) rfl HOa.out (some ⟨wr.heap.size, 0, none⟩) 1 1 [encStr ek] rfl (fun h => by cases h) rfl (sl_blk (heap_alloc_new wr _)) (fun u hu => by simp at hu; subst hu; rfl) hi99 hsa ?_; intro v' w2 hown hg _ _; obtain ⟨A7, c7, hv7, -, -, -, -, -, -⟩ := own_form hown; subst hv7; have H7 := Lib.hid hown; have HB7 := Lib.hid (HBa.out.grown hg hsa (fun k hk => (World.ownsRow.lt HOa.out k hk).1)); clear hown hg))
        clear hr0 hr1 hr2 hd0 hd1
        obtain ⟨hr0, hr1, hr2⟩ := HC.out w2 HB7.out
        obtain ⟨hd0, hd1⟩ := HCd.out w2 HB7.out
        have HG2 := Lib.hid (HGt.out w2 HB7.out)
        go_wp2_with fail
        go_at_call 29
        refine HG2.out.mono ?_
        rintro e wg ⟨vt, rfl, hot, hBg⟩
        obtain ⟨At, ct, rfl, hSt, -, -, -, -, -⟩ := own_form hot
        have HBg := Lib.hid (below_step HB7.out hBg)
        have hsg := hBg.size
        have Hot := Lib.hid hot
        have HSt := Lib.hid hSt
        have H7g := Lib.hid (own_below H7.out hBg)
        have hs2 := HB7.out.size
        clear hr0 hr1 hr2 hd0 hd1 hot hSt hBg HGt HG2
        go_upto_region 9 with fail
        obtain ⟨k1, k2, k3, k4, k5, k6, k7, k8⟩ := kpack (w2 := wg) (S := fun W => W.cell? ⟨y, 0, none⟩ = some (.slice (some ⟨bd, od, none⟩) dl cd) ∧ W.cell? ⟨bd, od + i * 2 + 1, none⟩ = some (.slice ea en ec) ∧ W.cell? ⟨x, 0, none⟩ = some (.pointer (some ⟨ix, 0, none⟩)) ∧ Below wg.heap.size wg W) (fun W h => h.2.2.2) (fun W h => ⟨(HC.out W (below_step HBg.out h)).2.1, (HCd.out W (below_step HBg.out h)).2, (HC.out W (below_step HBg.out h)).1, h⟩)
        have HSm := Lib.hid (fun (W : World) (h : W.cell? ⟨y, 0, none⟩ = some (.slice (some ⟨bd, od, none⟩) dl cd) ∧ W.cell? ⟨bd, od + i * 2 + 1, none⟩ = some (.slice ea en ec) ∧ W.cell? ⟨x, 0, none⟩ = some (.pointer (some ⟨ix, 0, none⟩)) ∧ Below wg.heap.size wg W) => same9_true W At ea en ct ec et (HSt.out.below h.2.2.2) (Htx.out.sl.below (below_step HBg.out h.2.2.2)) Htx.out.len (by omega))
        have HLe := Lib.hid (fun (W : World) (h : W.cell? ⟨y, 0, none⟩ = some (.slice (some ⟨bd, od, none⟩) dl cd) ∧ W.cell? ⟨bd, od + i * 2 + 1, none⟩ = some (.slice ea en ec) ∧ W.cell? ⟨x, 0, none⟩ = some (.pointer (some ⟨ix, 0, none⟩)) ∧ Below wg.heap.size wg W) => HLn.out W (below_step HBg.out h.2.2.2))
        have HBw := Lib.hid (fun (W : World) (h : W.cell? ⟨y, 0, none⟩ = some (.slice (some ⟨bd, od, none⟩) dl cd) ∧ W.cell? ⟨bd, od + i * 2 + 1, none⟩ = some (.slice ea en ec) ∧ W.cell? ⟨x, 0, none⟩ = some (.pointer (some ⟨ix, 0, none⟩)) ∧ Below wg.heap.size wg W) => h.2.2.2)
        have g0 : (0 : Int) ≤ (i : Int) := by omega
        have g1 : (i : Int) < (dl : Int) := by omega
        obtain ⟨hr0, hr1, hr2⟩ := HC.out wg HBg.out
        obtain ⟨hd0, hd1⟩ := HCd.out wg HBg.out
        go_cut [112] (fun s wx => s = .bool false ∧ Hid (Below wg.heap.size wg wx))
        case first =>
          go_region_held3 (fun W => W.cell? ⟨y, 0, none⟩ = some (.slice (some ⟨bd, od, none⟩) dl cd) ∧ W.cell? ⟨bd, od + i * 2 + 1, none⟩ = some (.slice ea en ec) ∧ W.cell? ⟨x, 0, none⟩ = some (.pointer (some ⟨ix, 0, none⟩)) ∧ Below wg.heap.size wg W)
            (first | assumption | exact k1.out | exact k2.out _ | exact k3.out _ | exact k8.out | exact k4.out _ _ (by assumption) (by assumption) | exact k5.out _ _ (by assumption) | exact k6.out _ _ (by assumption) | exact k7.out _ (by assumption))
            (first | (go_at_call 17; refine (HSm.out _ (by assumption)).mono ?_; rintro e w5' ⟨rfl, q5, rfl⟩) | (go_at_call 65; refine (HLe.out _ (by assumption)).mono ?_; rintro e w6' ⟨rfl, q6, rfl⟩) | fail)
          all_goals go_wp2_with fail
          all_goals go_meet
          all_goals exact ⟨rfl, Lib.hid (HBw.out _ (by first | assumption | exact k4.out _ _ (by assumption) (by assumption) | exact k6.out _ _ (by assumption) | exact k5.out _ _ (by assumption)))⟩
        case rest =>
          obtain ⟨rfl, HBc⟩ := hcut
          clear k1 k2 k3 k4 k5 k6 k7 k8 HSm HLe HBw hr0 hr1 hr2 hd0 hd1
          have HBr := Lib.hid (below_step HBg.out HBc.out)
          have HOt := Lib.hid (own_below Hot.out HBc.out)
          have H7r := Lib.hid (own_below H7g.out HBc.out)
          have HSp0 := Lib.hid (spoil9_n wc w2.heap.size At en ct et Htx.out.len HOt.out (by omega) (Nat.le_trans hsg HBc.out.size))
          clear HLn
          go_wp2_with fail
          go_at_call 26
          refine HSp0.out.mono ?_
          rintro e w8 ⟨rfl, hg8⟩
          have HB8 := Lib.hid (spoil_below HBr.out HOt.out hs2 hg8)
          have HO8 := Lib.hid (own_keepT H7r.out HOt.out (by decide) hg8)
          clear hg8 HSp0
          go_wp2_with fail
          go_roundw
          case rel => exact ⟨i + 1, A7, c7, by omega, by go_num, rfl, Lib.hid (by rw [Htk.out, VS_append]; exact HO8.out), HB8⟩
          case measure => simp [intOf]; omega
      --B
      · obtain rfl : i = dl := by omega
        have hkeys : (es.take i).map (fun e : De => e.k) = keysD (es.map De.dc) := by
          rw [List.take_of_length_le (by rw [Hdl.out]; exact Nat.le_refl _)]
          simp [keysD, De.dc]
        rw [hkeys] at HO
        clear hkeys hr0 hr1 hr2
        obtain ⟨w2, rfl⟩ : ∃ w2 : World, w2 = wr := ⟨_, rfl⟩
        obtain ⟨hr0, hr1, hr2⟩ := HC.out w2 HB.out
        go_wp2_with fail
        go_loopw [12] (fun q wr => ∃ j : Nat, j ≤ gl ∧ q = .int .i64 (j : Int) ∧ Hid (Below w2.heap.size w2 wr)) (fun q _ => gl - (intOf q).toNat)
        case atStart => exact ⟨0, Nat.zero_le _, rfl, Lib.hid (Below.refl _ _)⟩
        case round =>
          obtain ⟨j, hj, rfl, HW⟩ := hrel
          have HBr := Lib.hid (below_step HB.out HW.out)
          clear hr0 hr1 hr2
          obtain ⟨hr0, hr1, hr2⟩ := HC.out wr HBr.out
          by_cases hjg : j < gl
          · have hjl : j < gs.length := by rw [Hgl.out]; exact hjg
            obtain ⟨bg, og, rfl⟩ := garg_lit HG.out (Nat.lt_of_le_of_lt (Nat.zero_le _) hjg)
            have hkc := garg_cell (HG.out.below HBr.out) hjg
            have hmem : gs.getD j [] ∈ gs := getD_memK hjl
            have hno : gs.getD j [] ∉ keysD (es.map De.dc) := fun hk => (List.nodup_append.1 Ok.out.r.2).2.2 _ hk _ hmem rfl
            have HGt := getS_any (H.out.below HBr.out) Ok.out (gs.getD j [])
            unfold GetP at HGt
            rw [show (keysD (es.map De.dc)).contains (gs.getD j []) = false by simpa using hno, show gs.contains (gs.getD j []) = true from List.contains_iff_mem.2 hmem, txtOf_none hno, Bool.false_or, Option.getD_none] at HGt
            have HGt := Lib.hid HGt
            generalize gs.getD j [] = gk at *
            clear hjl hmem hno
            go_wp2_with fail
            go_at_call 29
            refine HGt.out.mono ?_
            rintro e wg ⟨vt, rfl, hot, hBg⟩
            obtain ⟨At, ct, hvt, -, -, -, -, -, -⟩ := own_form hot
            have hvt2 : vt = .slice At 0 ct := hvt
            subst hvt2
            have HBg := Lib.hid (below_step HW.out hBg)
            clear hot hBg hvt HGt
            go_wp2_with fail
            go_roundw
            case rel => exact ⟨j + 1, by omega, by go_num, HBg⟩
            case measure => simp [intOf]; omega
          · obtain rfl : j = gl := by omega
            have HOk := Lib.hid (own_below HO.out HW.out)
            obtain ⟨bh, hbh⟩ : ∃ bh, (keysD (es.map De.dc)).contains nsk = bh := ⟨_, rfl⟩
            obtain ⟨bk, hbk⟩ : ∃ bk, ((keysD (es.map De.dc)).contains nsk || gs.contains nsk) = bk := ⟨_, rfl⟩
            have q1 : (bh == bh) = true := by simp
            have q2 : (bk == bk) = true := by simp
            have HG1 : Hid (∀ W, Below w.heap.size w W → Calls Tryz.prog 29 #[.pointer (some ⟨x, 0, none⟩), .string ⟨#[110, 111, 32, 115, 117, 99, 104, 32, 107, 101, 121]⟩] W (fun e w' => ∃ A3 n3 c3, e = .returned (.tuple #[.slice A3 n3 c3, .bool bh, .bool bk]) ∧ Below W.heap.size W w')) := Lib.hid (fun W hB => (getS_any (H.out.below hB) Ok.out nsk).mono (fun e w' ⟨v, he, ho, hB'⟩ => by
              obtain ⟨A3, c3, hv3, -⟩ := own_form ho
              refine ⟨A3, ((txtOf (es.map De.dc) nsk).getD []).length, c3, ?_, hB'⟩
              rw [he, hbh, ← hv3, ← hbk, hbh]))
            have HG2 : Hid (∀ W, Below w.heap.size w W → Calls Tryz.prog 30 #[.pointer (some ⟨y, 0, none⟩), .string ⟨#[110, 111, 32, 115, 117, 99, 104, 32, 107, 101, 121]⟩] W (fun e w' => ∃ v, e = .returned (.tuple #[v, .bool bh, .bool bk]) ∧ Below W.heap.size W w')) := Lib.hid (fun W hB => (get9_any (R.out.below hB) (by rw [Hdl.out]; omega) (by rw [Hgl.out]; omega) (fun e he => by
              have h1 := (HD.out.txt e he).len
              have h2 : e.t.length ≤ 4096 := Ok.out.l.t e.dc (List.mem_map_of_mem he)
              omega) nsk).mono (fun e w' ⟨v, he, hB'⟩ => ⟨v, by rw [he, hbh, ← hbk, hbh], hB'⟩))
            clear hbh hbk
            clear HO HW HB
            have HGa := Lib.hid (HG1.out wr HBr.out)
            go_wp2_with fail
            go_at_call 29
            refine HGa.out.mono ?_
            rintro e w3 ⟨A3, n3, c3, rfl, hB3⟩
            have HB3 := Lib.hid (below_step HBr.out hB3)
            have HO3 := Lib.hid (own_below HOk.out hB3)
            have HGb := Lib.hid (HG2.out w3 HB3.out)
            clear hB3 HGa HBr HOk HG1 HG2 hr0 hr1 hr2
            go_wp2_with fail
            go_at_call 30
            refine HGb.out.mono ?_
            rintro e w4 ⟨v4, rfl, hB4⟩
            have HB4 := Lib.hid (below_step HB3.out hB4)
            have HO4 := Lib.hid (own_below HO3.out hB4)
            obtain ⟨hr0, hr1, hr2⟩ := HC.out w4 HB4.out
            clear hB4 HGb HB3 HO3
            have hfit := Ok.out.l.fits.t
            rw [rowT_length] at hfit
            have HFi := Lib.hid (find9_any w4 Ad A i cd n c es p (HD.out.below HB4.out) (by omega) (HP.out.below HB4.out) Hl.out hn Hb.out)
            have Hfit := Lib.hid hfit
            clear hfit
            go_wp2_with fail
            go_at_call 69
            refine HFi.out.mono ?_
            rintro e w5 ⟨A5, c5, rfl, hS5, hB5⟩
            have HB5 := Lib.hid (below_step HB4.out hB5)
            have HS5 := Lib.hid hS5
            have HO5 := Lib.hid (own_below HO4.out hB5)
            have HKy := Lib.hid (keysS_any (H.out.below HB5.out) (by rw [List.length_map, Hdl.out]; omega))
            obtain ⟨nm, hnm⟩ : ∃ nm, (matsOf (es.map De.dc) p).length = nm := ⟨_, rfl⟩
            have Hnm := Lib.hid hnm
            have hnm6 : nm ≤ 65536 := by
              rw [← hnm]
              unfold matsOf
              rw [List.length_map]
              exact Nat.le_trans (found_len _ _) (by have := Hfit.out; omega)
            rw [hnm]
            clear hS5 hB5 HFi HB4 HO4 hr0 hr1 hr2 hnm
            go_wp2_with fail
            go_at_call 31
            refine HKy.out.mono ?_
            rintro e w6 ⟨v6, rfl, ho6, hB6⟩
            rw [keysD_length, List.length_map, Hdl.out] at ho6
            obtain ⟨A6, c6, rfl, hS6, -, -, -, -, -⟩ := own_form ho6
            have HB6 := Lib.hid (below_step HB5.out hB6)
            have hSk : Sl w6 Ak (VS (keysD (es.map De.dc))) := by
              obtain ⟨A', c', hv', hS', -⟩ := own_form (own_below HO5.out hB6)
              injection hv' with e1 e2 e3
              rw [e1]; exact hS'
            have HTx := Lib.hid (texts_true w6 A6 Ak i c6 ck (keysD (es.map De.dc)) hS6 hSk (by rw [keysD_length, List.length_map, Hdl.out]) (by omega))
            have HS6 := Lib.hid (HS5.out.below hB6)
            clear ho6 hB6 hS6 hSk HKy HB5 HS5 HO5
            go_wp2_with fail
            go_at_call 44
            refine HTx.out.mono ?_
            rintro e w7 ⟨rfl, q7, rfl⟩
            have HB7 := Lib.hid (HB6.out.trans (below_drewN _ w6 q7))
            have HS7 := Lib.hid (HS6.out.below (below_drewN _ w6 q7))
            clear HTx HB6 HS6
            generalize w6.drewN q7 = w8 at *
            obtain ⟨hr0, hr1, hr2⟩ := HC.out w8 HB7.out
            have HDc := docsT (HI.out.below HB7.out)
            rw [textsD_length, List.length_map, Hdl.out] at HDc
            have HDc := Lib.hid HDc
            have HFs := Lib.hid (findS_any (H.out.below HB7.out) A n c p (HP.out.below HB7.out) Hl.out (by omega) Hb.out (by rw [rowT_length]; exact Hfit.out))
            go_wp2_with fail
            go_at_call 23
            refine HDc.out.mono ?_
            rintro e w9 ⟨rfl, rfl⟩
            clear HDc
            go_wp2_with fail
            go_at_call 33
            refine HFs.out.mono ?_
            rintro e w9 ⟨A9, c9, rfl, hS9, hB9⟩
            rw [Hnm.out]
            have HMa := Lib.hid (matches_true w9 A9 A5 nm c9 c5 _ hS9 (HS7.out.below hB9) Hnm.out (by omega))
            have HB9 := Lib.hid (below_step HB7.out hB9)
            clear hS9 hB9 HFs HB7 HS7 hr0 hr1 hr2
            go_wp2_with fail
            go_at_call 43
            refine HMa.out.mono ?_
            rintro e w10 ⟨rfl, q10, rfl⟩
            have HB10 := Lib.hid (HB9.out.trans (below_drewN _ w9 q10))
            clear HMa HB9
            generalize w9.drewN q10 = wa at *
            obtain ⟨hr0, hr1, hr2⟩ := HC.out wa HB10.out
            have HCn := Lib.hid (countT (HI.out.below HB10.out) A n c p (HP.out.below HB10.out) Hl.out (by omega) Hb.out)
            obtain ⟨fl, hfl⟩ : ∃ fl, (found (textsD (es.map De.dc)) p).length = fl := ⟨_, rfl⟩
            have Hfl := Lib.hid hfl
            rw [hfl] at HCn
            clear hfl
            go_wp2_with fail
            go_at_call 22
            refine HCn.out.mono ?_
            rintro e wb ⟨rfl, hBb⟩
            have HBb := Lib.hid (below_step HB10.out hBb)
            have HTs := texts9_any (R.out.below HBb.out) (by rw [Hdl.out]; omega)
            rw [Hdl.out] at HTs
            have HTs := Lib.hid HTs
            clear hBb HCn HB10 hr0 hr1 hr2
            go_wp2_with fail
            go_at_call 19
            refine HTs.out.mono ?_
            rintro e wt ⟨At, ct, rfl, hSt, hnt, hnilt, hBt⟩
            have HBt := Lib.hid (below_step HBb.out hBt)
            have hRA : RArg wt At i ct (textsD (es.map De.dc)) := by
              have e1 : es.map (·.t) = textsD (es.map De.dc) := by simp [textsD, De.dc]
              rw [← e1]
              refine rarg_of_row hSt Hdl.out (by omega) (fun e he => (HD.out.txt e he).below HBt.out) (fun e he => ?_)
              have h1 := (HD.out.txt e he).len
              have h2 : e.t.length ≤ 4096 := Ok.out.l.t e.dc (List.mem_map_of_mem he)
              omega
            have HLo := Lib.hid (locate7_any wt At A i ct n c _ p hRA (HP.out.below HBt.out) Hl.out hn Hb.out (by have := Hfit.out; omega))
            clear hSt hnt hnilt hBt hRA HTs HBb
            go_wp2_with fail
            go_at_call 21
            refine HLo.out.mono ?_
            rintro e wl ⟨Al, cl, rfl, hSl, hBl⟩
            rw [IH_length, Hfl.out]
            have HBl := Lib.hid (below_step HBt.out hBl)
            have HEn := Lib.hid (encS_any (H.out.below HBl.out) Ok.out.l.fits)
            clear hSl hBl HLo HBt
            go_wp2_with fail
            go_at_call 18
            refine HEn.out.mono ?_
            rintro e we ⟨ge, ce, rfl, -, -, hSe, hBe⟩
            have HBe := Lib.hid (below_step HBl.out hBe)
            have HSe := Lib.hid hSe
            have HEr := Lib.hid (encR9_any (R.out.below HBe.out) Ok.out.l)
            have Hord := Lib.hid H.out.ord
            have hbl := bodyS_len (l := turnS (es.map De.dc) sa) Ok.out.l (by rw [H.out.turn_len]; exact Ok.out.l.fits.t) H.out.turn_lt
            have hfrl : (frame (bodyS (keysD (es.map De.dc)) gs (turnS (es.map De.dc) sa))).length ≤ 1000012 := by
              rw [frame_length]; omega
            obtain ⟨fe, hfe⟩ : ∃ fe, (frame (bodyS (keysD (es.map De.dc)) gs (turnS (es.map De.dc) sa))).length = fe := ⟨_, rfl⟩
            have Hfe := Lib.hid hfe
            rw [hfe] at hfrl ⊢
            clear hSe hBe HEn HBl hbl hfe
            go_wp2_with fail
            go_at_call 70
            refine HEr.out.mono ?_
            rintro e wf ⟨sa2, hsa2, v2, rfl, ho2, hBf⟩
            obtain rfl : sa2 = sa := hsa2.unique Hord.out
            have ho2 : wf.ownsRow we.heap.size 5 1 v2 (frame (bodyS (keysD (es.map De.dc)) gs (turnS (es.map De.dc) sa2))).length (VY (frame (bodyS (keysD (es.map De.dc)) gs (turnS (es.map De.dc) sa2)))) := ho2
            rw [Hfe.out] at ho2
            obtain ⟨A2, c2, rfl, hS2, -, -, -, -, -⟩ := own_form ho2
            have HBf := Lib.hid (below_step HBe.out hBf)
            have HSm := Lib.hid (same9_true wf (some ⟨ge, 0, none⟩) A2 fe ce c2 _ (HSe.out.below hBf) hS2 Hfe.out (by omega))
            clear ho2 hS2 hBf HEr
            go_wp2_with fail
            go_at_call 17
            refine HSm.out.mono ?_
            rintro e wz ⟨rfl, qz, rfl⟩
            have HBz := Lib.hid (HBf.out.trans (below_drewN _ wf qz))
            go_wp2_with fail
            go_ret
            exact ⟨rfl, HBz.out⟩
end Go.Proofs.YtphccomhggnccaaGreat
