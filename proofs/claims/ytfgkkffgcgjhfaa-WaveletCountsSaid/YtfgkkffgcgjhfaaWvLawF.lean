/- haystacklaw4: WaveletCounts, of symbols. -/
import Derived.Test.YtfgkkffgcgjhfaaWvLawE
namespace Go.Proofs.Ytfgkkffgcgjhfaa
set_option linter.unusedVariables false
set_option linter.unusedSimpArgs false
open Go.RowKit PkMath Pop Rank BtMath Wv

/-- a block whose first n cells are ints -/
def IntBlk (w : World) (g n : Nat) : Prop := ∃ cur : Array Value, w.heap[g]? = some (.cells cur 3 (0, 0)) ∧ ∀ i, i < n → ∃ x : Int, cur[i]? = some (.int .i64 x)
theorem IntBlk.set {w : World} {g n : Nat} (h : IntBlk w g n) (j : Nat) (x : Int) : IntBlk (w.setCell ⟨g, j, none⟩ (.int .i64 x)) g n := by
  obtain ⟨cur, hb, hc⟩ := h
  refine ⟨_, blk_set hb j _, fun i hi => ?_⟩
  obtain ⟨y, hy⟩ := hc i hi
  have hlt : i < cur.size := (Array.getElem?_eq_some_iff.1 hy).1
  rw [Array.getElem?_setIfInBounds]
  by_cases he : j = i
  · subst he; exact ⟨x, by simp [hlt]⟩
  · exact ⟨y, by simp [he, hy]⟩
theorem IntBlk.cell {w : World} {g n : Nat} (h : IntBlk w g n) {i : Nat} (hi : i < n) : ∃ x : Int, w.cell? ⟨g, i, none⟩ = some (.int .i64 x) ∧ w.frozen? ⟨g, i, none⟩ = false := by
  obtain ⟨cur, hb, hc⟩ := h
  obtain ⟨x, hx⟩ := hc i hi
  exact ⟨x, by rw [cell_blk hb, hx], frozen_blk hb _⟩
theorem IntBlk.below {w w' : World} {g n : Nat} (h : IntBlk w g n) (hb : Below w.heap.size w w') : IntBlk w' g n := by
  obtain ⟨cur, h1, h2⟩ := h
  exact ⟨cur, (hb.block _ (blk_lt h1)).trans h1, h2⟩
theorem intBlk_own {w : World} {base : Nat} {v : Value} {l : List Int} (h : w.ownsRow base 3 1 v l.length (VI l)) (hv : v ≠ .slice none 0 0) : ∃ g cap, v = .slice (some ⟨g, 0, none⟩) l.length cap ∧ base ≤ g ∧ g < w.heap.size ∧ IntBlk w g l.length := by
  obtain ⟨g, cap, cur, rfl, hg, hb, _, _, ht⟩ := own_blk h hv
  refine ⟨g, cap, rfl, hg, blk_lt hb, cur, hb, fun i hi => ?_⟩
  have h2 := VI_get l i hi
  rw [← ht, List.getElem?_take, if_pos hi] at h2
  exact ⟨_, by simpa using h2⟩
theorem TM.low {w : World} {base b W : Nat} {l : List Nat} (h : TM w base b W l) {g : Nat} (hg : g < base) (j : Nat) (v : Value) : TM (w.setCell ⟨g, j, none⟩ v) base b W l :=
  h.keep fun k hk _ => Below.heap_setCell _ _ _ _ (by show k ≠ g; omega)

set_option maxRecDepth 100000 in
set_option maxHeartbeats 4000000 in
theorem lawCounts_ok (W : Nat) (A : Option Addr) (n c : Nat) (l : List Int) (Q : Option Addr) (t cq : Nat) (asks : List (Int × Int × Int)) (m : List Nat) (w : World) (hA : IArg w A n c l) (hQ : Asks w Q asks) (hQl : asks.length = t) (h0 : n ≤ 1500) (h1 : t ≤ 40)
    (hW1 : 1 ≤ W) (hW2 : W ≤ 16) (hm : l = IL m) (hlt : ∀ x ∈ m, x < 2 ^ W) :
    Calls Try.prog 13 #[.int .i64 (W : Int), .slice A n c, .slice Q t cq] w (TrueBelow w) := by
  obtain ⟨hAs, hAl, hAc, hAn, hAr⟩ := hA
  subst hm
  have HAl := Lib.hid hAl
  have HAs := Lib.hid hAs
  have HAn := Lib.hid hAn
  have Hlt := Lib.hid hlt
  have HQ := Lib.hid hQ
  have HQl := Lib.hid hQl
  have hml : m.length = n := by rw [← IL_length]; exact hAl
  have Hml := Lib.hid hml
  have Hmd := Lib.hid (World.ownsRow_made (base := w.heap.size) (e := 3) (size := 1) w #[] 0 (Nat.le_refl _) (Nat.zero_le _) rfl)
  have Hb1 := Lib.hid (below_new w (.cells #[] 3))
  clear hAs hAl hAn hAr hlt hQ hQl hml
  go_enter Try.func13, Try.ntmps13
  go_upto_region 4 with (at_builtin; refine app_int rfl _ _ rfl w.heap.size (.slice (some ⟨w.heap.size, 0, none⟩) 0 0) [] rfl Hmd.out A n c (IL m) rfl HAn.out HAl.out (HAs.out.below Hb1.out) (by simp; omega) Hb1.out.size ?_; intro v2 w2 hown2 hg2 hn2)
  have hb2 : Below w.heap.size w w2 := Hb1.out.grown hg2 Hb1.out.size (fun k hk => (World.ownsRow.lt Hmd.out k hk).1)
  rw [List.nil_append] at hown2
  obtain ⟨g, c2, hv2, hgl, hgs, hIB⟩ := intBlk_own hown2 (fun e => by have := hn2.1 e; simp at this)
  obtain ⟨A2, c2', hv2', hsl2, hl2, hc2⟩ := own_sl2 hown2
  rw [hv2'] at hv2
  injection hv2 with e1 e2 e3
  subst e1 e3
  subst hv2'
  rw [HAl.out]
  have Hb2 := Lib.hid hb2
  have Hsl2 := Lib.hid hsl2
  have hIB2 : IntBlk w2 g n := by rw [HAl.out] at hIB; exact hIB
  have HIB := Lib.hid hIB2
  have HT := Lib.hid (build_any w2 (some ⟨g, 0, none⟩) n c2' W m hW1 hW2 Hml.out (by omega) hc2 hsl2 Hlt.out)
  clear hb2 hown2 hg2 hn2 hsl2 hl2 hc2 e2 hIB hIB2 Hmd Hb1
  go_wp2_with fail
  go_at_call 26
  refine HT.out.mono ?_
  rintro e w3 ⟨b, rfl, hTM, hB3⟩
  have HTM := Lib.hid hTM
  have HB3 := Lib.hid hB3
  have hb3 := below_step Hb2.out hB3
  have Hb3 := Lib.hid hb3
  clear hTM hB3 hb3 HT
  go_wp2_with fail
  go_at_call 33
  refine (refbuild_ok w3 A n c W m hW1 hW2 Hml.out (by omega) (HAs.out.below Hb3.out) Hlt.out).mono ?_
  rintro e w' ⟨rfl, rfl⟩
  go_wp2_with fail
  go_at_call 34
  refine (ints_same (some ⟨g, 0, none⟩) A (IL m) n n c2' c w3 (Hsl2.out.below HB3.out) (HAs.out.below Hb3.out) HAl.out HAl.out (by omega)).mono ?_
  rintro e w' ⟨rfl, q, rfl⟩
  have hst : IntBlk (w3.drewN q) g n ∧ TM (w3.drewN q) w2.heap.size b W m ∧ Below w.heap.size w (w3.drewN q) :=
    ⟨(HIB.out.below HB3.out).below (belowD _ _ q), HTM.out.below (belowD _ _ q), below_step Hb3.out (belowD _ _ q)⟩
  have Hst := Lib.hid hst
  clear hst HTM HB3 Hb3 HIB Hsl2 Hb2
  go_wp2_with fail
  go_loopw [11] (fun i wr => ∃ j : Nat, j ≤ n ∧ i = .int .i64 (j : Int) ∧ IntBlk wr g n ∧ TM wr w2.heap.size b W m ∧ Below w.heap.size w wr) (fun i _ => n - (intOf i).toNat)
  case atStart => exact ⟨0, Nat.zero_le _, rfl, Hst.out.1, Hst.out.2.1, Hst.out.2.2⟩
  case round =>
    clear Hst
    obtain ⟨j, hj, rfl, hIB, hTM, hB⟩ := hrel
    have HIB := Lib.hid hIB
    have HTM := Lib.hid hTM
    have HB := Lib.hid hB
    clear hIB hTM hB
    by_cases hjn : j < n
    · obtain ⟨x, hx, hfz⟩ := HIB.out.cell hjn
      go_wp2_with fail
      refine ⟨⟨j + 1, by omega, rfl, HIB.out.set j (-1), HTM.out.low hgs j _, below_cell HB.out hgl j _ rfl⟩, ?_⟩
      show n - ((j : Int) + 1).toNat < n - ((j : Int)).toNat
      omega
    · obtain rfl : j = n := by omega
      have hc0 := HTM.out.c0
      rw [Hml.out] at hc0
      have HL := Lib.hid (tlen_cell b (j : Int) wr hc0)
      clear hc0
      go_wp2_with fail
      go_at_call 32
      refine HL.out.mono ?_
      rintro e w' ⟨rfl, rfl⟩
      go_wp2_with fail
      go_at_call 35
      refine (twid_any HTM.out).mono ?_
      rintro e w' ⟨rfl, rfl⟩
      go_wp2_with fail
      go_at_call 36
      refine (tall_any HTM.out).mono ?_
      rintro e w4 ⟨A4, c4, rfl, hsl4, hB4⟩
      rw [Hml.out]
      have hb4 := below_step HB.out hB4
      go_wp2_with fail
      go_at_call 34
      refine (ints_same A4 A (IL m) j j c4 c w4 hsl4 (HAs.out.below hb4) HAl.out HAl.out (by omega)).mono ?_
      rintro e w' ⟨rfl, q2, rfl⟩
      have hT5 := (HTM.out.below hB4).below (belowD _ _ q2)
      have hb5 := below_step hb4 (belowD _ _ q2)
      obtain ⟨w5, hw5⟩ : ∃ w5, w4.drewN q2 = w5 := ⟨_, rfl⟩
      rw [hw5] at hT5 hb5 ⊢
      have HT5 := Lib.hid hT5
      have HB5 := Lib.hid hb5
      clear hsl4 hB4 hb4 hw5 hT5 hb5 HTM HB HIB HL
      go_wp2_with fail
      go_loopw [12] (fun i wr => ∃ j : Nat, j ≤ t ∧ i = .int .i64 (j : Int) ∧ Below w5.heap.size w5 wr) (fun i _ => t - (intOf i).toNat)
      case atStart => exact ⟨0, Nat.zero_le _, rfl, Below.refl _ _⟩
      case round =>
        obtain ⟨r, hr, rfl, hBr⟩ := hrel
        by_cases hrt : r < t
        · have hra : r < asks.length := by rw [HQl.out]; exact hrt
          have hTr := HT5.out.below hBr
          have hSr := (HAs.out.below HB5.out).below hBr
          obtain ⟨ab, ao, rfl, hab, hcells⟩ := ((HQ.out.below HB5.out).below hBr).ask (by intro e; rw [e] at hra; simp at hra)
          obtain ⟨k0, k1, k2, kr1, kr2⟩ := hcells r hra
          have Hkr := Lib.hid (And.intro kr1 kr2)
          have HTr := Lib.hid hTr
          have HSr := Lib.hid hSr
          have HBr := Lib.hid (below_step HB5.out hBr)
          have HBr5 := Lib.hid hBr
          clear hcells hTr hSr kr1 kr2 hra hBr
          generalize asks.getD r (0, 0, 0) = ask at *
          obtain ⟨C, Iq, K⟩ := ask
          dsimp only at k0 k1 k2 Hkr
          go_upto_region 21 with fail
          obtain ⟨wb, hwb⟩ : ∃ wb, wr.alloc (.cells #[.int .i64 C, .int .i64 Iq, .int .i64 K] 54) = wb := ⟨_, rfl⟩
          have hn := heap_alloc_new wr (.cells #[.int .i64 C, .int .i64 Iq, .int .i64 K] 54)
          have hB0 : Below wr.heap.size wr wb := by rw [← hwb]; exact below_new wr _
          rw [hwb] at hn ⊢
          obtain ⟨bx, hbx⟩ : ∃ bx, wr.heap.size = bx := ⟨_, rfl⟩
          rw [hbx] at hn ⊢
          have hx0 : wb.cell? ⟨bx, 0, none⟩ = some (.int .i64 C) := (cell_blk hn 0).trans rfl
          have hx1 : wb.cell? ⟨bx, 1, none⟩ = some (.int .i64 Iq) := (cell_blk hn 1).trans rfl
          have hx2 : wb.cell? ⟨bx, 2, none⟩ = some (.int .i64 K) := (cell_blk hn 2).trans rfl
          have Hk := Lib.hid (fun (W' : World) => held_3 (W' := W') hx0 hx1 hx2)
          have HBx := Lib.hid (fun (W' : World) => below_step (w2 := W') (below_step HBr5.out hB0))
          have hTb := HTr.out.below hB0
          have hSb := HSr.out.below hB0
          have HG := Lib.hid (fun (W' : World) (h : Below wb.heap.size wb W') => tgetZ (hTb.below h) Iq)
          have HRk := Lib.hid (fun (W' : World) (h : Below wb.heap.size wb W') => trankZ (hTb.below h) C Iq)
          have HRr := Lib.hid (fun (W' : World) (h : Below wb.heap.size wb W') => refrank4_any W' A j c (IL m) HAl.out (by omega) (hSb.below h) C Iq)
          have HSe := Lib.hid (fun (W' : World) (h : Below wb.heap.size wb W') => tselZ (hTb.below h) C K)
          have HSr' := Lib.hid (fun (W' : World) (h : Below wb.heap.size wb W') => refselect4_any W' A j c (IL m) HAl.out (by omega) (hSb.below h) C K Hkr.out.1 Hkr.out.2)
          have HBe := Lib.hid (fun (W' : World) (h : Below wb.heap.size wb W') => tbelowZ (hTb.below h) C Iq K)
          have HBr' := Lib.hid (fun (W' : World) (h : Below wb.heap.size wb W') => refbelow4_any W' A j c (IL m) HAl.out (by omega) (hSb.below h) C Iq K)
          have HSb := Lib.hid hSb
          clear hn hwb hbx hB0 hTb hSb k0 k1 k2
          generalize rk (IL m) C Iq.toNat = R at *
          generalize slZ (IL m) C K = Se at *
          generalize cntZ (IL m) C Iq.toNat K.toNat = Be at *
          by_cases hin : 0 ≤ Iq ∧ Iq < (j : Int)
          · obtain ⟨hin1, hin2⟩ := hin
            obtain ⟨p, rfl⟩ : ∃ p : Nat, Iq = (p : Int) := ⟨Iq.toNat, by omega⟩
            have hpj : p < j := by omega
            obtain ⟨al, rfl, hcl⟩ := HSb.out.some (j := p) (by rw [VI_length, HAl.out]; exact hpj)
            rw [VI_get _ _ (by rw [HAl.out]; exact hpj)] at hcl
            rw [show atZ (IL m) (p : Int) = (IL m).getD p 0 from atZ_in (by rw [HAl.out]; exact hpj)] at HG
            generalize (IL m).getD p 0 = want at *
            clear hin1 hin2
            go_upto_region 23 with fail
            clear hx0 hx1 hx2 hcl
            go_region_held3 (fun w' => w'.cell? ⟨bx, 0, none⟩ = some (.int .i64 C) ∧ w'.cell? ⟨bx, 1, none⟩ = some (.int .i64 (p : Int)) ∧ w'.cell? ⟨bx, 2, none⟩ = some (.int .i64 K) ∧ Below wb.heap.size wb w')
              (first | exact Hk.out _ (below_dr _) | exact Hk.out _ (below_step (held_b (by assumption)) (by assumption)) | exact Hk.out _ (by assumption) | assumption)
              (first
                | (go_at_call 31; refine (HG.out _ (held_b (by assumption))).mono ?_; rintro e w6 ⟨rfl, hB6⟩)
                | (go_at_call 27; refine (HRk.out _ (held_b (by assumption))).mono ?_; rintro e w7 ⟨rfl, hB7⟩)
                | (go_at_call 37; refine (HRr.out _ (held_b (by assumption))).mono ?_; rintro e w8 ⟨rfl, rfl⟩)
                | (go_at_call 29; refine (HSe.out _ (held_b (by assumption))).mono ?_; rintro e w9 ⟨rfl, hB9⟩)
                | (go_at_call 38; refine (HSr'.out _ (held_b (by assumption))).mono ?_; rintro e wa ⟨rfl, rfl⟩)
                | (go_at_call 28; refine (HBe.out _ (held_b (by assumption))).mono ?_; rintro e wc ⟨rfl, hBc⟩)
                | (go_at_call 39; refine (HBr'.out _ (held_b (by assumption))).mono ?_; rintro e wd ⟨rfl, rfl⟩))
            all_goals go_wp2_with fail
            all_goals refine ⟨⟨r + 1, by omega, rfl, HBx.out _ (by first | exact held_b (by assumption) | exact below_step (held_b (by assumption)) (by assumption))⟩, ?_⟩
            all_goals show t - ((r : Int) + 1).toNat < t - ((r : Int)).toNat
            all_goals omega
          · have hat : atZ (IL m) Iq = -1 := atZ_out (by rw [HAl.out]; omega)
            rw [hat] at HG
            clear hat
            by_cases hi0 : Iq < 0
            · have hd1 : ¬ 0 ≤ Iq := by omega
              clear hin
              go_upto_region 23 with fail
              clear hx0 hx1 hx2 
              go_region_held3 (fun w' => w'.cell? ⟨bx, 0, none⟩ = some (.int .i64 C) ∧ w'.cell? ⟨bx, 1, none⟩ = some (.int .i64 Iq) ∧ w'.cell? ⟨bx, 2, none⟩ = some (.int .i64 K) ∧ Below wb.heap.size wb w')
                (first | exact Hk.out _ (below_dr _) | exact Hk.out _ (below_step (held_b (by assumption)) (by assumption)) | exact Hk.out _ (by assumption) | assumption)
                (first
                  | (go_at_call 31; refine (HG.out _ (held_b (by assumption))).mono ?_; rintro e w6 ⟨rfl, hB6⟩)
                  | (go_at_call 27; refine (HRk.out _ (held_b (by assumption))).mono ?_; rintro e w7 ⟨rfl, hB7⟩)
                  | (go_at_call 37; refine (HRr.out _ (held_b (by assumption))).mono ?_; rintro e w8 ⟨rfl, rfl⟩)
                  | (go_at_call 29; refine (HSe.out _ (held_b (by assumption))).mono ?_; rintro e w9 ⟨rfl, hB9⟩)
                  | (go_at_call 38; refine (HSr'.out _ (held_b (by assumption))).mono ?_; rintro e wa ⟨rfl, rfl⟩)
                  | (go_at_call 28; refine (HBe.out _ (held_b (by assumption))).mono ?_; rintro e wc ⟨rfl, hBc⟩)
                  | (go_at_call 39; refine (HBr'.out _ (held_b (by assumption))).mono ?_; rintro e wd ⟨rfl, rfl⟩))
              all_goals go_wp2_with fail
              all_goals refine ⟨⟨r + 1, by omega, rfl, HBx.out _ (by first | exact held_b (by assumption) | exact below_step (held_b (by assumption)) (by assumption))⟩, ?_⟩
              all_goals show t - ((r : Int) + 1).toNat < t - ((r : Int)).toNat
              all_goals omega
            · have hd1 : 0 ≤ Iq := by omega
              have hd2 : ¬ Iq < (j : Int) := by omega
              clear hin
              go_upto_region 23 with fail
              clear hx0 hx1 hx2 
              go_region_held3 (fun w' => w'.cell? ⟨bx, 0, none⟩ = some (.int .i64 C) ∧ w'.cell? ⟨bx, 1, none⟩ = some (.int .i64 Iq) ∧ w'.cell? ⟨bx, 2, none⟩ = some (.int .i64 K) ∧ Below wb.heap.size wb w')
                (first | exact Hk.out _ (below_dr _) | exact Hk.out _ (below_step (held_b (by assumption)) (by assumption)) | exact Hk.out _ (by assumption) | assumption)
                (first
                  | (go_at_call 31; refine (HG.out _ (held_b (by assumption))).mono ?_; rintro e w6 ⟨rfl, hB6⟩)
                  | (go_at_call 27; refine (HRk.out _ (held_b (by assumption))).mono ?_; rintro e w7 ⟨rfl, hB7⟩)
                  | (go_at_call 37; refine (HRr.out _ (held_b (by assumption))).mono ?_; rintro e w8 ⟨rfl, rfl⟩)
                  | (go_at_call 29; refine (HSe.out _ (held_b (by assumption))).mono ?_; rintro e w9 ⟨rfl, hB9⟩)
                  | (go_at_call 38; refine (HSr'.out _ (held_b (by assumption))).mono ?_; rintro e wa ⟨rfl, rfl⟩)
                  | (go_at_call 28; refine (HBe.out _ (held_b (by assumption))).mono ?_; rintro e wc ⟨rfl, hBc⟩)
                  | (go_at_call 39; refine (HBr'.out _ (held_b (by assumption))).mono ?_; rintro e wd ⟨rfl, rfl⟩))
              all_goals go_wp2_with fail
              all_goals refine ⟨⟨r + 1, by omega, rfl, HBx.out _ (by first | exact held_b (by assumption) | exact below_step (held_b (by assumption)) (by assumption))⟩, ?_⟩
              all_goals show t - ((r : Int) + 1).toNat < t - ((r : Int)).toNat
              all_goals omega
        · obtain rfl : r = t := by omega
          have HBf := Lib.hid (below_step HB5.out hBr)
          go_wp2_with fail
          go_at_call 30
          refine (known4_any _).mono ?_
          rintro e w6 ⟨rfl, hB6⟩
          go_wp2_with fail
          go_ret
          exact ⟨rfl, below_step HBf.out hB6⟩
end Go.Proofs.Ytfgkkffgcgjhfaa
