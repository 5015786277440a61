/- wavelet: Build of symbols. -/
import Derived.Test.YtfgkkffgcgjhfaaWvBldR
namespace Go.Proofs.Ytfgkkffgcgjhfaa
set_option linter.unusedVariables false
set_option linter.unusedSimpArgs false
open Go.RowKit PkMath Pop Rank BtMath Wv

def Built (w : World) (W : Nat) (l : List Nat) (e : Ending) (w' : World) : Prop :=
  ∃ b, e = .returned (.tuple #[.pointer (some ⟨b, 0, none⟩), .int .i64 0]) ∧ TM w' w.heap.size b W l ∧ Below w.heap.size w w'

set_option maxRecDepth 100000 in
set_option maxHeartbeats 2000000 in
theorem build_any (w : World) (A : Option Addr) (n cap W : Nat) (l : List Nat) (h1 : 1 ≤ W) (h2 : W ≤ 16) (hl : l.length = n) (hn : n ≤ 131072) (hcap : A = none → cap = 0) (hSl : Sl w A (VI (IL l))) (hlt : ∀ x ∈ l, x < 2 ^ W) :
    Calls Try.prog 26 #[.int .i64 (W : Int), .slice A n cap] w (Built w W l) := by
  have hp := pow_small W h2
  have HS := Lib.hid hSl
  have Hlt := Lib.hid hlt
  have Hl := Lib.hid hl
  have Hcap := Lib.hid hcap
  clear hSl hlt hl hcap
  go_enter Try.func26, Try.ntmps26
  go_wp2
  go_loop [7, 29] (fun c i => ∃ k : Nat, k ≤ n ∧ i = .int .i64 (k : Int)) (fun _ i => n - (intOf i).toNat)
  case atStart => exact ⟨0, Nat.zero_le _, rfl⟩
  case round =>
    obtain ⟨k, hk, rfl⟩ := hrel
    by_cases hkm : k < n
    · obtain ⟨a, rfl, hca⟩ := HS.out.some (j := k) (by rw [VI_length, IL_length, Hl.out]; exact hkm)
      rw [VI_get _ _ (by rw [IL_length, Hl.out]; exact hkm), IL_getD _ _ (by rw [Hl.out]; exact hkm)] at hca
      have hx : l.getD k 0 < 2 ^ W := Hlt.out _ (by
        have h : k < l.length := by rw [Hl.out]; exact hkm
        rw [List.getD_eq_getElem?_getD, List.getElem?_eq_getElem h]; exact List.getElem_mem h)
      have hx2 : ¬ (2 : Int) ^ W ≤ ((l.getD k 0 : Nat) : Int) := by
        have : ((l.getD k 0 : Nat) : Int) < ((2 ^ W : Nat) : Int) := by exact_mod_cast hx
        rw [Int.natCast_pow] at this
        show ¬ ((2 : Nat) : Int) ^ W ≤ _
        omega
      have hx3 : ¬ ((l.getD k 0 : Nat) : Int) < 0 := by omega
      clear hx
      generalize l.getD k 0 = x at *
      go_wp2
      go_round
      case rel => exact ⟨k + 1, by omega, by go_num⟩
      case measure => simp [intOf]; omega
    · obtain rfl : k = n := by omega
      have hnil : (w.alloc (.cells #[.int .i64 (k : Int), .slice none 0 0] 71)).ownsRow w.heap.size 3 1 (.slice none 0 0) (([] : List Int)).length (VI []) := World.ownsRow_nil _ _ _ _
      have hsa : Sl (w.alloc (.cells #[.int .i64 (k : Int), .slice none 0 0] 71)) A (VI (IL l)) := HS.out.below ((Below.refl _ w).alloc (Nat.le_refl _) _)
      have hba : (w.alloc (.cells #[.int .i64 (k : Int), .slice none 0 0] 71)).heap[w.heap.size]? = some (.cells #[.int .i64 (k : Int), .slice none 0 0] 71 (0, 0)) := heap_alloc_new w _
      have hB0 : Below w.heap.size w (w.alloc (.cells #[.int .i64 (k : Int), .slice none 0 0] 71)) := (Below.refl _ w).alloc (Nat.le_refl _) _
      have hsz : w.heap.size < (w.alloc (.cells #[.int .i64 (k : Int), .slice none 0 0] 71)).heap.size := by simp
      have Hnil := Lib.hid hnil
      have Hsa := Lib.hid hsa
      have Hba := Lib.hid hba
      have HB0 := Lib.hid hB0
      have Hsz := Lib.hid hsz
      clear hnil hsa hba hB0 hsz
      go_upto_region 12 with fail
      go_cut [8, 9] (fun s8 s9 wx => s8 = .pointer (some ⟨w.heap.size, 0, none⟩) ∧ Outer w w.heap.size W l 0 s9 wx)
      case first =>
        go_wp2_with (at_builtin; refine app_int rfl _ _ rfl w.heap.size (.slice none 0 0) [] rfl Hnil.out A k cap (IL l) rfl Hcap.out (by rw [IL_length]; exact Hl.out) Hsa.out (by simp; omega) (Nat.le_of_lt Hsz.out) ?_; intro v' w1 hown hg hnl)
        have hb1 := grown_blk hg Hba.out (by simp [Value.ownBlock])
        have hO : Outer w w.heap.size W l 0 v' w1 := by
          refine ⟨hown, ⟨.slice none 0 0, fun _ => 0, ?_, World.ownsRow_nil _ _ _ _, fun j hj => absurd hj (Nat.not_lt_zero _)⟩, HB0.out.grown hg (Nat.le_of_lt Hsz.out) (fun q hq => by simp [Value.ownBlock] at hq)⟩
          rw [Hl.out]; exact hb1
        have HO := Lib.hid hO
        clear hO hb1 hown hg hnl
        go_meet
        case rel => exact ⟨rfl, HO.out⟩
      case rest =>
        obtain ⟨rfl, hO⟩ := hcut
        have HO := Lib.hid hO
        clear hO Hnil Hsa Hba HB0 Hsz HS Hcap
        go_wp2_with fail
        go_loopw [9, 10] (fun rv q wr => ∃ m : Nat, m ≤ W ∧ q = .int .i64 ((m : Int) - 1) ∧ Outer w w.heap.size W l (W - m) rv wr) (fun _ q _ => (intOf q + 1).toNat)
        case atStart => exact ⟨W, Nat.le_refl _, rfl, by rw [Nat.sub_self]; exact HO.out⟩
        case round =>
          clear HO
          obtain ⟨m, hm, hq, hO⟩ := hrel
          cases m with
          | zero =>
            subst hq
            rw [Nat.sub_zero] at hO
            have HO := Lib.hid hO
            clear hO
            go_wp2_with fail
            go_ret2
            exact ⟨_, rfl, outer_tm HO.out h1 h2 (by rw [Hl.out]; exact hn) Hlt.out (Nat.le_refl _), HO.out.2.2⟩
          | succ D =>
            have hq2 : ((D + 1 : Nat) : Int) - 1 = (D : Int) := by omega
            rw [hq2] at hq
            subst hq
            clear hq2
            obtain ⟨kk, hkk⟩ : ∃ kk, W - (D + 1) = kk := ⟨_, rfl⟩
            have hD : W - 1 - kk = D := by omega
            rw [hkk] at hO
            obtain ⟨hrow, ⟨lv, vb, hblk, hlown, hV⟩, hB⟩ := hO
            obtain ⟨A2, c2, rfl, hsl2, hl2, hA2⟩ := own_sl hrow
            have hrl : (lvl W l kk).length = k := by rw [rowAt_length, Hl.out]
            rw [IL_length, hrl]
            have hrow63 : ∀ j, j < k → (lvl W l kk).getD j 0 < 2 ^ 63 := fun j hj => by
              have h : j < (lvl W l kk).length := by rw [hrl]; exact hj
              have hm : (lvl W l kk).getD j 0 ∈ lvl W l kk := by
                rw [List.getD_eq_getElem?_getD, List.getElem?_eq_getElem h]; exact List.getElem_mem h
              exact Nat.lt_of_lt_of_le (Hlt.out _ ((rowAt_mem W l kk _).1 hm)) (Nat.pow_le_pow_right (by decide) (by omega))
            have H63 := Lib.hid hrow63
            have Hrl := Lib.hid hrl
            have Hsl := Lib.hid hsl2
            have Hblk := Lib.hid hblk
            have Hlown := Lib.hid hlown
            have HV := Lib.hid hV
            have HB := Lib.hid hB
            have HD := Lib.hid hD
            have Hkk := Lib.hid hkk
            have hI0 : Inner wr wr.heap.size (lvl W l kk) D 0 (.slice none 0 0) (wr.alloc (.cells #[.slice none 0 0, .slice none 0 0] 72)) :=
              ⟨.slice none 0 0, .slice none 0 0, heap_alloc_new wr _, World.ownsRow_nil _ _ _ _, World.ownsRow_nil _ _ _ _, World.ownsRow_nil _ _ _ _, fun g hg => by simp [Value.ownBlock] at hg, (Below.refl _ _).alloc (Nat.le_refl _) _⟩
            have HI0 := Lib.hid hI0
            clear hrow63 hrl hsl2 hblk hlown hV hB hD hkk hl2 hA2 hrow hI0
            go_wp2_with fail
            obtain ⟨w0, rfl⟩ : ∃ w0 : World, w0 = wr := ⟨_, rfl⟩
            go_loopw [11, 56] (fun lv q wi => ∃ j : Nat, j ≤ k ∧ q = .int .i64 (j : Int) ∧ Inner w0 w0.heap.size (lvl W l kk) D j lv wi) (fun _ q _ => k - (intOf q).toNat)
            case atStart => exact ⟨0, Nat.zero_le _, rfl, HI0.out⟩
            case round =>
              clear HI0
              obtain ⟨j, hj, rfl, hI⟩ := hrel
              by_cases hjk : j < k
              · have hjr : j < (lvl W l kk).length := by rw [Hrl.out]; exact hjk
                obtain ⟨a, rfl, hca⟩ := (Hsl.out.below (by obtain ⟨_, _, _, _, _, _, _, h⟩ := hI; exact h)).some (j := j) (by rw [VI_length, IL_length, Hrl.out]; exact hjk)
                rw [VI_get _ _ (by rw [IL_length, Hrl.out]; exact hjk), IL_getD _ _ hjr] at hca
                have hx63 := H63.out j hjk
                have hbit := i64_bit ((lvl W l kk).getD j 0) D hx63
                have HI := Lib.hid hI
                have Hjr := Lib.hid hjr
                obtain ⟨bb, hbb⟩ : ∃ bb, ((lvl W l kk).getD j 0).testBit D = bb := ⟨_, rfl⟩
                rw [hbb] at hbit
                have Hbb := Lib.hid hbb
                clear hx63 hI hjr hbb
                obtain ⟨x, hx⟩ : ∃ x, (lvl W l kk).getD j 0 = x := ⟨_, rfl⟩
                rw [hx] at hbit hca
                have Hx := Lib.hid hx
                clear hx
                cases bb with
                | false =>
                  rw [show (((false.toNat : Nat)) : Int) = 0 from rfl] at hbit
                  go_upto_region 22 with fail
                  clear hbit hca
                  obtain ⟨q0, q1, i1, i2, i3, i4, i5, i6⟩ := HI.out
                  have Hown := Lib.hid (World.ownsRow.alloc i2 (.cells #[.bool false] 4))
                  have hn1 : (wr.alloc (.cells #[.bool false] 4)).heap[wr.heap.size]? = some (.cells (VB [false]).toArray 4 (0, 0)) := heap_alloc_new wr _
                  have Hn1 := Lib.hid hn1
                  have hsz := i6.size
                  clear i1 i2 i3 i4 i5 i6 hn1
                  have hbl : (bitsOf D ((lvl W l kk).take j)).length ≤ k := by rw [bitsOf_length, List.length_take]; have := Hrl.out; omega
                  go_upto_region 23 with (at_builtin; refine app_bool_at rfl _ _ rfl w0.heap.size _ (bitsOf D ((lvl W l kk).take j)) rfl Hown.out ⟨wr.heap.size, 0, none⟩ 1 false rfl (sl_blk Hn1.out) (by omega) (by simp; omega) ?_; intro v' w2 hown2 hg2 hat2)
                  obtain ⟨p0, p1, b1, b2, b3, b4, b5, b6, b7⟩ := inner_bit HI.out (Nat.le_refl _) (by rw [Hbb.out]; exact hown2) hg2 Hjr.out
                  have hcc : w2.cell? ⟨w0.heap.size, 0, none⟩ = some p0 := (cell_blk b1 0).trans rfl
                  have Hown2 := Lib.hid (World.ownsRow.alloc b3 (.cells #[.int .i64 (x : Int)] 3))
                  have hn2 : (w2.alloc (.cells #[.int .i64 (x : Int)] 3)).heap[w2.heap.size]? = some (.cells (VI [(x : Int)]).toArray 3 (0, 0)) := heap_alloc_new w2 _
                  have Hn2 := Lib.hid hn2
                  have hsz2 := b6.size
                  have Hi := Lib.hid (And.intro b1 (And.intro b2 (And.intro b3 (And.intro b4 (And.intro b5 b6)))))
                  have hfl : (IL (flt D (lvl W l kk) false j)).length ≤ k := by rw [IL_length]; have := flt_le D (lvl W l kk) false j; omega
                  clear b1 b2 b3 b4 b5 b6 b7 hn2 hown2 hg2 hat2 Hown Hn1 hbl hsz HI
                  go_wp2_with (at_builtin; refine app_int_at rfl _ _ rfl w0.heap.size _ (IL (flt D (lvl W l kk) false j)) rfl Hown2.out ⟨w2.heap.size, 0, none⟩ 1 (x : Int) rfl (sl_blk Hn2.out) (by omega) (by simp; omega) ?_; intro v3 w3 hown3 hg3 hat3; obtain ⟨b1, b2, b3, b4, b5, b6⟩ := Hi.out; obtain ⟨hI3, hc3, hf3⟩ := inner_push0 (Nat.le_refl _) Hjr.out Hbb.out b1 b2 b3 b4 b5 b6 (by rw [Hx.out]; exact hown3) hg3 hat3; obtain ⟨A3, c3, rfl, hs3, hl3, ha3⟩ := own_sl hown3; rw [List.length_append, List.length_singleton] at hI3; have HI3 := Lib.hid hI3; clear hs3 hl3 ha3 b1 b2 b3 b4 b5 b6 hI3 hown3 hg3 hat3)
                  refine ⟨⟨j + 1, by omega, rfl, HI3.out⟩, ?_⟩
                  show k - ((j : Int) + 1).toNat < k - ((j : Int)).toNat
                  omega
                | true =>
                  rw [show (((true.toNat : Nat)) : Int) = 1 from rfl] at hbit
                  go_upto_region 22 with fail
                  clear hbit hca
                  obtain ⟨q0, q1, i1, i2, i3, i4, i5, i6⟩ := HI.out
                  have Hown := Lib.hid (World.ownsRow.alloc i2 (.cells #[.bool true] 4))
                  have hn1 : (wr.alloc (.cells #[.bool true] 4)).heap[wr.heap.size]? = some (.cells (VB [true]).toArray 4 (0, 0)) := heap_alloc_new wr _
                  have Hn1 := Lib.hid hn1
                  have hsz := i6.size
                  clear i1 i2 i3 i4 i5 i6 hn1
                  have hbl : (bitsOf D ((lvl W l kk).take j)).length ≤ k := by rw [bitsOf_length, List.length_take]; have := Hrl.out; omega
                  go_upto_region 23 with (at_builtin; refine app_bool_at rfl _ _ rfl w0.heap.size _ (bitsOf D ((lvl W l kk).take j)) rfl Hown.out ⟨wr.heap.size, 0, none⟩ 1 true rfl (sl_blk Hn1.out) (by omega) (by simp; omega) ?_; intro v' w2 hown2 hg2 hat2)
                  obtain ⟨p0, p1, b1, b2, b3, b4, b5, b6, b7⟩ := inner_bit HI.out (Nat.le_refl _) (by rw [Hbb.out]; exact hown2) hg2 Hjr.out
                  have hcc : w2.cell? ⟨w0.heap.size, 1, none⟩ = some p1 := (cell_blk b1 1).trans rfl
                  have Hown2 := Lib.hid (World.ownsRow.alloc b4 (.cells #[.int .i64 (x : Int)] 3))
                  have hn2 : (w2.alloc (.cells #[.int .i64 (x : Int)] 3)).heap[w2.heap.size]? = some (.cells (VI [(x : Int)]).toArray 3 (0, 0)) := heap_alloc_new w2 _
                  have Hn2 := Lib.hid hn2
                  have hsz2 := b6.size
                  have Hi := Lib.hid (And.intro b1 (And.intro b2 (And.intro b3 (And.intro b4 (And.intro b5 b6)))))
                  have hfl : (IL (flt D (lvl W l kk) true j)).length ≤ k := by rw [IL_length]; have := flt_le D (lvl W l kk) true j; omega
                  clear b1 b2 b3 b4 b5 b6 b7 hn2 hown2 hg2 hat2 Hown Hn1 hbl hsz HI
                  go_wp2_with (at_builtin; refine app_int_at rfl _ _ rfl w0.heap.size _ (IL (flt D (lvl W l kk) true j)) rfl Hown2.out ⟨w2.heap.size, 0, none⟩ 1 (x : Int) rfl (sl_blk Hn2.out) (by omega) (by simp; omega) ?_; intro v3 w3 hown3 hg3 hat3; obtain ⟨b1, b2, b3, b4, b5, b6⟩ := Hi.out; obtain ⟨hI3, hc3, hf3⟩ := inner_push1 (Nat.le_refl _) Hjr.out Hbb.out b1 b2 b3 b4 b5 b6 (by rw [Hx.out]; exact hown3) hg3 hat3; obtain ⟨A3, c3, rfl, hs3, hl3, ha3⟩ := own_sl hown3; rw [List.length_append, List.length_singleton] at hI3; have HI3 := Lib.hid hI3; clear hs3 hl3 ha3 b1 b2 b3 b4 b5 b6 hI3 hown3 hg3 hat3)
                  refine ⟨⟨j + 1, by omega, rfl, HI3.out⟩, ?_⟩
                  show k - ((j : Int) + 1).toNat < k - ((j : Int)).toNat
                  omega
              · obtain rfl : j = k := by omega
                obtain ⟨p0, p1, e1, e2, e3, e4, e5, e6⟩ := hI
                have htk : (lvl W l kk).take j = lvl W l kk := List.take_of_length_le (by rw [Hrl.out]; exact Nat.le_refl _)
                rw [htk] at e2
                have hB0 := HB.out
                have hlow := Hlown.out
                have hRest : Rest w w0.heap.size w.heap.size W l kk (flt D (lvl W l kk) false j) (flt D (lvl W l kk) true j) p0 p1 lv vb wr :=
                  ⟨e1, own_mono e3 hB0.size, own_mono e4 hB0.size, (e6.block _ (blk_lt Hblk.out)).trans Hblk.out, own_below hlow e6, fun i hi => by obtain ⟨hh, h1, h2⟩ := (HV.out i hi).named; exact ⟨hh, h1.below e6, fun e => by have := (World.ownsRow.lt e3 hh e).1; omega⟩, below_step hB0 e6⟩
                obtain ⟨Al, cl, rfl, hsl, hll, hcl⟩ := own_sl2 e2
                obtain ⟨A0, c0, hp0, hs0, hl0, hc0⟩ := own_sl2 e3
                have hzl := zeros_flt D (lvl W l kk) j Hrl.out
                rw [hzl] at hp0
                subst hp0
                rw [bitsOf_length, Hrl.out]
                have hRd := hRest.below (below0 wr.heap.size wr)
                have hOf := of_any wr.drew Al j cl (bitsOf D (lvl W l kk)) (by rw [bitsOf_length, Hrl.out]) (by omega) (Sl.drew hsl)
                have HOf := Lib.hid hOf
                have hct : wr.drew.cell? ⟨w.heap.size, 1, none⟩ = some lv := (cell_blk hRd.tree 1).trans rfl
                have hcp : wr.drew.cell? ⟨w0.heap.size, 0, none⟩ = some (.slice A0 (zeros D (lvl W l kk)) c0) := (cell_blk hRd.blk 0).trans rfl
                have HRest := Lib.hid hRd
                have Hp0 := Lib.hid (fun g hg => (World.ownsRow.lt hRd.o0 g hg).2)
                have hzz : zeros D (lvl W l kk) ≤ j := by rw [← hzl, IL_length]; exact flt_le _ _ _ _
                have hkk2 : kk ≤ 16 := by have := Hkk.out; omega
                clear htk e1 e2 e3 e4 e5 e6 hB0 hlow hsl hll hcl hs0 hl0 hc0 hOf hRest hRd hzl
                go_upto_region 25 with fail
                go_cut [10] (fun s10 wx => s10 = .int .i64 (D : Int) ∧ ∃ lv' vb', Rest w w0.heap.size w.heap.size W l (kk + 1) (flt D (lvl W l kk) false j) (flt D (lvl W l kk) true j) (.slice A0 (zeros D (lvl W l kk)) c0) p1 lv' vb' wx)
                case first =>
                  go_region_law (first | (refine step_of rfl ?_ HOf.out ?_; (focus go_simp); intro vn w1 hBV hB1; have hR1 := HRest.out.below hB1; have hct1 : w1.cell? ⟨w.heap.size, 1, none⟩ = some lv := (cell_blk hR1.tree 1).trans rfl; have hcp1 : w1.cell? ⟨w0.heap.size, 0, none⟩ = some (.slice A0 (zeros D (lvl W l kk)) c0) := (cell_blk hR1.blk 0).trans rfl; have hRA := hR1.below (below_new w1 (.cells #[.pointer (some ⟨vn, 0, none⟩), .int .i64 ((zeros D (lvl W l kk) : Nat) : Int)] 74)); have hct2 : (w1.alloc (.cells #[.pointer (some ⟨vn, 0, none⟩), .int .i64 ((zeros D (lvl W l kk) : Nat) : Int)] 74)).cell? ⟨w.heap.size, 1, none⟩ = some lv := (cell_blk hRA.tree 1).trans rfl; have hcp2 : (w1.alloc (.cells #[.pointer (some ⟨vn, 0, none⟩), .int .i64 ((zeros D (lvl W l kk) : Nat) : Int)] 74)).cell? ⟨w0.heap.size, 0, none⟩ = some (.slice A0 (zeros D (lvl W l kk)) c0) := (cell_blk hRA.blk 0).trans rfl; have Hnew := Lib.hid (sl_blk (xs := [.pointer (some ⟨vn, 0, none⟩), .int .i64 ((zeros D (lvl W l kk) : Nat) : Int)]) (heap_alloc_new w1 (.cells #[.pointer (some ⟨vn, 0, none⟩), .int .i64 ((zeros D (lvl W l kk) : Nat) : Int)] 74))); have HVA := Lib.hid (new_named hBV Hp0.out HRest.out.bel.size (.cells #[.pointer (some ⟨vn, 0, none⟩), .int .i64 ((zeros D (lvl W l kk) : Nat) : Int)] 74)); have HRA := Lib.hid hRA; clear hBV hB1 hR1 hRA) | (refine wp_app_lev rfl _ _ rfl w.heap.size lv kk (lvc vb W l kk) rfl HRA.out.lev ⟨w1.heap.size, 0, none⟩ 1 vn (zeros D (lvl W l kk)) rfl Hnew.out hkk2 HRA.out.bel.size ?_; intro v2 w2 hown2 hg2; obtain ⟨hR2, hct3, hfz3⟩ := HRA.out.push (by rw [HD.out]; exact HVA.out) (Nat.le_refl _) (by rw [HD.out]; exact hown2) hg2; obtain ⟨g2, cp2, rfl⟩ := own_lev_form hown2; have HR2 := Lib.hid hR2; clear hR2 hown2 hg2))
                  all_goals go_wp2_with fail
                  all_goals go_meet
                  all_goals exact ⟨rfl, _, _, HR2.out⟩
                case rest =>
                  obtain ⟨rfl, lv', vb', hR⟩ := hcut
                  obtain ⟨A1, c1, rfl, hs1, hl1, hc1⟩ := own_sl2 hR.o1
                  have hc0 : wc.cell? ⟨w0.heap.size, 0, none⟩ = some (.slice A0 (zeros D (lvl W l kk)) c0) := (cell_blk hR.blk 0).trans rfl
                  have hc1' : wc.cell? ⟨w0.heap.size, 1, none⟩ = some (.slice A1 (IL (flt D (lvl W l kk) true j)).length c1) := (cell_blk hR.blk 1).trans rfl
                  have HR := Lib.hid hR
                  have Hs1 := Lib.hid hs1
                  have Hc1 := Lib.hid hc1
                  have hf0 : (IL (flt D (lvl W l kk) false j)).length ≤ j := by rw [IL_length]; exact flt_le _ _ _ _
                  have hf1 : (IL (flt D (lvl W l kk) true j)).length ≤ j := by rw [IL_length]; exact flt_le _ _ _ _
                  have Hz := Lib.hid (zeros_flt D (lvl W l kk) j Hrl.out)
                  clear hR hs1 hl1 hc1 HOf hct hcp HRest Hp0 hzz
                  go_wp2_with (at_builtin; refine app_int rfl _ _ rfl w.heap.size _ (IL (flt D (lvl W l kk) false j)) rfl HR.out.o0 A1 _ c1 (IL (flt D (lvl W l kk) true j)) rfl Hc1.out rfl Hs1.out (by omega) HR.out.bel.size ?_; intro v5 w5 hown5 hg5 hn5; have hO5 := HR.out.join hown5 hg5 (by rw [HD.out]; exact prt_flt D (lvl W l kk) j Hrl.out); have HO5 := Lib.hid hO5; clear hown5 hg5 hn5 hO5)
                  refine ⟨⟨D, by omega, rfl, by rw [show W - D = kk + 1 by have := Hkk.out; omega]; exact HO5.out⟩, ?_⟩
                  show ((D : Int) - 1 + 1).toNat < ((D : Int) + 1).toNat
                  omega
end Go.Proofs.Ytfgkkffgcgjhfaa
