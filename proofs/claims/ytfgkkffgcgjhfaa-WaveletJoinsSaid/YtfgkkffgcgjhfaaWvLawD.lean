/- haystacklaw4: WaveletJoins. -/
import Derived.Test.YtfgkkffgcgjhfaaWvLawC
namespace Go.Proofs.Ytfgkkffgcgjhfaa
set_option linter.unusedVariables false
set_option linter.unusedSimpArgs false
open Go.RowKit PkMath Pop Rank BtMath Wv

theorem rk_join (x y : List Int) (c : Int) (n : Nat) (h : x.length + y.length ≤ n) : rk (x ++ y) c n = rk x c n + rk y c n := by
  rw [rk_big (x ++ y) c n (by rw [List.length_append]; exact h), rk_big x c n (by omega), rk_big y c n (by omega), rk_append]
theorem cntZ_join (x y : List Int) (c : Int) (n : Nat) (h : x.length + y.length ≤ n) : cntZ (x ++ y) c 0 n = cntZ x c 0 n + cntZ y c 0 n := by
  unfold cntZ seg
  rw [List.take_of_length_le (by rw [List.length_append]; exact h), List.take_of_length_le (by omega), List.take_of_length_le (by omega)]
  simp only [List.drop_zero, List.filter_append, List.length_append]
theorem cntZ_first (x y : List Int) (c : Int) (n : Nat) (h : x.length ≤ n) : cntZ (x ++ y) c 0 x.length = cntZ x c 0 n := by
  unfold cntZ seg
  rw [List.take_of_length_le h]
  simp
theorem sl_join (x y : List Int) (c : Int) (n p : Nat) (hn : x.length ≤ n) (h : sl y c 0 = some p) : sl (x ++ y) c (rk x c n) = some (x.length + p) := by
  obtain ⟨hp, hpc, hpk⟩ := sl_some.1 h
  refine sl_some.2 ⟨by rw [List.length_append]; omega, ?_, ?_⟩
  · rw [List.getElem_append_right (by omega)]
    simp [hpc]
  · rw [rk_big x c n hn]
    unfold rk at hpk ⊢
    rw [List.take_length, List.take_append, List.take_of_length_le (by omega), List.count_append, show x.length + p - x.length = p by omega, hpk]
    rfl

/-- a masked row that is appended to, one symbol more -/
theorem mask8 (l : List Int) (j : Nat) (hj : j < l.length) : (IL (mask 8 l)).take (j + 1) = (IL (mask 8 l)).take j ++ [l.getD j 0 % 8] := mask_succ 8 (by decide) l j hj

set_option maxRecDepth 100000 in
set_option maxHeartbeats 4000000 in
theorem lawJoins (A : Option Addr) (n c : Nat) (l : List Int) (A' : Option Addr) (n' c' : Nat) (l' : List Int) (c0 : Int) (w : World) (hA : IArg w A n c l) (hA' : IArg w A' n' c' l') (hs : n + n' < 4611686018427387904) :
    Calls Try.prog 10 #[.slice A n c, .slice A' n' c', .int .i64 c0] w (TrueBelow w) := by
  obtain ⟨hAs, hAl, hAc, hAn, hAr⟩ := hA
  obtain ⟨hAs', hAl', hAc', hAn', hAr'⟩ := hA'
  by_cases h0 : 600 < n + n'
  · have h00 : (600 : Int) < (n : Int) + (n' : Int) := by omega
    clear hAr hAr'
    go_enter Try.func10, Try.ntmps10
    go_wp2_with fail
    go_ret
    exact ⟨rfl, Below.refl _ _⟩
  have h00 : ¬ (600 : Int) < (n : Int) + (n' : Int) := by omega
  by_cases h1 : c0 < 0
  · clear hAr hAr'
    go_enter Try.func10, Try.ntmps10
    go_wp2_with fail
    go_ret
    exact ⟨rfl, Below.refl _ _⟩
  by_cases h2 : 7 < c0
  · clear hAr hAr'
    go_enter Try.func10, Try.ntmps10
    go_wp2_with fail
    go_ret
    exact ⟨rfl, Below.refl _ _⟩
  obtain ⟨d, rfl⟩ : ∃ d : Nat, c0 = (d : Int) := ⟨c0.toNat, by omega⟩
  have hn1 : n ≤ 600 := by omega
  have hn2 : n' ≤ 600 := by omega
  have hn3 : n + n' ≤ 600 := by omega
  have HAl := Lib.hid hAl
  have HAs := Lib.hid hAs
  have HAl' := Lib.hid hAl'
  have HAs' := Lib.hid hAs'
  clear hAl hAs hAn hAr hAl' hAs' hAn' hAr' h1 h0 hs
  go_enter Try.func10, Try.ntmps10
  go_wp2_with fail
  go_loopw [7, 10] (fun v i wr => ∃ j : Nat, j ≤ n ∧ i = .int .i64 (j : Int) ∧ wr.ownsRow w.heap.size 3 1 v ((IL (mask 8 l)).take j).length (VI ((IL (mask 8 l)).take j)) ∧ Below w.heap.size w wr) (fun _ i _ => n - (intOf i).toNat)
  case atStart => exact ⟨0, Nat.zero_le _, rfl, World.ownsRow_nil _ _ _ _, Below.refl _ _⟩
  case round =>
    obtain ⟨j, hj, rfl, hown, hB⟩ := hrel
    by_cases hlt : j < n
    · have hjl : j < l.length := by rw [HAl.out]; exact hlt
      obtain ⟨ad, rfl, hca⟩ := (HAs.out.below hB).some (j := j) (by rw [VI_length]; exact hjl)
      rw [VI_get _ _ hjl] at hca
      have hbit := i64_and7 (l.getD j 0)
      have Hsucc := Lib.hid (mask8 l j hjl)
      obtain ⟨A1, c1, hv, hsl1, hl1, hA1⟩ := own_sl hown
      subst hv
      have hlm : ((IL (mask 8 l)).take j).length ≤ j := List.length_take_le _ _
      generalize l.getD j 0 = x at *
      generalize (IL (mask 8 l)).take j = xs at *
      have hbl := hB.size
      go_wp2_with (at_builtin; refine app_int rfl _ _ rfl w.heap.size _ xs rfl (World.ownsRow.alloc hown _) (some ⟨wr.heap.size, 0, none⟩) 1 1 [x % 8] rfl (fun h => by cases h) rfl (sl_blk (heap_alloc_new wr _)) (by omega) (by simp; omega) ?_; intro v' w1 hown1 hgrow hnil)
      have hB1 : Below w.heap.size w w1 := (hB.alloc hB.size _).grown hgrow (by simp; omega) (fun k hk => (World.ownsRow.lt hown k hk).1)
      refine ⟨⟨j + 1, by omega, rfl, by rw [Hsucc.out]; exact hown1, hB1⟩, ?_⟩
      show n - ((j : Int) + 1).toNat < n - ((j : Int)).toNat
      omega
    · obtain rfl : j = n := by omega
      have ht : (IL (mask 8 l)).take j = IL (mask 8 l) := List.take_of_length_le (by rw [IL_length, mask_length, HAl.out]; exact Nat.le_refl _)
      rw [ht] at hown
      obtain ⟨w0, rfl⟩ : ∃ w0 : World, w0 = wr := ⟨_, rfl⟩
      have HB0 := Lib.hid hB
      have Hown0 := Lib.hid hown
      obtain ⟨Ax, cx, hvx, hslx, hlx, hcx⟩ := own_sl2 hown
      subst hvx
      rw [IL_length, mask_length, HAl.out]
      have Hslx := Lib.hid hslx
      have Hcx := Lib.hid hcx
      clear hB hown ht hslx hlx hcx
      go_wp2_with fail
      go_loopw [8, 11] (fun v i wr => ∃ q : Nat, q ≤ n' ∧ i = .int .i64 (q : Int) ∧ wr.ownsRow w0.heap.size 3 1 v ((IL (mask 8 l')).take q).length (VI ((IL (mask 8 l')).take q)) ∧ Below w0.heap.size w0 wr) (fun _ i _ => n' - (intOf i).toNat)
      case atStart => exact ⟨0, Nat.zero_le _, rfl, World.ownsRow_nil _ _ _ _, Below.refl _ _⟩
      case round =>
        obtain ⟨q, hq, rfl, hown, hB⟩ := hrel
        by_cases hlt : q < n'
        · have hjl : q < l'.length := by rw [HAl'.out]; exact hlt
          obtain ⟨ad, rfl, hca⟩ := ((HAs'.out.below HB0.out).below hB).some (j := q) (by rw [VI_length]; exact hjl)
          rw [VI_get _ _ hjl] at hca
          have hbit := i64_and7 (l'.getD q 0)
          have Hsucc := Lib.hid (mask8 l' q hjl)
          obtain ⟨A1, c1, hv, hsl1, hl1, hA1⟩ := own_sl hown
          subst hv
          have hlm : ((IL (mask 8 l')).take q).length ≤ q := List.length_take_le _ _
          generalize l'.getD q 0 = x at *
          generalize (IL (mask 8 l')).take q = xs at *
          have hbl := hB.size
          go_wp2_with (at_builtin; refine app_int rfl _ _ rfl w0.heap.size _ xs rfl (World.ownsRow.alloc hown _) (some ⟨wr.heap.size, 0, none⟩) 1 1 [x % 8] rfl (fun h => by cases h) rfl (sl_blk (heap_alloc_new wr _)) (by omega) (by simp; omega) ?_; intro v' w1 hown1 hgrow hnil)
          have hB1 : Below w0.heap.size w0 w1 := (hB.alloc hB.size _).grown hgrow (by simp; omega) (fun k hk => (World.ownsRow.lt hown k hk).1)
          refine ⟨⟨q + 1, by omega, rfl, by rw [Hsucc.out]; exact hown1, hB1⟩, ?_⟩
          show n' - ((q : Int) + 1).toNat < n' - ((q : Int)).toNat
          omega
        · obtain rfl : q = n' := by omega
          have ht : (IL (mask 8 l')).take q = IL (mask 8 l') := List.take_of_length_le (by rw [IL_length, mask_length, HAl'.out]; exact Nat.le_refl _)
          rw [ht] at hown
          obtain ⟨Ay, cy, hvy, hsly, hly, hcy⟩ := own_sl2 hown
          subst hvy
          rw [IL_length, mask_length, HAl'.out]
          have HBy := Lib.hid (below_step HB0.out hB)
          have Hslx2 := Lib.hid (Hslx.out.below hB)
          have Hsly := Lib.hid hsly
          have Hcy := Lib.hid hcy
          have Hnil := Lib.hid (World.ownsRow_nil wr wr.heap.size 3 1)
          clear hown hB ht hsly hly hcy HB0 Hown0 Hslx
          have hmx : (mask 8 l).length = j := by rw [mask_length]; exact HAl.out
          have hmy : (mask 8 l').length = q := by rw [mask_length]; exact HAl'.out
          have hltx := mask_lt 8 (by decide) l
          have hlty := mask_lt 8 (by decide) l'
          have Hmx := Lib.hid hmx
          have Hmy := Lib.hid hmy
          have Hltx := Lib.hid hltx
          have Hlty := Lib.hid hlty
          clear hmx hmy hltx hlty HAs HAs' HAl HAl'
          generalize mask 8 l = mx at *
          generalize mask 8 l' = my at *
          obtain ⟨w1, rfl⟩ : ∃ w1 : World, w1 = wr := ⟨_, rfl⟩
          go_upto_region 13 with (first
            | (at_builtin; refine app_int rfl _ _ rfl w1.heap.size (.slice none 0 0) [] rfl Hnil.out Ax j cx (IL mx) rfl Hcx.out (by rw [IL_length]; exact Hmx.out) Hslx2.out (by simp; omega) (Nat.le_refl _) ?_; intro v2 w2 hown2 hg2 hn2; have hb2 : Below w1.heap.size w1 w2 := (Below.refl _ w1).grown hg2 (Nat.le_refl _) (fun k hk => by cases hk); have Hown2 := Lib.hid hown2; have Hb2 := Lib.hid hb2; clear hown2 hg2 hn2 hb2)
            | (at_builtin; refine app_int rfl _ _ rfl w1.heap.size v2 ([] ++ IL mx) rfl Hown2.out Ay q cy (IL my) rfl Hcy.out (by rw [IL_length]; exact Hmy.out) (Hsly.out.below Hb2.out) (by rw [List.nil_append, IL_length, Hmx.out]; omega) Hb2.out.size ?_; intro v3 w3 hown3 hg3 hn3))
          have hb3 : Below w1.heap.size w1 w3 := Hb2.out.grown hg3 Hb2.out.size (fun k hk => (World.ownsRow.lt Hown2.out k hk).1)
          obtain ⟨Az, cz, hvz, hslz, hlz, hcz⟩ := own_sl2 hown3
          subst hvz
          rw [List.nil_append, ← IL_append] at hslz ⊢
          rw [IL_length, List.length_append, Hmx.out, Hmy.out]
          have HBz := Lib.hid (below_step HBy.out hb3)
          have hTx := build_any w3 Ax j cx 3 mx (by decide) (by decide) Hmx.out (by omega) Hcx.out (Hslx2.out.below hb3) Hltx.out
          have HTx := Lib.hid hTx
          have HTy := Lib.hid (fun (W' : World) (h : Below w3.heap.size w3 W') => build_any W' Ay q cy 3 my (by decide) (by decide) Hmy.out (by omega) Hcy.out ((Hsly.out.below hb3).below h) Hlty.out)
          have HTz := Lib.hid (fun (W' : World) (h : Below w3.heap.size w3 W') => build_any W' Az (j + q) cz 3 (mx ++ my) (by decide) (by decide) (by rw [List.length_append, Hmx.out, Hmy.out]) (by omega) hcz (hslz.below h) (fun x hx => by rcases List.mem_append.1 hx with h | h; exact Hltx.out x h; exact Hlty.out x h))
          clear hTx hslz hlz hcz hown3 hg3 hn3 hb3 Hb2 Hown2 Hnil Hcy Hsly Hslx2 HBy Hcx
          go_wp2_with fail
          go_at_call 26
          refine HTx.out.mono ?_
          rintro e w4 ⟨bx, rfl, hTx, hB4⟩
          go_wp2_with fail
          go_at_call 26
          refine (HTy.out _ hB4).mono ?_
          rintro e w5 ⟨by', rfl, hTy, hB5⟩
          have hB45 := below_step hB4 hB5
          go_wp2_with fail
          go_at_call 26
          refine (HTz.out _ hB45).mono ?_
          rintro e w6 ⟨bz, rfl, hTz, hB6⟩
          have hTx6 := (hTx.below hB5).below hB6
          have hTy6 := hTy.below hB6
          have HB6 := Lib.hid (below_step HBz.out (below_step hB45 hB6))
          clear hTx hTy hB4 hB5 hB6 hB45 HBz HTx HTy HTz
          have hxl : (IL mx).length = j := by rw [IL_length, Hmx.out]
          have hyl : (IL my).length = q := by rw [IL_length, Hmy.out]
          have hrj := rk_join (IL mx) (IL my) (d : Int) (j + q) (by omega)
          have hcj := cntZ_join (IL mx) (IL my) (d : Int) (j + q) (by omega)
          have hcf := cntZ_first (IL mx) (IL my) (d : Int) (j + q) (by omega)
          rw [← IL_append] at hrj hcj hcf
          rw [hxl] at hcf
          have HRz := Lib.hid (fun (W' : World) (h : Below w6.heap.size w6 W') => trankZ (hTz.below h) (d : Int) ((j : Int) + (q : Int)))
          have HRx := Lib.hid (fun (W' : World) (h : Below w6.heap.size w6 W') => trankZ (hTx6.below h) (d : Int) ((j : Int) + (q : Int)))
          have HRy := Lib.hid (fun (W' : World) (h : Below w6.heap.size w6 W') => trankZ (hTy6.below h) (d : Int) ((j : Int) + (q : Int)))
          have HCz := Lib.hid (fun (W' : World) (h : Below w6.heap.size w6 W') => tbelowZ (hTz.below h) (d : Int) 0 ((j : Int) + (q : Int)))
          have HCx := Lib.hid (fun (W' : World) (h : Below w6.heap.size w6 W') => tbelowZ (hTx6.below h) (d : Int) 0 ((j : Int) + (q : Int)))
          have HCy := Lib.hid (fun (W' : World) (h : Below w6.heap.size w6 W') => tbelowZ (hTy6.below h) (d : Int) 0 ((j : Int) + (q : Int)))
          have HCf := Lib.hid (fun (W' : World) (h : Below w6.heap.size w6 W') => tbelowZ (hTz.below h) (d : Int) 0 (j : Int))
          have HSy := Lib.hid (fun (W' : World) (h : Below w6.heap.size w6 W') => tselZ (hTy6.below h) (d : Int) 0)
          have HSz := Lib.hid (fun (W' : World) (h : Below w6.heap.size w6 W') (k : Int) => tselZ (hTz.below h) (d : Int) k)
          have hjq : ((j : Int) + (q : Int)).toNat = j + q := by omega
          rw [hjq, hrj] at HRz
          rw [hjq] at HRx HRy
          rw [hjq, show (0 : Int).toNat = 0 from rfl, hcj] at HCz
          rw [hjq, show (0 : Int).toNat = 0 from rfl] at HCx HCy
          rw [Int.toNat_natCast, show (0 : Int).toNat = 0 from rfl, hcf] at HCf
          have hrx1 : rk (IL mx) (d : Int) (j + q) ≤ j + q := rk_le _ _ _
          have hry1 : rk (IL my) (d : Int) (j + q) ≤ j + q := rk_le _ _ _
          have hcx1 := cntZ_le (IL mx) (d : Int) 0 (j + q)
          have hcy1 := cntZ_le (IL my) (d : Int) 0 (j + q)
          rw [hxl] at hcx1
          rw [hyl] at hcy1
          clear hjq hrj hcj hcf hTz hTx6 hTy6
          rw [Int.natCast_add] at HRz HCz
          have hSj := sl_join (IL mx) (IL my) (d : Int) (j + q)
          have HSj := Lib.hid hSj
          clear hSj
          have Hrx := Lib.hid (rfl : rk (IL mx) (d : Int) (j + q) = rk (IL mx) (d : Int) (j + q))
          obtain ⟨rx, hrx⟩ : ∃ rx, rk (IL mx) (d : Int) (j + q) = rx := ⟨_, rfl⟩
          obtain ⟨ry, hry⟩ : ∃ ry, rk (IL my) (d : Int) (j + q) = ry := ⟨_, rfl⟩
          obtain ⟨cx', hcx'⟩ : ∃ x, cntZ (IL mx) (d : Int) 0 (j + q) = x := ⟨_, rfl⟩
          obtain ⟨cy', hcy'⟩ : ∃ x, cntZ (IL my) (d : Int) 0 (j + q) = x := ⟨_, rfl⟩
          rw [hrx] at hrx1 HRz HRx HSj
          rw [hry] at hry1 HRz HRy
          rw [hcx'] at hcx1 HCz HCx HCf
          rw [hcy'] at hcy1 HCz HCy
          have Hxl := Lib.hid hxl
          have Hyl := Lib.hid hyl
          clear hrx hry hcx' hcy' hxl hyl Hrx
          have hb0 : Below w6.heap.size w6 w6 := Below.refl _ _
          go_wp2_with fail
          go_at_call 27
          refine (HRz.out _ hb0).mono ?_
          rintro e w' ⟨rfl, hBn⟩
          have hb1 := below_step hb0 hBn
          clear hBn
          go_wp2_with fail
          go_at_call 27
          refine (HRx.out _ hb1).mono ?_
          rintro e w' ⟨rfl, hBn⟩
          have hb2 := below_step hb1 hBn
          clear hBn
          go_wp2_with fail
          go_at_call 27
          refine (HRy.out _ hb2).mono ?_
          rintro e w' ⟨rfl, hBn⟩
          have hb3 := below_step hb2 hBn
          clear hBn
          go_wp2_with fail
          go_at_call 28
          refine (HCz.out _ hb3).mono ?_
          rintro e w' ⟨rfl, hBn⟩
          have hb4 := below_step hb3 hBn
          clear hBn
          go_wp2_with fail
          go_at_call 28
          refine (HCx.out _ hb4).mono ?_
          rintro e w' ⟨rfl, hBn⟩
          have hb5 := below_step hb4 hBn
          clear hBn
          go_wp2_with fail
          go_at_call 28
          refine (HCy.out _ hb5).mono ?_
          rintro e w' ⟨rfl, hBn⟩
          have hb6 := below_step hb5 hBn
          clear hBn
          go_wp2_with fail
          go_at_call 28
          refine (HCf.out _ hb6).mono ?_
          rintro e w' ⟨rfl, hBn⟩
          have hb7 := below_step hb6 hBn
          clear hBn
          go_wp2_with fail
          go_at_call 28
          refine (HCx.out _ hb7).mono ?_
          rintro e w' ⟨rfl, hBn⟩
          have hb8 := below_step hb7 hBn
          clear hBn
          cases hsy : sl (IL my) (d : Int) 0 with
          | none =>
            rw [show slZ (IL my) (d : Int) 0 = -1 from slZ_none (k := 0) (sl_none.1 hsy)] at HSy
            clear hsy
            go_wp2_with fail
            go_at_call 29
            refine (HSy.out _ hb8).mono ?_
            rintro e w' ⟨rfl, hBn⟩
            have hb9 := below_step hb8 hBn
            clear hBn
            go_wp2_with fail
            go_at_call 30
            refine (known4_any _).mono ?_
            rintro e w' ⟨rfl, hBn⟩
            go_wp2_with fail
            go_ret
            exact ⟨rfl, below_step HB6.out (below_step hb9 hBn)⟩
          | some p =>
            rw [show slZ (IL my) (d : Int) 0 = (p : Int) from slZ_some (k := 0) hsy] at HSy
            have hsz := HSj.out p (by rw [Hxl.out]; omega) hsy
            rw [← IL_append, Hxl.out] at hsz
            have hp : p < q := by have h := (sl_some.1 hsy).1; rw [Hyl.out] at h; exact h
            have HSz2 := Lib.hid (fun (W' : World) (h : Below w6.heap.size w6 W') => HSz.out W' h (rx : Int))
            rw [show slZ (IL (mx ++ my)) (d : Int) (rx : Int) = ((j + p : Nat) : Int) from slZ_some hsz, Int.natCast_add] at HSz2
            clear hsy hsz HSz
            go_wp2_with fail
            go_at_call 29
            refine (HSy.out _ hb8).mono ?_
            rintro e w' ⟨rfl, hBn⟩
            have hb9 := below_step hb8 hBn
            clear hBn
            go_wp2_with fail
            go_at_call 27
            refine (HRx.out _ hb9).mono ?_
            rintro e w' ⟨rfl, hBn⟩
            have hb10 := below_step hb9 hBn
            clear hBn
            go_wp2_with fail
            go_at_call 29
            refine (HSz2.out _ hb10).mono ?_
            rintro e w' ⟨rfl, hBn⟩
            have hb11 := below_step hb10 hBn
            clear hBn
            have hjp : (j : Int) + (p : Int) = (p : Int) + (j : Int) := by omega
            rw [hjp]
            clear hjp
            go_wp2_with fail
            go_at_call 30
            refine (known4_any _).mono ?_
            rintro e w' ⟨rfl, hBn⟩
            go_wp2_with fail
            go_ret
            exact ⟨rfl, below_step HB6.out (below_step hb11 hBn)⟩
end Go.Proofs.Ytfgkkffgcgjhfaa
