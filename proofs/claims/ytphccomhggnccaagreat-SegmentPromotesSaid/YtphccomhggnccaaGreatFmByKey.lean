/- suffix: byKey. -/
import Derived.Test.YtphccomhggnccaaGreatGen
import Derived.Test.YtphccomhggnccaaGreatPl
import Derived.Test.YtphccomhggnccaaGreatMakeB
namespace Go.Proofs.YtphccomhggnccaaGreat
set_option linter.unusedVariables false
set_option linter.unusedSimpArgs false
open Go.RowKit Fm

/-- a row of numbers as ints -/
def NI (l : List Nat) : List Int := l.map fun x : Nat => (x : Int)
theorem NI_length (l : List Nat) : (NI l).length = l.length := by simp [NI]
theorem NI_getD (l : List Nat) (i : Nat) (h : i < l.length) : (NI l).getD i 0 = ((l.getD i 0 : Nat) : Int) := by
  simp [NI, List.getD, List.getElem?_eq_getElem h]
/-- a block that is a row of ints, whole -/
def IB (w : World) (g : Nat) (l : List Int) : Prop := w.heap[g]? = some (.cells (I l) 3 (0, 0))
theorem IB.cell {w : World} {g : Nat} {l : List Int} (h : IB w g l) {i : Nat} (hi : i < l.length) : w.cell? ⟨g, i, none⟩ = some (.int .i64 (l.getD i 0)) := by
  rw [cell_blk h, I_get _ _ hi]
theorem IB.free {w : World} {g : Nat} {l : List Int} (h : IB w g l) (i : Nat) : w.frozen? ⟨g, i, none⟩ = false := frozen_blk h i
theorem IB.lt {w : World} {g : Nat} {l : List Int} (h : IB w g l) : g < w.heap.size := blk_lt h
theorem IB.set {w : World} {g : Nat} {l : List Int} (h : IB w g l) (i : Nat) (v : Int) : IB (w.setCell ⟨g, i, none⟩ (.int .i64 v)) g (l.set i v) := by
  unfold IB
  rw [← I_set]
  exact blk_set h i _
theorem IB.other {w : World} {g c : Nat} {l : List Int} (h : IB w g l) (hne : g ≠ c) (i : Nat) (v : Value) : IB (w.setCell ⟨c, i, none⟩ v) g l := blk_other h hne i v
theorem IB.below {w w' : World} {g : Nat} {l : List Int} (h : IB w g l) (hb : Below w.heap.size w w') : IB w' g l := (hb.block _ h.lt).trans h
theorem IB.grown {w w' : World} {g : Nat} {l : List Int} (h : IB w g l) {r : Option Nat} (hb : w.grownBy w' r) (hne : some g ≠ r) : IB w' g l := grown_blk hb h hne

theorem grown_new {w w' : World} {r : Option Nat} (h : w.grownBy w' r) {c : Nat} (hc : w.heap.size ≤ c) (j : Nat) (v : Value) : w.grownBy (w'.setCell ⟨c, j, none⟩ v) r :=
  ⟨h.os, h.tape, h.output, by have := h.size; simp [World.setCell]; omega, fun k hk hne => (Below.heap_setCell w' ⟨c, j, none⟩ v k (by show k ≠ c; omega)).trans (h.block k hk hne)⟩

set_option maxRecDepth 100000 in
set_option maxHeartbeats 4000000 in
/-- places, by their keys, into a row of their own -/
theorem bykey_any {w : World} {pb kb ob n many c1' c2' c3' : Nat} {places keys : List Nat} {o : List Int} (hP : IB w pb (NI places)) (hK : IB w kb (NI keys)) (hO : IB w ob o)
    (hpo : pb ≠ ob) (hko : kb ≠ ob) (hpl : places.length = n) (hkl : keys.length = n) (hol : o.length = n) (hn : n ≤ 1048576) (hm : many ≤ n)
    (hpp : places.Perm (List.range n)) (hlt : ∀ p, p < n → keys.getD p 0 < many) :
    Calls Tryz.prog 189 #[.slice (some ⟨pb, 0, none⟩) n c1', .slice (some ⟨kb, 0, none⟩) n c2', .int .i64 (many : Int), .slice (some ⟨ob, 0, none⟩) n c3'] w
      fun e w' => e = .returned (.tuple #[]) ∧ IB w' ob (NI (bucket places (fun p => keys.getD p 0) many)) ∧ w.grownBy w' (some ob) := by
  have hmk := make_int (many + 1) (by omega)
  have hc1 : ((many + 1 : Nat) : Int) = (many : Int) + 1 := by omega
  rw [hc1] at hmk
  have hlo := hO.lt
  have hlp := hP.lt
  have hlk := hK.lt
  have HP := Lib.hid hP
  have HK := Lib.hid hK
  have HO := Lib.hid hO
  have Hpl := Lib.hid hpl
  have Hkl := Lib.hid hkl
  have Hol := Lib.hid hol
  have Hpp := Lib.hid hpp
  have Hlt := Lib.hid hlt
  have hnp : ¬ w.heap.size = pb := by omega
  have hnk : ¬ w.heap.size = kb := by omega
  have hno : ¬ w.heap.size = ob := by omega
  clear hP hK hO hpl hkl hol hpp hlt hc1
  go_enter Tryz.func189, Tryz.ntmps189
  go_wp2_with fail
  clear hmk
  have hA : IB (w.alloc (.cells (I (List.replicate (many + 1) 0)) 3)) w.heap.size (FA (many + 1) (c1 keys 0)) := by
    rw [c1_zero]; exact heap_alloc_new w _
  have hB0 : Below w.heap.size w (w.alloc (.cells (I (List.replicate (many + 1) 0)) 3)) := (Below.refl _ w).alloc (Nat.le_refl _) _
  go_loopw [10, 19] (fun k q wr => ∃ j : Nat, j ≤ n ∧ q = .int .i64 (j : Int) ∧ IB wr w.heap.size (FA (many + 1) (c1 keys j)) ∧ Below w.heap.size w wr) (fun _ q _ => n - (intOf q).toNat)
  case atStart => exact ⟨0, Nat.zero_le _, rfl, hA, hB0⟩
  case round =>
    clear hA hB0
    obtain ⟨j, hj, rfl, hC, hB⟩ := hrel
    by_cases hjn : j < n
    · have hck := (HK.out.below hB).cell (i := j) (by rw [NI_length, Hkl.out]; exact hjn)
      rw [NI_getD _ _ (by rw [Hkl.out]; exact hjn)] at hck
      have hxm := Hlt.out j hjn
      have hcc := hC.cell (i := keys.getD j 0 + 1) (by rw [FA_length]; omega)
      have hfr := hC.free (keys.getD j 0 + 1)
      rw [FA_getD _ _ _ (by omega)] at hcc
      have hce : c1 keys j (keys.getD j 0 + 1) = ((kc keys (keys.getD j 0) j : Nat) : Int) := by unfold c1; rw [if_neg (by omega), Nat.add_sub_cancel]
      have hst := c1_step keys many j (by rw [Hkl.out]; exact hjn)
      rw [hce] at hcc hst
      have hkl2 := kc_le keys (keys.getD j 0) j
      rw [Hkl.out] at hkl2
      have Hst := Lib.hid hst
      have HC := Lib.hid hC
      clear hce hst hC
      generalize keys.getD j 0 = x at *
      generalize kc keys x j = z at *
      go_wp2_with fail
      refine ⟨⟨j + 1, by omega, rfl, ?_, below_cell hB (Nat.le_refl _) _ _ rfl⟩, ?_⟩
      · rw [← Hst.out]; exact HC.out.set _ _
      · show n - ((j : Int) + 1).toNat < n - ((j : Int)).toNat
        omega
    · obtain rfl : j = n := by omega
      have hC1 : IB wr w.heap.size (FA (many + 1) (c2 places keys 1)) := by
        have e := c2_start places keys many
        rw [Hkl.out] at e
        rw [← e]; exact hC
      clear hC
      obtain ⟨w1, rfl⟩ : ∃ w1 : World, w1 = wr := ⟨_, rfl⟩
      go_wp2_with fail
      go_loopw [11] (fun q wr => ∃ i : Nat, i ≤ many ∧ q = .int .i64 ((i : Int) + 1) ∧ IB wr w.heap.size (FA (many + 1) (c2 places keys (i + 1))) ∧ Below w.heap.size w wr) (fun q _ => many + 2 - (intOf q).toNat)
      case atStart => exact ⟨0, Nat.zero_le _, rfl, hC1, hB⟩
      case round =>
        clear hC1 hB
        obtain ⟨i, hi, rfl, hC, hB⟩ := hrel
        by_cases him : i < many
        · have hca := hC.cell (i := i + 1) (by rw [FA_length]; omega)
          have hcb := hC.cell (i := i) (by rw [FA_length]; omega)
          have hfr := hC.free (i + 1)
          rw [FA_getD _ _ _ (by omega)] at hca hcb
          have hst := c2_step (places := places) (keys := keys) (by rw [Hkl.out]; exact Hpp.out) many (i + 1) (by omega)
          rw [Nat.add_sub_cancel] at hst
          have e1 : c2 places keys (i + 1) (i + 1) = ((kc keys i j : Nat) : Int) := by
            unfold c2 c1; rw [if_neg (by omega), if_neg (by omega), Nat.add_sub_cancel, Hkl.out]
          have e2 : c2 places keys (i + 1) i = ((st places (fun p => keys.getD p 0) i : Nat) : Int) := by
            unfold c2; rw [if_pos (by omega)]
          have b1 := kc_le keys i j
          rw [Hkl.out] at b1
          have b2 := st_mono places (fun p => keys.getD p 0) (show i ≤ many by omega)
          rw [st_all _ _ _ (fun p hp => Hlt.out p (List.mem_range.1 (Hpp.out.mem_iff.1 hp))), Hpl.out] at b2
          rw [e1, e2] at hst
          rw [e1] at hca
          rw [e2] at hcb
          have Hst := Lib.hid hst
          have HC := Lib.hid hC
          clear e1 e2 hst hC
          generalize kc keys i j = a at *
          generalize st places (fun p => keys.getD p 0) i = b at *
          have hw : IntKind.i64.wrap ((a : Int) + (b : Int)) = (a : Int) + (b : Int) := IntWalk.i64_in _ (by omega)
          have hi1 : (0 : Int) ≤ (i : Int) + 1 := by omega
          have hi2 : (i : Int) + 1 < (many : Int) + 1 := by omega
          go_upto_region 9 with fail
          go_region
          all_goals go_wp2_with fail
          all_goals refine ⟨⟨i + 1, by omega, rfl, by rw [← Hst.out]; exact HC.out.set (i + 1) _, (below_cell hB (Nat.le_refl _) _ _ rfl).drew⟩, ?_⟩
          all_goals show many + 2 - ((i : Int) + 1 + 1).toNat < many + 2 - ((i : Int) + 1).toNat
          all_goals omega
        · obtain rfl : i = many := by omega
          have hC3 : IB wr w.heap.size (FA (i + 1) (c3 places keys 0)) := by
            rw [← c3_start]; exact hC
          clear hC
          obtain ⟨w2, rfl⟩ : ∃ w2 : World, w2 = wr := ⟨_, rfl⟩
          have hO2 := HO.out.below hB
          go_wp2_with fail
          go_loopw [13, 49] (fun p q wr => ∃ (t : Nat) (o' : List Int), t ≤ j ∧ q = .int .i64 (t : Int) ∧ IB wr w.heap.size (FA (i + 1) (c3 places keys t)) ∧ IB wr ob o' ∧ Laid3 places keys i t o' ∧ w.grownBy wr (some ob)) (fun _ q _ => j - (intOf q).toNat)
          case atStart => exact ⟨0, o, Nat.zero_le _, rfl, hC3, hO2, laid3_zero _ _ _ _ (by rw [Hol.out, Hpl.out]), below_grown hB (Nat.le_refl _) _⟩
          case round =>
            clear hC3 hB hO2
            obtain ⟨t, o', ht, rfl, hC, hO, hL, hg⟩ := hrel
            by_cases htj : t < j
            · have htp : t < places.length := by rw [Hpl.out]; exact htj
              have hcp := (HP.out.grown hg (by intro e; injection e with e; exact hpo e)).cell (i := t) (by rw [NI_length]; exact htp)
              rw [NI_getD _ _ htp] at hcp
              have hpn : places.getD t 0 < j := by
                rw [getD_at htp]; exact List.mem_range.1 (Hpp.out.mem_iff.1 (List.getElem_mem htp))
              have hck := (HK.out.grown hg (by intro e; injection e with e; exact hko e)).cell (i := places.getD t 0) (by rw [NI_length, Hkl.out]; exact hpn)
              rw [NI_getD _ _ (by rw [Hkl.out]; exact hpn)] at hck
              have hxm := Hlt.out _ hpn
              have hcc := hC.cell (i := keys.getD (places.getD t 0) 0) (by rw [FA_length]; omega)
              rw [FA_getD _ _ _ (by omega)] at hcc
              have hf1 := hC.free (keys.getD (places.getD t 0) 0)
              have hce : c3 places keys t (keys.getD (places.getD t 0) 0) = ((st places (fun p => keys.getD p 0) (keys.getD (places.getD t 0) 0) + (pk places keys (keys.getD (places.getD t 0) 0) t).length : Nat) : Int) := rfl
              have hall : ∀ p ∈ places, keys.getD p 0 < i := fun p hp => Hlt.out p (List.mem_range.1 (Hpp.out.mem_iff.1 hp))
              obtain ⟨n1, n2⟩ := next_lt places keys (many := i) _ t hxm htp rfl hall
              have hyn : st places (fun p => keys.getD p 0) (keys.getD (places.getD t 0) 0) + (pk places keys (keys.getD (places.getD t 0) 0) t).length < j := by rw [Hpl.out] at n2; omega
              have hst := c3_step places keys i t htp
              have hls := laid3_step hL htp hall
              rw [hce] at hcc hst
              have hol2 := hL.1
              rw [Hpl.out] at hol2
              have hco := hO.cell (i := st places (fun p => keys.getD p 0) (keys.getD (places.getD t 0) 0) + (pk places keys (keys.getD (places.getD t 0) 0) t).length) (by omega)
              have hf2 := hO.free (st places (fun p => keys.getD p 0) (keys.getD (places.getD t 0) 0) + (pk places keys (keys.getD (places.getD t 0) 0) t).length)
              have Hst := Lib.hid hst
              have Hls := Lib.hid hls
              have HC := Lib.hid hC
              have HO2 := Lib.hid hO
              have Hg := Lib.hid hg
              clear hce hst hls hC hO hg hL n1 n2 hall
              generalize st places (fun p => keys.getD p 0) (keys.getD (places.getD t 0) 0) + (pk places keys (keys.getD (places.getD t 0) 0) t).length = y at *
              generalize keys.getD (places.getD t 0) 0 = x at *
              generalize places.getD t 0 = p at *
              go_wp2_with fail
              refine ⟨⟨t + 1, o'.set y (p : Int), by omega, rfl, ?_, (HO2.out.set y _).other (fun e => hno e.symm) x _, Hls.out, grown_new (grown_trans Hg.out (grown_set wr ob y _)) (Nat.le_refl _) x _⟩, ?_⟩
              · rw [← Hst.out]; exact (HC.out.other hno y _).set x _
              · show j - ((t : Int) + 1).toNat < j - ((t : Int)).toNat
                omega
            · obtain rfl : t = j := by omega
              have hall : ∀ p ∈ places, keys.getD p 0 < i := fun p hp => Hlt.out p (List.mem_range.1 (Hpp.out.mem_iff.1 hp))
              have he := laid3_all (by rw [Hpl.out]; exact hL) hall
              subst he
              have HO2 := Lib.hid hO
              have Hg := Lib.hid hg
              clear hC hO hL hg hall
              go_wp2_with fail
              go_end0
              exact ⟨rfl, HO2.out, Hg.out⟩
end Go.Proofs.YtphccomhggnccaaGreat
