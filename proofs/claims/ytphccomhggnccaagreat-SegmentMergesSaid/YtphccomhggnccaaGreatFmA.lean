/- suffix: byKey. -/
import Derived.Test.YtphccomhggnccaaGreatGen
import Derived.Test.YtphccomhggnccaaGreatPl
import Derived.Test.YtphccomhggnccaaGreatMakeB
import Derived.Test.YtphccomhggnccaaGreatShelf
import Derived.RangeFuncBox
import Derived.RangeFuncLeaves
import Derived.Shelf.Abstract
import Derived.OwnWalkIn
import Derived.TacticsInMore
import Derived.LoopNIn
import Derived.LoopIn
import Derived.Maps.AppendAt
import Derived.Test.YtphccomhggnccaaGreatWv
namespace Go.Proofs.YtphccomhggnccaaGreat
set_option maxRecDepth 100000
set_option linter.unusedVariables false
set_option linter.unusedSimpArgs false
open Go.RowKit Fm
def NI (l : List Nat) : List Int := l.map fun x : Nat => (x : Int)
theorem NI_length (l : List Nat) : (NI l).length = l.length := by simp [NI]
theorem NI_getD (l : List Nat) (i : Nat) (h : i < l.length) : (NI l).getD i 0 = ((l.getD i 0 : Nat) : Int) := by
  simp [NI, List.getD, List.getElem?_eq_getElem h]
def IB (w : World) (g : Nat) (l : List Int) : Prop := w.heap[g]? = some (.cells (I l) 3 (0, 0))
theorem IB.cell {w : World} {g : Nat} {l : List Int} (h : IB w g l) {i : Nat} (hi : i < l.length) : w.cell? ⟨g, i, none⟩ = some (.int .i64 (l.getD i 0)) := by
  rw [cell_blk h, I_get _ _ hi]
theorem IB.free {w : World} {g : Nat} {l : List Int} (h : IB w g l) (i : Nat) : w.frozen? ⟨g, i, none⟩ = false := frozen_blk h i
theorem IB.lt {w : World} {g : Nat} {l : List Int} (h : IB w g l) : g < w.heap.size := blk_lt h
theorem IB.set {w : World} {g : Nat} {l : List Int} (h : IB w g l) (i : Nat) (v : Int) : IB (w.setCell ⟨g, i, none⟩ (.int .i64 v)) g (l.set i v) := by
  unfold IB
  rw [← I_set]
  exact blk_set h i _
theorem IB.other {w : World} {g c : Nat} {l : List Int} (h : IB w g l) (hne : g ≠ c) (i : Nat) (v : Value) : IB (w.setCell ⟨c, i, none⟩ v) g l := blk_other h hne i v
theorem IB.below {w w' : World} {g : Nat} {l : List Int} (h : IB w g l) (hb : Below w.heap.size w w') : IB w' g l := (hb.block _ h.lt).trans h
theorem IB.grown {w w' : World} {g : Nat} {l : List Int} (h : IB w g l) {r : Option Nat} (hb : w.grownBy w' r) (hne : some g ≠ r) : IB w' g l := grown_blk hb h hne

theorem grown_new {w w' : World} {r : Option Nat} (h : w.grownBy w' r) {c : Nat} (hc : w.heap.size ≤ c) (j : Nat) (v : Value) : w.grownBy (w'.setCell ⟨c, j, none⟩ v) r :=
  ⟨h.os, h.tape, h.output, by have := h.size; simp [World.setCell]; omega, fun k hk hne => (Below.heap_setCell w' ⟨c, j, none⟩ v k (by show k ≠ c; omega)).trans (h.block k hk hne)⟩

set_option maxRecDepth 100000 in
set_option maxHeartbeats 4000000 in
theorem bykey_any {w : World} {pb kb ob n many c1' c2' c3' : Nat} {places keys : List Nat} {o : List Int} (hP : IB w pb (NI places)) (hK : IB w kb (NI keys)) (hO : IB w ob o)
    (hpo : pb ≠ ob) (hko : kb ≠ ob) (hpl : places.length = n) (hkl : keys.length = n) (hol : o.length = n) (hn : n ≤ 1048576) (hm : many ≤ n)
    (hpp : places.Perm (List.range n)) (hlt : ∀ p, p < n → keys.getD p 0 < many) :
    Calls Tryz.prog 189 #[.slice (some ⟨pb, 0, none⟩) n c1', .slice (some ⟨kb, 0, none⟩) n c2', .int .i64 (many : Int), .slice (some ⟨ob, 0, none⟩) n c3'] w
      fun e w' => e = .returned (.tuple #[]) ∧ IB w' ob (NI (bucket places (fun p => keys.getD p 0) many)) ∧ w.grownBy w' (some ob) := by
  have hmk := make_int (many + 1) (by omega)
  have hc1 : ((many + 1 : Nat) : Int) = (many : Int) + 1 := by omega
  rw [hc1] at hmk
  have hlo := hO.lt
  have hlp := hP.lt
  have hlk := hK.lt
  have HP := Lib.hid hP
  have HK := Lib.hid hK
  have HO := Lib.hid hO
  have Hpl := Lib.hid hpl
  have Hkl := Lib.hid hkl
  have Hol := Lib.hid hol
  have Hpp := Lib.hid hpp
  have Hlt := Lib.hid hlt
  have hnp : ¬ w.heap.size = pb := by omega
  have hnk : ¬ w.heap.size = kb := by omega
  have hno : ¬ w.heap.size = ob := by omega
  clear hP hK hO hpl hkl hol hpp hlt hc1
  go_enter Tryz.func189, Tryz.ntmps189
  go_wp2_with fail
  clear hmk
  have hA : IB (w.alloc (.cells (I (List.replicate (many + 1) 0)) 3)) w.heap.size (FA (many + 1) (c1 keys 0)) := by
    rw [c1_zero]; exact heap_alloc_new w _
  have hB0 : Below w.heap.size w (w.alloc (.cells (I (List.replicate (many + 1) 0)) 3)) := (Below.refl _ w).alloc (Nat.le_refl _) _
  go_loopw [10, 19] (fun k q wr => ∃ j : Nat, j ≤ n ∧ q = .int .i64 (j : Int) ∧ IB wr w.heap.size (FA (many + 1) (c1 keys j)) ∧ Below w.heap.size w wr) (fun _ q _ => n - (intOf q).toNat)
  case atStart => exact ⟨0, Nat.zero_le _, rfl, hA, hB0⟩
  case round =>
    clear hA hB0
    obtain ⟨j, hj, rfl, hC, hB⟩ := hrel
    by_cases hjn : j < n
    · have hck := (HK.out.below hB).cell (i := j) (by rw [NI_length, Hkl.out]; exact hjn)
      rw [NI_getD _ _ (by rw [Hkl.out]; exact hjn)] at hck
      have hxm := Hlt.out j hjn
      have hcc := hC.cell (i := keys.getD j 0 + 1) (by rw [FA_length]; omega)
      have hfr := hC.free (keys.getD j 0 + 1)
      rw [FA_getD _ _ _ (by omega)] at hcc
      have hce : c1 keys j (keys.getD j 0 + 1) = ((kc keys (keys.getD j 0) j : Nat) : Int) := by unfold c1; rw [if_neg (by omega), Nat.add_sub_cancel]
      have hst := c1_step keys many j (by rw [Hkl.out]; exact hjn)
      rw [hce] at hcc hst
      have hkl2 := kc_le keys (keys.getD j 0) j
      rw [Hkl.out] at hkl2
      have Hst := Lib.hid hst
      have HC := Lib.hid hC
      clear hce hst hC
      generalize keys.getD j 0 = x at *
      generalize kc keys x j = z at *
      go_wp2_with fail
      refine ⟨⟨j + 1, by omega, rfl, ?_, below_cell hB (Nat.le_refl _) _ _ rfl⟩, ?_⟩
      · rw [← Hst.out]; exact HC.out.set _ _
      · show n - ((j : Int) + 1).toNat < n - ((j : Int)).toNat
        omega
    · obtain rfl : j = n := by omega
      have hC1 : IB wr w.heap.size (FA (many + 1) (c2 places keys 1)) := by
        have e := c2_start places keys many
        rw [Hkl.out] at e
        rw [← e]; exact hC
      clear hC
      obtain ⟨w1, rfl⟩ : ∃ w1 : World, w1 = wr := ⟨_, rfl⟩
      go_wp2_with fail
      go_loopw [11] (fun q wr => ∃ i : Nat, i ≤ many ∧ q = .int .i64 ((i : Int) + 1) ∧ IB wr w.heap.size (FA (many + 1) (c2 places keys (i + 1))) ∧ Below w.heap.size w wr) (fun q _ => many + 2 - (intOf q).toNat)
      case atStart => exact ⟨0, Nat.zero_le _, rfl, hC1, hB⟩
      case round =>
        clear hC1 hB
        obtain ⟨i, hi, rfl, hC, hB⟩ := hrel
        by_cases him : i < many
        · have hca := hC.cell (i := i + 1) (by rw [FA_length]; omega)
          have hcb := hC.cell (i := i) (by rw [FA_length]; omega)
          have hfr := hC.free (i + 1)
          rw [FA_getD _ _ _ (by omega)] at hca hcb
          have hst := c2_step (places := places) (keys := keys) (by rw [Hkl.out]; exact Hpp.out) many (i + 1) (by omega)
          rw [Nat.add_sub_cancel] at hst
          have e1 : c2 places keys (i + 1) (i + 1) = ((kc keys i j : Nat) : Int) := by
            unfold c2 c1; rw [if_neg (by omega), if_neg (by omega), Nat.add_sub_cancel, Hkl.out]
          have e2 : c2 places keys (i + 1) i = ((st places (fun p => keys.getD p 0) i : Nat) : Int) := by
            unfold c2; rw [if_pos (by omega)]
          have b1 := kc_le keys i j
          rw [Hkl.out] at b1
          have b2 := st_mono places (fun p => keys.getD p 0) (show i ≤ many by omega)
          rw [st_all _ _ _ (fun p hp => Hlt.out p (List.mem_range.1 (Hpp.out.mem_iff.1 hp))), Hpl.out] at b2
          rw [e1, e2] at hst
          rw [e1] at hca
          rw [e2] at hcb
          have Hst := Lib.hid hst
          have HC := Lib.hid hC
          clear e1 e2 hst hC
          generalize kc keys i j = a at *
          generalize st places (fun p => keys.getD p 0) i = b at *
          have hw : IntKind.i64.wrap ((a : Int) + (b : Int)) = (a : Int) + (b : Int) := IntWalk.i64_in _ (by omega)
          have hi1 : (0 : Int) ≤ (i : Int) + 1 := by omega
          have hi2 : (i : Int) + 1 < (many : Int) + 1 := by omega
          go_upto_region 9 with fail
          go_region
          all_goals go_wp2_with fail
          all_goals refine ⟨⟨i + 1, by omega, rfl, by rw [← Hst.out]; exact HC.out.set (i + 1) _, (below_cell hB (Nat.le_refl _) _ _ rfl).drew⟩, ?_⟩
          all_goals show many + 2 - ((i : Int) + 1 + 1).toNat < many + 2 - ((i : Int) + 1).toNat
          all_goals omega
        · obtain rfl : i = many := by omega
          have hC3 : IB wr w.heap.size (FA (i + 1) (c3 places keys 0)) := by
            rw [← c3_start]; exact hC
          clear hC
          obtain ⟨w2, rfl⟩ : ∃ w2 : World, w2 = wr := ⟨_, rfl⟩
          have hO2 := HO.out.below hB
          go_wp2_with fail
          go_loopw [13, 49] (fun p q wr => ∃ (t : Nat) (o' : List Int), t ≤ j ∧ q = .int .i64 (t : Int) ∧ IB wr w.heap.size (FA (i + 1) (c3 places keys t)) ∧ IB wr ob o' ∧ Laid3 places keys i t o' ∧ w.grownBy wr (some ob)) (fun _ q _ => j - (intOf q).toNat)
          case atStart => exact ⟨0, o, Nat.zero_le _, rfl, hC3, hO2, laid3_zero _ _ _ _ (by rw [Hol.out, Hpl.out]), below_grown hB (Nat.le_refl _) _⟩
          case round =>
            clear hC3 hB hO2
            obtain ⟨t, o', ht, rfl, hC, hO, hL, hg⟩ := hrel
            by_cases htj : t < j
            · have htp : t < places.length := by rw [Hpl.out]; exact htj
              have hcp := (HP.out.grown hg (by intro e; injection e with e; exact hpo e)).cell (i := t) (by rw [NI_length]; exact htp)
              rw [NI_getD _ _ htp] at hcp
              have hpn : places.getD t 0 < j := by
                rw [getD_at htp]; exact List.mem_range.1 (Hpp.out.mem_iff.1 (List.getElem_mem htp))
              have hck := (HK.out.grown hg (by intro e; injection e with e; exact hko e)).cell (i := places.getD t 0) (by rw [NI_length, Hkl.out]; exact hpn)
              rw [NI_getD _ _ (by rw [Hkl.out]; exact hpn)] at hck
              have hxm := Hlt.out _ hpn
              have hcc := hC.cell (i := keys.getD (places.getD t 0) 0) (by rw [FA_length]; omega)
              rw [FA_getD _ _ _ (by omega)] at hcc
              have hf1 := hC.free (keys.getD (places.getD t 0) 0)
              have hce : c3 places keys t (keys.getD (places.getD t 0) 0) = ((st places (fun p => keys.getD p 0) (keys.getD (places.getD t 0) 0) + (pk places keys (keys.getD (places.getD t 0) 0) t).length : Nat) : Int) := rfl
              have hall : ∀ p ∈ places, keys.getD p 0 < i := fun p hp => Hlt.out p (List.mem_range.1 (Hpp.out.mem_iff.1 hp))
              obtain ⟨n1, n2⟩ := next_lt places keys (many := i) _ t hxm htp rfl hall
              have hyn : st places (fun p => keys.getD p 0) (keys.getD (places.getD t 0) 0) + (pk places keys (keys.getD (places.getD t 0) 0) t).length < j := by rw [Hpl.out] at n2; omega
              have hst := c3_step places keys i t htp
              have hls := laid3_step hL htp hall
              rw [hce] at hcc hst
              have hol2 := hL.1
              rw [Hpl.out] at hol2
              have hco := hO.cell (i := st places (fun p => keys.getD p 0) (keys.getD (places.getD t 0) 0) + (pk places keys (keys.getD (places.getD t 0) 0) t).length) (by omega)
              have hf2 := hO.free (st places (fun p => keys.getD p 0) (keys.getD (places.getD t 0) 0) + (pk places keys (keys.getD (places.getD t 0) 0) t).length)
              have Hst := Lib.hid hst
              have Hls := Lib.hid hls
              have HC := Lib.hid hC
              have HO2 := Lib.hid hO
              have Hg := Lib.hid hg
              clear hce hst hls hC hO hg hL n1 n2 hall
              generalize st places (fun p => keys.getD p 0) (keys.getD (places.getD t 0) 0) + (pk places keys (keys.getD (places.getD t 0) 0) t).length = y at *
              generalize keys.getD (places.getD t 0) 0 = x at *
              generalize places.getD t 0 = p at *
              go_wp2_with fail
              refine ⟨⟨t + 1, o'.set y (p : Int), by omega, rfl, ?_, (HO2.out.set y _).other (fun e => hno e.symm) x _, Hls.out, grown_new (grown_trans Hg.out (grown_set wr ob y _)) (Nat.le_refl _) x _⟩, ?_⟩
              · rw [← Hst.out]; exact (HC.out.other hno y _).set x _
              · show j - ((t : Int) + 1).toNat < j - ((t : Int)).toNat
                omega
            · obtain rfl : t = j := by omega
              have hall : ∀ p ∈ places, keys.getD p 0 < i := fun p hp => Hlt.out p (List.mem_range.1 (Hpp.out.mem_iff.1 hp))
              have he := laid3_all (by rw [Hpl.out]; exact hL) hall
              subst he
              have HO2 := Lib.hid hO
              have Hg := Lib.hid hg
              clear hC hO hL hg hall
              go_wp2_with fail
              go_end0
              exact ⟨rfl, HO2.out, Hg.out⟩
end Go.Proofs.YtphccomhggnccaaGreat
namespace Go.Proofs.YtphccomhggnccaaGreat
set_option maxRecDepth 100000
set_option linter.unusedVariables false
set_option linter.unusedSimpArgs false
set_option maxRecDepth 100000
open Go.RowKit Go.Shelf Fm
attribute [local go_sem] Oper.semAt_some
def upto (f : Nat → Int) (k : Nat) : List Int := (List.range k).map f
theorem upto_succ (f : Nat → Int) (k : Nat) : upto f (k + 1) = upto f k ++ [f k] := by simp [upto, List.range_succ]
theorem upto_length (f : Nat → Int) (k : Nat) : (upto f k).length = k := by simp [upto]
theorem upto_all (zs : List Int) : upto (fun j => zs[j]?.getD 0) zs.length = zs := by
  apply List.ext_getElem
  · simp [upto]
  · intro i h1 h2
    simp [upto, h2]
theorem upto_take (zs : List Int) {k : Nat} (hk : k ≤ zs.length) : upto (fun j => zs[j]?.getD 0) k = zs.take k := by
  apply List.ext_getElem
  · simp [upto, hk]
  · intro i h1 h2
    have : i < zs.length := by simp [upto] at h1; omega
    simp [upto, this]

set_option maxHeartbeats 2000000 in
theorem values1_in (F : Fence) (n : Nat) (h7 : F.fn 214) (hro : F.round = none) (hn : 1 ≤ n) (l Bs n₀ b off len cap : Nat) (zs : List Int) (hreach : len * 8 ≤ 140737488351232) (hb : b < n₀) (J Jx : List Int → World → Prop)
    (hY : ∀ pre x W, J pre W → pre.length < len → YieldAt F (n - 1) Tryz.prog l #[.int .i64 x] W fun e W' =>
      (e = .returned (.bool true) ∧ J (pre ++ [x]) W' ∧ Below n₀ W W') ∨ (e = .returned (.bool false) ∧ Jx (pre ++ [x]) W'))
    (W : World) (hBs : W.cell? ⟨Bs, 0, none⟩ = some (.slice (some ⟨b, off, none⟩) len cap)) (hc : ∀ j, j < len → W.cell? ⟨b, off + j, none⟩ = some (.int .i64 (zs[j]?.getD 0))) (h0 : J [] W) :
    CallsIn F n Tryz.prog 214 #[.func (.yield l) #[] #[], .pointer (some ⟨Bs, 0, none⟩)] W fun e W' => (∃ v, e = .returned v) ∧
      ((∃ ys, ys = upto (fun j => zs[j]?.getD 0) len ∧ J ys W') ∨ (∃ pre, (∃ k, k ≤ len ∧ pre = upto (fun j => zs[j]?.getD 0) k) ∧ Jx pre W')) := by
  refine callsIn_of_wp Tryz.func214 rfl h7 ?_ hro
  simp only [Tryz.ntmps214, List.size_toArray, List.length_cons, List.length_nil, Nat.reduceAdd, Nat.reduceSub, Array.replicate_succ, Array.replicate_zero, List.push_toArray, List.append_toArray, List.nil_append, List.cons_append]
  gi_wp2
  gi_loopw [7] (fun i wr => ∃ k : Nat, k ≤ len ∧ i = .int .i64 k ∧ J (upto (fun j => zs[j]?.getD 0) k) wr ∧ Below n₀ W wr)
    (fun i _ => len - (intOf i).toNat)
  case atStart => exact ⟨0, Nat.zero_le _, rfl, h0, Below.refl _ _⟩
  case round =>
    obtain ⟨k, hk, rfl, hJs, hnx⟩ := hrel
    have hcx : k < len → wr.cell? ⟨b, off + k, none⟩ = some (.int .i64 (zs[k]?.getD 0)) := fun h => (hnx.cell (p := ⟨b, off + k, none⟩) hb).trans (hc k h)
    by_cases hlt : k < len
    · obtain ⟨fn, tmps, assign, body, hy, hR⟩ := hY _ (zs[k]?.getD 0) wr hJs (by rw [upto_length]; exact hlt)
      have hcx' := hcx hlt
      gi_wp2
      refine hR.mono ?_
      rintro e W3 (⟨rfl, hJ3, hk3⟩ | ⟨rfl, hJx3⟩)
      · gi_wp2
        go_roundw
        case rel => exact ⟨k + 1, by omega, by simp, by rw [upto_succ]; exact hJ3, hnx.trans hk3⟩
        case measure => simp [intOf]; omega
      · gi_wp2
        refine bodyPost_ret (results_none rfl _ _ _) rfl ?_
        exact ⟨⟨_, rfl⟩, .inr ⟨_, ⟨k + 1, by omega, (upto_succ _ _).symm⟩, hJx3⟩⟩
    · obtain rfl : k = len := by omega
      gi_wp2
      go_end0
      exact ⟨⟨_, rfl⟩, .inl ⟨_, rfl, hJs⟩⟩
set_option maxHeartbeats 2000000 in
theorem values1_nil_in (F : Fence) (n : Nat) (h7 : F.fn 214) (hro : F.round = none) (l Bs : Nat) (J : List Int → World → Prop) (W : World) (hBs : W.cell? ⟨Bs, 0, none⟩ = some (.slice none 0 0)) (h0 : J [] W) :
    CallsIn F n Tryz.prog 214 #[.func (.yield l) #[] #[], .pointer (some ⟨Bs, 0, none⟩)] W fun e W' => (∃ v, e = .returned v) ∧ J [] W' := by
  refine callsIn_of_wp Tryz.func214 rfl h7 ?_ hro
  simp only [Tryz.ntmps214, List.size_toArray, List.length_cons, List.length_nil, Nat.reduceAdd, Nat.reduceSub, Array.replicate_succ, Array.replicate_zero, List.push_toArray, List.append_toArray, List.nil_append, List.cons_append]
  gi_wp2
  gi_loopw [7] (fun i wr => i = .int .i64 0 ∧ J [] wr) (fun _ _ => 0)
  case atStart => exact ⟨rfl, h0⟩
  case round =>
    obtain ⟨rfl, hJs⟩ := hrel
    gi_wp2
    go_end0
    exact ⟨⟨_, rfl⟩, hJs⟩
def Ints (n₀ : Nat) (W : World) (sv : Value) (zs : List Int) : Prop :=
  (sv = .slice none 0 0 ∧ zs = []) ∨ ∃ b off cap, sv = .slice (some ⟨b, off, none⟩) zs.length cap ∧ b < n₀ ∧ ∀ j, j < zs.length → W.cell? ⟨b, off + j, none⟩ = some (.int .i64 (zs[j]?.getD 0))
theorem Ints.below {n₀ : Nat} {A B : World} (h : Below n₀ A B) {sv : Value} {zs : List Int} : Ints n₀ A sv zs → Ints n₀ B sv zs
  | .inl e => .inl e
  | .inr ⟨b, off, cap, e, hb, hc⟩ => .inr ⟨b, off, cap, e, hb, fun j hj => (h.cell (p := ⟨b, off + j, none⟩) hb).trans (hc j hj)⟩
theorem values_stops (F : Fence) (n : Nat) (h7 : F.fn 214) (hro : F.round = none) (hn : 1 ≤ n) (Bs n₀ : Nat) (sv : Value) (zs : List Int) (hreach : zs.length * 8 ≤ 140737488351232) (w : World) (hBs : Bs < w.heap.size) (hn₀ : n₀ ≤ w.heap.size)
    (hc : w.cell? ⟨Bs, 0, none⟩ = some sv) (hI : Ints n₀ w sv zs) :
    SeqStopsK F n Tryz.prog 214 #[.pointer (some ⟨Bs, 0, none⟩)] (fun x : Int => #[Value.int .i64 x]) (Below n₀) (fun ys => ys = zs) (fun pre => pre <+: zs) zs.length w := fun l J Jx W hW _ _ hY h0 => by
  have hc' := (hW.cell (p := ⟨Bs, 0, none⟩) hBs).trans hc
  rcases hI.below (hW.mono hn₀) with ⟨rfl, rfl⟩ | ⟨b, off, cap, rfl, hb, hcs⟩
  · exact (values1_nil_in F n h7 hro l Bs J W hc' h0).mono fun e W' ⟨he, hj⟩ => ⟨he, .inl ⟨_, rfl, hj⟩⟩
  · refine (values1_in F n h7 hro hn l Bs n₀ b off zs.length cap zs hreach hb J Jx hY W hc' hcs h0).mono ?_
    rintro e W' ⟨he, ⟨ys, rfl, hj⟩ | ⟨pre, ⟨k, hk, rfl⟩, hj⟩⟩
    · exact ⟨he, .inl ⟨_, upto_all zs, hj⟩⟩
    · exact ⟨he, .inr ⟨_, by rw [upto_take zs hk]; exact List.take_prefix _ _, hj⟩⟩
theorem values_any (a : Option Addr) (len cap : Nat) (w : World) :
    Calls Tryz.prog 188 #[.slice a len cap] w fun e w' => e = .returned (.func (.func 214) #[] #[.pointer (some ⟨w.heap.size, 0, none⟩)]) ∧ w' = w.alloc (.cells #[.slice a len cap] 26) := by
  go_enter Tryz.func188, Tryz.ntmps188
  go_wp2
  go_ret
  exact ⟨rfl, rfl⟩

def Gathers (w : World) (zs : List Int) (e : Ending) (W' : World) : Prop :=
  ∃ v, e = .returned v ∧ W'.ownsRow w.heap.size 3 1 v zs.length (zs.map (Value.int .i64)) ∧ (v = .slice none 0 0 ↔ zs = []) ∧ Below w.heap.size w W'
set_option maxHeartbeats 2000000 in
theorem appendSeq_any (F : Fence) (n : Nat) (h3 : F.fn 224) (h5 : F.fn 214) (hro : F.round = none) (hn : 3 ≤ n) (Bv n₀ : Nat) (sv : Value) (xs : List Int) (hlen : xs.length ≤ maxLen) (hbytes : xs.length * 8 ≤ 140737488351232) (w : World)
    (hBv : Bv < w.heap.size) (hn0 : n₀ ≤ w.heap.size) (hcv : w.cell? ⟨Bv, 0, none⟩ = some sv) (hL : Ints n₀ w sv xs) :
    CallsIn F n Tryz.prog 224 #[.slice none 0 0, .func (.func 214) #[] #[.pointer (some ⟨Bv, 0, none⟩)]] w (Gathers w xs) := by
  have h1 : 1 ≤ n := by omega
  obtain ⟨i0, hi, hz0, hz1, hz2⟩ := info_parts info_int
  refine callsIn_of_wp_marks Tryz.func224 rfl h3 ?_ hro
  simp only [Tryz.ntmps224, List.size_toArray, List.length_cons, List.length_nil, Nat.reduceAdd, Nat.reduceSub, Array.replicate_succ, Array.replicate_zero, List.push_toArray, List.append_toArray, List.nil_append, List.cons_append]
  gi_wp2
  have bO := Boxed.new w 26 (.slice none 0 0)
  have hB0 : Below w.heap.size w (w.alloc (.cells #[.slice none 0 0] 26)) := (Below.refl _ w).alloc (Nat.le_refl _) _
  refine wpIn_rangeFunc_ownG hro h1 (gf := 214) (lb := #[.pointer (some ⟨Bv, 0, none⟩)]) rfl h5 (enters_of Tryz.func214 (by kernel_rfl) rfl)
    (values_stops F (n - 1) h5 hro (by omega) Bv n₀ sv xs hbytes _ hBv hn0 hcv hL) belowK_t (belowK_b (by simp; omega)) hB0 (fun _ => rfl)
    (fun pre W => (∃ v, Boxed W w.heap.size 26 v ∧ W.ownsRow w.heap.size 3 1 v pre.length (pre.map (Value.int .i64)) ∧ (v = .slice none 0 0 ↔ pre = [])) ∧ Below w.heap.size w W)
    (fun _ _ _ => False)
    (OwnFrom.and (Own.from (holdsRow_own w.heap.size w.heap.size 26 3 1 (fun pre : List Int => pre.length) (fun pre => pre.map (Value.int .i64)) (fun pre v => v = .slice none 0 0 ↔ pre = [])) _) (ownFrom_below (Nat.le_refl _) (by simp)))
    (fun _ _ _ _ _ hs _ _ => hs)
    ⟨⟨_, bO, World.ownsRow_nil _ _ _ _, by simp⟩, hB0⟩
    (fun x => { tmps := #[.slice none 0 0, .func (.func 214) #[] #[.pointer (some ⟨Bv, 0, none⟩)], .pointer (some ⟨w.heap.size, 0, none⟩), undef, .slice none 0 0, .int .i64 x, .func (.func 214) #[] #[.pointer (some ⟨Bv, 0, none⟩)], .int .i64 x, undef, undef, undef, undef, undef], defers := [] }) ?assign ?body ?done ?stop
  case assign =>
    intro l x W K hK
    gi_wp2
    exact hK
  case body =>
    rintro l pre x W ⟨⟨v, hv, hrow, hnil⟩, hB⟩ hlt
    have hc := hv.cell
    gi_wp2_with (gi_at_builtin; refine wpListIn_append_own _ rfl _ _ 26 rfl w.heap.size 3 i0 (.int .i64 0) 1 8 Tryz.underlying26 hi hz0 hz1 hz2 rfl (by decide) _ _ _ rfl (hrow.alloc _) ⟨W.heap.size, 0, none⟩ 1 1 [.int .i64 x] rfl rfl (cell_one_new _ _ _) (by simp [Value.oneCell']) (by omega) (by omega) (by have := hB.size; simp; omega) ?_; intro v' w1 hown' hgrow _; obtain ⟨g', cap', rfl⟩ := ownsRow_succ hown'; obtain ⟨hv1, hv2, hr2, hk2, hb2⟩ := hv.appended (by decide) hrow hB.size (Nat.le_refl _) hown' hgrow; have hc1 := hv1.cell; have hf1 := hv1.frozen)
    exact ⟨hk2.from _, hb2.mono hn0, ⟨_, hv2, by simpa using hr2, by simp⟩, hB.trans hb2⟩
  case done =>
    rintro D ys W hD rfl ⟨⟨v, hv, hrow, hnil⟩, hB⟩ hK
    have hc := hv.cell
    gi_wp2
    refine ⟨by simp, .inl ⟨_, _, rfl, run_takeDeferred hK, ?_⟩⟩
    exact ⟨_, results_tmp rfl _ _ _, v, rfl, ownsRow_putObj hrow _ hK rfl, hnil, hB.trans (belowK_b (w := w) (Nat.le_refl _) W D _ _ (by simp at hD; omega) hK rfl rfl)⟩
  case stop =>
    rintro D c pre W _ _ h _
    exact h.elim
end Go.Proofs.YtphccomhggnccaaGreat
namespace Go.Proofs.YtphccomhggnccaaGreat
set_option maxRecDepth 100000
set_option linter.unusedVariables false
set_option linter.unusedSimpArgs false
set_option maxRecDepth 100000
open Go.RowKit Go.Shelf Go.Sort Fm
theorem grown_map (w : World) (blk : Nat) (f : Array Value → Array Value) : w.grownBy (mapBlock w blk f) (some blk) :=
  ⟨rfl, rfl, rfl, by simp [mapBlock], fun k _ hne => by
    have h : blk ≠ k := fun e => hne (by rw [e])
    simp [mapBlock, Array.getElem?_modify, h]⟩
theorem grown_grow (w : World) (os : Array Obj) (r : Option Nat) : w.grownBy (grow w os) r :=
  ⟨rfl, rfl, rfl, by simp [grow], fun k hk _ => by simp [grow, Array.getElem?_append, hk]⟩
theorem grown_put (w : World) (q blk off : Nat) (d : Array Int) : w.grownBy (putRow (Value.int .i64) (Sort.ahead w q) blk off d) (some blk) :=
  grown_trans (b := Sort.ahead w q) ⟨rfl, rfl, rfl, Nat.le_refl _, fun _ _ _ => rfl⟩ (grown_map _ _ _)
theorem holds_grow {w : World} {blk off : Nat} {d : Array Int} (h : Holds (Value.int .i64) w blk off d) (os : Array Obj) : Holds (Value.int .i64) (grow w os) blk off d := fun j hj => by
  obtain ⟨h1, h2⟩ := h j hj
  have hlt := World.block_lt_of_cell? w _ h1
  have e : (grow w os).heap[(⟨blk, off + j, none⟩ : Addr).block]? = w.heap[(⟨blk, off + j, none⟩ : Addr).block]? := by
    simp only [grow]
    rw [Array.getElem?_append_left hlt]
  exact ⟨(World.cell?_of_block e).trans h1, (World.frozen?_of_block e).trans h2⟩
theorem holds_below {w W : World} {blk off : Nat} {d : Array Int} (h : Holds (Value.int .i64) w blk off d) (hb : Below w.heap.size w W) : Holds (Value.int .i64) W blk off d := fun j hj => by
  obtain ⟨h1, h2⟩ := h j hj
  have hlt := World.block_lt_of_cell? w _ h1
  exact ⟨(World.cell?_of_block (hb.block _ hlt)).trans h1, (World.frozen?_of_block (hb.block _ hlt)).trans h2⟩
theorem arr_at (t : List Int) (j : Nat) (h : j < t.length) : (t.toArray)[j]! = t.getD j 0 := arr_get t j h

def OwnH (base : Nat) (W : World) (v : Value) (t : List Int) : Prop :=
  (v = .slice none 0 0 ∧ t = []) ∨ ∃ g cap, v = .slice (some ⟨g, 0, none⟩) t.length cap ∧ base ≤ g ∧ g < W.heap.size ∧ t.length ≤ cap ∧ Holds (Value.int .i64) W g 0 t.toArray
theorem OwnH.below {base : Nat} {w W : World} {v : Value} {t : List Int} (h : OwnH base w v t) (hb : Below w.heap.size w W) : OwnH base W v t := by
  rcases h with h | ⟨g, cap, h1, h2, h3, h4, h5⟩
  · exact .inl h
  · exact .inr ⟨g, cap, h1, h2, Nat.lt_of_lt_of_le h3 hb.size, h4, holds_below h5 hb⟩
theorem own_h {base : Nat} {W : World} {v : Value} {t : List Int} (h : W.ownsRow base 3 1 v t.length (t.map (Value.int .i64))) : OwnH base W v t := by
  rcases h.2 with ⟨rfl, h0⟩ | ⟨g, cap, cur, rfl, hg, hb, hn, hm, hs, ht⟩
  · exact .inl ⟨rfl, List.eq_nil_of_length_eq_zero h0⟩
  · refine .inr ⟨g, cap, rfl, hg, blk_lt hb, hn, fun j hj => ?_⟩
    have hj' : j < t.length := by simpa using hj
    rw [Nat.zero_add, cell_blk hb, frozen_blk hb, arr_at t j hj']
    refine ⟨?_, rfl⟩
    have h1 : (t.map (Value.int .i64))[j]? = some (.int .i64 (t.getD j 0)) := by simp [List.getElem?_eq_getElem hj']
    rw [← ht, List.getElem?_take, if_pos (by omega)] at h1
    simpa using h1

theorem collect_any (Bv n₀ : Nat) (sv : Value) (xs : List Int) (hlen : xs.length ≤ 1099511627776) (w : World) (hBv : Bv < w.heap.size) (hn0 : n₀ ≤ w.heap.size) (hcv : w.cell? ⟨Bv, 0, none⟩ = some sv) (hL : Ints n₀ w sv xs) :
    Calls Tryz.prog 212 #[.func (.func 214) #[] #[.pointer (some ⟨Bv, 0, none⟩)]] w (Gathers w xs) := by
  have hA := callsIn_wide.1 (appendSeq_any Fence.wide 5 trivial trivial rfl (by omega) Bv n₀ sv xs (by unfold maxLen; omega) (by omega) w hBv hn0 hcv hL)
  have HA := Lib.hid hA
  clear hA hcv hL
  go_enter Tryz.func212, Tryz.ntmps212
  go_wp2_with (go_at_call 224; refine HA.out.mono ?_; rintro e w' ⟨v, rfl, h1, h2, h3⟩)
  go_ret
  exact ⟨v, rfl, h1, h2, h3⟩
def Rowed (w : World) (t : List Int) (e : Ending) (W' : World) : Prop := ∃ v, e = .returned v ∧ OwnH w.heap.size W' v t ∧ Below w.heap.size w W'
theorem sort_own {base : Nat} {w : World} {v : Value} {t : List Int} (h : OwnH base w v t) (hl : t.length ≤ 1099511627776) (hb : base ≤ w.heap.size) :
    Calls Tryz.prog 213 #[v] w fun e W' => e = .returned (.tuple #[]) ∧ OwnH base W' v (t.mergeSort fun x y => decide (x ≤ y)) ∧ Below base w W' := by
  rcases h with ⟨rfl, rfl⟩ | ⟨g, cap, rfl, hg, hgs, hc, hH⟩
  · refine (Tryz.slices_Sort_int_none none 0 w).mono ?_
    rintro e W' ⟨rfl, rfl⟩
    exact ⟨rfl, .inl ⟨rfl, by simp⟩, Below.refl _ _⟩
  · refine (Tryz.slices_Sort_int g 0 cap t w hH hgs (by omega)).mono ?_
    rintro e W' ⟨rfl, n, os, rfl⟩
    have hms : (t.mergeSort fun x y => decide (x ≤ y)).length = t.length := List.length_mergeSort ..
    have hg1 := grown_trans (grown_put w n g 0 (t.mergeSort fun x y => decide (x ≤ y)).toArray) (grown_grow _ os (some g))
    refine ⟨rfl, .inr ⟨g, cap, by rw [hms], hg, Nat.lt_of_lt_of_le hgs hg1.size, by rw [hms]; exact hc, holds_grow (holds_putRow _ _ _ _ _ _ (holds_ahead _ w n g 0 _ hH) (by simp [hms])) os⟩, grown_below hg1 (fun k hk => by injection hk with hk; omega) hb⟩
theorem sorted_any (Bv n₀ : Nat) (sv : Value) (xs : List Int) (hlen : xs.length ≤ 1099511627776) (w : World) (hBv : Bv < w.heap.size) (hn0 : n₀ ≤ w.heap.size) (hcv : w.cell? ⟨Bv, 0, none⟩ = some sv) (hL : Ints n₀ w sv xs) :
    Calls Tryz.prog 187 #[.func (.func 214) #[] #[.pointer (some ⟨Bv, 0, none⟩)]] w (Rowed w (xs.mergeSort fun x y => decide (x ≤ y))) := by
  have HC := Lib.hid (collect_any Bv n₀ sv xs hlen w hBv hn0 hcv hL)
  clear hcv hL
  go_enter Tryz.func187, Tryz.ntmps187
  go_wp2_with fail
  go_at_call 212
  refine HC.out.mono ?_
  rintro e w1 ⟨v, rfl, h1, h2, h3⟩
  have HS := Lib.hid (sort_own (own_h h1) hlen h3.size)
  have H3 := Lib.hid h3
  clear h1 h2 h3 HC
  go_wp2_with fail
  go_at_call 213
  refine HS.out.mono ?_
  rintro e w2 ⟨rfl, h4, h5⟩
  have H4 := Lib.hid h4
  have H5 := Lib.hid (H3.out.trans h5)
  clear h4 h5 HS
  go_wp2_with fail
  go_ret
  exact ⟨v, rfl, H4.out, H5.out⟩
theorem compact_own {base : Nat} {w : World} {v : Value} {t : List Int} (h : OwnH base w v t) (hl : t.length ≤ 1099511627776) (hb : base ≤ w.heap.size) :
    Calls Tryz.prog 186 #[v] w fun e W' => ∃ v', e = .returned v' ∧ OwnH base W' v' (Lib.compact t) ∧ Below base w W' := by
  rcases h with ⟨rfl, rfl⟩ | ⟨g, cap, rfl, hg, hgs, hc, hH⟩
  · refine (Tryz.slices_Compact_int_empty none 0 w).mono ?_
    rintro e W' ⟨rfl, rfl⟩
    exact ⟨_, rfl, .inl ⟨rfl, rfl⟩, Below.refl _ _⟩
  · refine (Tryz.slices_Compact_int g 0 cap t w hH (by omega) hc).mono ?_
    rintro e W' ⟨rfl, q, rfl⟩
    have hcl := Fm.compact_len t
    have hg1 := grown_put w q g 0 (Lib.compact t ++ List.replicate (t.length - (Lib.compact t).length) 0).toArray
    have hH2 := holds_putRow (Value.int .i64) _ g 0 _ (Lib.compact t ++ List.replicate (t.length - (Lib.compact t).length) 0).toArray (holds_ahead _ w q g 0 _ hH) (by simp; omega)
    refine ⟨_, rfl, .inr ⟨g, cap, rfl, hg, Nat.lt_of_lt_of_le hgs hg1.size, by omega, fun j hj => ?_⟩, grown_below hg1 (fun k hk => by injection hk with hk; omega) hb⟩
    have hj' : j < (Lib.compact t).length := by simpa using hj
    obtain ⟨a, b⟩ := hH2 j (by simp; omega)
    refine ⟨?_, b⟩
    rw [a, arr_at _ j (by rw [List.length_append]; omega), arr_at _ j hj']
    simp [List.getD, List.getElem?_append_left hj']
theorem search_own {base : Nat} {w : World} {v : Value} {t : List Int} (h : OwnH base w v t) (hl : t.length ≤ 1099511627776) (hs : t.Pairwise (· ≤ ·)) (x : Int) :
    Calls Tryz.prog 58 #[v, .int .i64 x] w fun e W' => e = .returned (.tuple #[.int .i64 ((t.countP fun y => decide (y < x) : Nat) : Int), .bool (t.contains x)]) ∧ ∃ q, W' = w.drewN q := by
  rcases h with ⟨rfl, rfl⟩ | ⟨g, cap, rfl, hg, hgs, hc, hH⟩
  · refine (Tryz.slices_BinarySearch_int_empty none 0 x w).mono ?_
    rintro e W' ⟨rfl, rfl⟩
    exact ⟨rfl, 0, rfl⟩
  · have h0 := Tryz.slices_BinarySearch_int g 0 t.length cap t x w (Nat.le_refl _) (by omega) (fun j hj => by
      have := (hH j (by simpa using hj)).1
      rwa [arr_at t j hj] at this) (by rw [List.take_length]; exact hs)
    rw [List.take_length] at h0
    exact h0
end Go.Proofs.YtphccomhggnccaaGreat
namespace Go.Proofs.YtphccomhggnccaaGreat
set_option maxRecDepth 100000
set_option linter.unusedVariables false
set_option linter.unusedSimpArgs false
set_option maxRecDepth 100000
open Go.RowKit Fm
def fillA (n j : Nat) (f : Nat → Int) : List Int := FA n fun i => if i < j then f i else 0
theorem fillA_length (n j : Nat) (f : Nat → Int) : (fillA n j f).length = n := FA_length _ _
theorem fillA_zero (n : Nat) (f : Nat → Int) : fillA n 0 f = List.replicate n 0 := by
  rw [FA_const]; exact FA_same fun i _ => by simp
theorem fillA_set (n j : Nat) (f : Nat → Int) (h : j < n) : (fillA n j f).set j (f j) = fillA n (j + 1) f := by
  unfold fillA
  rw [FA_set]
  refine FA_same fun i _ => ?_
  by_cases e : i = j
  · subst e; rw [if_pos rfl, if_pos (by omega)]
  · rw [if_neg e]
    by_cases l : i < j
    · rw [if_pos l, if_pos (by omega)]
    · rw [if_neg l, if_neg (by omega)]
theorem fillA_all (n : Nat) (f : Nat → Int) : fillA n n f = FA n f := FA_same fun i hi => by rw [if_pos hi]
theorem NI_FA (n : Nat) (f : Nat → Nat) : FA n (fun i => (f i : Int)) = NI ((List.range n).map f) := by
  unfold FA NI; rw [List.map_map]; rfl
theorem two_new (w : World) (a b : List Int) : IB ((w.alloc (.cells (I a) 3)).alloc (.cells (I b) 3)) w.heap.size a ∧ IB ((w.alloc (.cells (I a) 3)).alloc (.cells (I b) 3)) (w.heap.size + 1) b ∧ Below w.heap.size w ((w.alloc (.cells (I a) 3)).alloc (.cells (I b) 3)).drew := by
  refine ⟨blk_alloc (heap_alloc_new w _) _, ?_, (((Below.refl _ w).alloc (Nat.le_refl _) _).alloc (by simp) _).drew⟩
  have := heap_alloc_new (w.alloc (.cells (I a) 3)) (.cells (I b) 3)
  unfold IB
  simpa using this
def boxed (v : Value) (w : World) : Nat := match v with
  | .pointer (some a) => (match w.cell? a with
    | some (.int _ z) => z.toNat
    | _ => 0)
  | _ => 0
theorem list_at (n : Nat) (f : Nat → Nat) (p : Nat) (h : p < n) : ((List.range n).map f).getD p 0 = f p := by
  simp [List.getD, List.getElem?_map, List.getElem?_range h]
theorem inv_list {s : List Nat} {k many : Nat} {f g : Nat → Nat} {sa : List Nat} (h : Inv s k f many sa) (e : ∀ p, p < s.length → g p = f p) : Inv s k g many sa := by
  have hm : ∀ a ∈ sa, a < s.length := fun a ha => List.mem_range.1 (h.perm.mem_iff.1 ha)
  refine ⟨h.k1, ⟨fun a b ha hb => ?_, fun a b ha hb => ?_⟩, fun p hp => ?_, h.perm, ?_, h.le, ?_⟩
  · rw [e a ha, e b hb]; exact h.emb.lt a b ha hb
  · rw [e a ha, e b hb]; exact h.emb.eq a b ha hb
  · rw [e p hp]; exact h.lt p hp
  · refine List.Pairwise.imp_of_mem ?_ h.sorted
    intro a b ha hb hr
    rw [e a (hm a ha), e b (hm b hb)]; exact hr
  · rw [h.inj]
    constructor
    · intro q a b ha hb hr; rw [e a ha, e b hb] at hr; exact q a b ha hb hr
    · intro q a b ha hb hr; rw [← e a ha, ← e b hb] at hr; exact q a b ha hb hr
theorem bucket_list {places : List Nat} {many : Nat} {f g : Nat → Nat} (e : ∀ p ∈ places, g p = f p) : bucket places g many = bucket places f many := by
  unfold bucket
  congr 1
  funext k
  refine filter_same _ _ _ fun p hp => ?_
  rw [e p hp]
theorem second_any (w : World) (kb nb rb g : Nat) (s ranks : List Nat) (k n c i : Nat) (h1 : w.cell? ⟨kb, 0, none⟩ = some (.int .i64 (k : Int))) (h2 : w.cell? ⟨nb, 0, none⟩ = some (.int .i64 (n : Int))) (h3 : w.cell? ⟨rb, 0, none⟩ = some (.slice (some ⟨g, 0, none⟩) n c))
    (hI : IB w g (NI ranks)) (hl : ranks.length = n) (hs : s.length = n) (hn : n ≤ 1048576) (hk : k ≤ 1048576) (hi : i < n) :
    Calls Tryz.prog 190 #[.int .i64 (i : Int), .pointer (some ⟨kb, 0, none⟩), .pointer (some ⟨nb, 0, none⟩), .pointer (some ⟨rb, 0, none⟩)] w fun e w' => e = .returned (.int .i64 (((sec s k (fun p => ranks.getD p 0) i : Nat) : Int) - 1)) ∧ w = w' := by
  by_cases h : i + k < n
  · have hc := hI.cell (i := i + k) (by rw [NI_length, hl]; exact h)
    rw [NI_getD _ _ (by rw [hl]; exact h)] at hc
    have e : sec s k (fun p => ranks.getD p 0) i = ranks.getD (i + k) 0 + 1 := by unfold sec; rw [if_pos (by rw [hs]; exact h)]
    rw [e]
    clear e hI hl hs
    generalize ranks.getD (i + k) 0 = r at *
    go_enter Tryz.func190, Tryz.ntmps190
    go_wp2_with fail
    go_ret
    exact ⟨ret_int (by omega), rfl⟩
  · have e : sec s k (fun p => ranks.getD p 0) i = 0 := by unfold sec; rw [if_neg (by rw [hs]; exact h)]
    rw [e]
    have h' : ¬ (i : Int) + (k : Int) < (n : Int) := by omega
    clear e hI hl hs
    go_enter Tryz.func190, Tryz.ntmps190
    go_wp2_with fail
    go_ret
    exact ⟨ret_int (by omega), rfl⟩
end Go.Proofs.YtphccomhggnccaaGreat
namespace Go.Proofs.YtphccomhggnccaaGreat
set_option maxRecDepth 100000
set_option linter.unusedVariables false
set_option linter.unusedSimpArgs false
set_option maxRecDepth 100000
open Go.RowKit Fm
structure Ar (w wr : World) (rb K0 n a1 a2 a3 a4 kb k : Nat) (sa rank : List Nat) (tl xl : List Int) : Prop where
  b1 : IB wr a1 (NI sa)
  b2 : IB wr a2 tl
  b3 : IB wr a3 xl
  b4 : IB wr a4 (NI rank)
  nbx : wr.heap[w.heap.size]? = some (.cells #[.int .i64 (n : Int)] 3 (0, 0))
  rbx : wr.heap[rb]? = some (.cells #[.slice (some ⟨a4, 0, none⟩) n n] 26 (0, 0))
  kbx : wr.heap[kb]? = some (.cells #[.int .i64 (k : Int)] 3 (0, 0))
  l0 : sa.length = n
  l1 : tl.length = n
  l2 : xl.length = n
  l3 : rank.length = n
  n12 : a1 ≠ a2
  n13 : a1 ≠ a3
  n14 : a1 ≠ a4
  n23 : a2 ≠ a3
  n24 : a2 ≠ a4
  n34 : a3 ≠ a4
  lo : w.heap.size < a1 ∧ w.heap.size < a2 ∧ w.heap.size < a3 ∧ w.heap.size < a4
  hi : a1 < K0 ∧ a2 < K0 ∧ a3 < K0 ∧ a4 < K0
  kb0 : K0 ≤ kb
  rb0 : w.heap.size < rb ∧ rb < K0
  bel : Below w.heap.size w wr
theorem ib_ne {w : World} {g rb : Nat} {l : List Int} {cs : Array Value} (h : IB w g l) (hr : w.heap[rb]? = some (.cells cs 26 (0, 0))) : rb ≠ g := by
  intro e
  rw [e, h] at hr
  injection hr with hr
  injection hr with _ h2 _
  exact absurd h2 (by decide)
section
variable {w wr : World} {rb K0 n a1 a2 a3 a4 kb k : Nat} {sa rank : List Nat} {tl xl : List Int}
theorem Ar.set2 (h : Ar w wr rb K0 n a1 a2 a3 a4 kb k sa rank tl xl) (i : Nat) (v : Int) : Ar w (wr.setCell ⟨a2, i, none⟩ (.int .i64 v)) rb K0 n a1 a2 a3 a4 kb k sa rank (tl.set i v) xl := by
  have lo := h.lo; have hi := h.hi; have kb0 := h.kb0
  exact ⟨h.b1.other h.n12 _ _, h.b2.set i v, h.b3.other h.n23.symm _ _, h.b4.other h.n24.symm _ _, blk_other h.nbx (by omega) _ _, blk_other h.rbx (ib_ne h.b2 h.rbx) _ _, blk_other h.kbx (by omega) _ _,
    h.l0, by rw [List.length_set]; exact h.l1, h.l2, h.l3, h.n12, h.n13, h.n14, h.n23, h.n24, h.n34, h.lo, h.hi, h.kb0, h.rb0, below_cell h.bel (by omega) _ _ rfl⟩
theorem Ar.set3 (h : Ar w wr rb K0 n a1 a2 a3 a4 kb k sa rank tl xl) (i : Nat) (v : Int) : Ar w (wr.setCell ⟨a3, i, none⟩ (.int .i64 v)) rb K0 n a1 a2 a3 a4 kb k sa rank tl (xl.set i v) := by
  have lo := h.lo; have hi := h.hi; have kb0 := h.kb0
  exact ⟨h.b1.other h.n13 _ _, h.b2.other h.n23 _ _, h.b3.set i v, h.b4.other h.n34.symm _ _, blk_other h.nbx (by omega) _ _, blk_other h.rbx (ib_ne h.b3 h.rbx) _ _, blk_other h.kbx (by omega) _ _,
    h.l0, h.l1, by rw [List.length_set]; exact h.l2, h.l3, h.n12, h.n13, h.n14, h.n23, h.n24, h.n34, h.lo, h.hi, h.kb0, h.rb0, below_cell h.bel (by omega) _ _ rfl⟩
theorem Ar.drew (h : Ar w wr rb K0 n a1 a2 a3 a4 kb k sa rank tl xl) : Ar w wr.drew rb K0 n a1 a2 a3 a4 kb k sa rank tl xl :=
  ⟨h.b1, h.b2, h.b3, h.b4, h.nbx, h.rbx, h.kbx, h.l0, h.l1, h.l2, h.l3, h.n12, h.n13, h.n14, h.n23, h.n24, h.n34, h.lo, h.hi, h.kb0, h.rb0, h.bel.drew⟩
theorem Ar.drewN (h : Ar w wr rb K0 n a1 a2 a3 a4 kb k sa rank tl xl) (q : Nat) : Ar w (wr.drewN q) rb K0 n a1 a2 a3 a4 kb k sa rank tl xl :=
  ⟨h.b1, h.b2, h.b3, h.b4, h.nbx, h.rbx, h.kbx, h.l0, h.l1, h.l2, h.l3, h.n12, h.n13, h.n14, h.n23, h.n24, h.n34, h.lo, h.hi, h.kb0, h.rb0, h.bel.trans (belowD _ wr q)⟩
theorem Ar.sorted (h : Ar w wr rb K0 n a1 a2 a3 a4 kb k sa rank tl xl) {wy : World} {sb : List Nat} (hb : IB wy a1 (NI sb)) (hl : sb.length = n) (hg : wr.grownBy wy (some a1)) : Ar w wy rb K0 n a1 a2 a3 a4 kb k sb rank tl xl := by
  have lo := h.lo; have hi := h.hi; have kb0 := h.kb0
  exact ⟨hb, h.b2.grown hg (fun e => h.n12 (by injection e with e; exact e.symm)), h.b3.grown hg (fun e => h.n13 (by injection e with e; exact e.symm)), h.b4.grown hg (fun e => h.n14 (by injection e with e; exact e.symm)),
    grown_blk hg h.nbx (fun e => by injection e with e; omega), grown_blk hg h.rbx (fun e => ib_ne h.b1 h.rbx (by injection e)), grown_blk hg h.kbx (fun e => by injection e with e; omega),
    hl, h.l1, h.l2, h.l3, h.n12, h.n13, h.n14, h.n23, h.n24, h.n34, h.lo, h.hi, h.kb0, h.rb0, h.bel.grown hg h.bel.size (fun q hq => by injection hq with hq; omega)⟩
theorem Ar.swap (h : Ar w wr rb K0 n a1 a2 a3 a4 kb k sa rank tl xl) {rank' : List Nat} (hr : xl = NI rank') :
    Ar w (wr.setCell ⟨rb, 0, none⟩ (.slice (some ⟨a3, 0, none⟩) n n)) rb K0 n a1 a2 a4 a3 kb k sa rank' tl (NI rank) := by
  have lo := h.lo; have hi := h.hi; have kb0 := h.kb0; have rb0 := h.rb0
  have ne : ∀ {g : Nat} {l : List Int}, IB wr g l → g ≠ rb := fun hg => (ib_ne hg h.rbx).symm
  have hl2 := h.l2
  rw [hr] at hl2
  exact ⟨h.b1.other (ne h.b1) _ _, h.b2.other (ne h.b2) _ _, h.b4.other (ne h.b4) _ _, by rw [← hr]; exact h.b3.other (ne h.b3) _ _, blk_other h.nbx (by omega) _ _,
    blk_set h.rbx 0 _, blk_other h.kbx (by omega) _ _, h.l0, h.l1, by rw [NI_length]; exact h.l3, by rw [NI_length] at hl2; exact hl2, h.n12, h.n14, h.n13, h.n24, h.n23, h.n34.symm,
    ⟨lo.1, lo.2.1, lo.2.2.2, lo.2.2.1⟩, ⟨hi.1, hi.2.1, hi.2.2.2, hi.2.2.1⟩, h.kb0, h.rb0, below_cell h.bel (by omega) _ _ rfl⟩
theorem Ar.newk (h : Ar w wr rb K0 n a1 a2 a3 a4 kb k sa rank tl xl) (k' : Nat) :
    Ar w (wr.alloc (.cells #[.int .i64 (k' : Int)] 3)) rb K0 n a1 a2 a3 a4 wr.heap.size k' sa rank tl xl := by
  have lo := h.lo; have hi := h.hi; have kb0 := h.kb0; have rb0 := h.rb0
  have hk := blk_lt h.kbx
  exact ⟨blk_alloc h.b1 _, blk_alloc h.b2 _, blk_alloc h.b3 _, blk_alloc h.b4 _, blk_alloc h.nbx _, blk_alloc h.rbx _, heap_alloc_new wr _, h.l0, h.l1, h.l2, h.l3, h.n12, h.n13, h.n14, h.n23, h.n24, h.n34, h.lo, h.hi, by omega, h.rb0, h.bel.alloc h.bel.size _⟩
end
theorem tmp_first (n k : Nat) (sa : List Nat) (i : Nat) (h : i < k) : (tmpL n k sa).getD i 0 = n - k + i := by
  unfold tmpL
  rw [List.getD_eq_getElem?_getD, List.getElem?_append_left (by simpa using h)]
  simp [h]
theorem tmp_next (n k : Nat) (sa : List Nat) (t : Nat) (ht : t < sa.length) (hk : k ≤ sa.getD t 0) :
    (tmpL n k sa).getD (k + ((sa.take t).filter fun p => decide (k ≤ p)).length) 0 = sa.getD t 0 - k ∧ ((sa.take t).filter fun p => decide (k ≤ p)).length < (sa.filter fun p => decide (k ≤ p)).length := by
  have hs : sa.filter (fun p => decide (k ≤ p)) = (sa.take t).filter (fun p => decide (k ≤ p)) ++ (sa.getD t 0 :: (sa.drop (t + 1)).filter fun p => decide (k ≤ p)) := by
    have h1 : sa = sa.take t ++ (sa.getD t 0 :: sa.drop (t + 1)) := by
      rw [getD_at ht, ← List.drop_eq_getElem_cons ht, List.take_append_drop]
    conv => lhs; rw [h1]
    rw [List.filter_append, List.filter_cons, if_pos (by simpa using hk)]
  have hlen := congrArg List.length hs
  rw [List.length_append, List.length_cons] at hlen
  refine ⟨?_, by omega⟩
  unfold tmpL
  rw [List.getD_eq_getElem?_getD, List.getElem?_append_right (by simp), hs]
  simp
theorem tmp_length (n k : Nat) (sa : List Nat) : (tmpL n k sa).length = k + (sa.filter fun p => decide (k ≤ p)).length := by simp [tmpL]
theorem filt_take_succ (k : Nat) (sa : List Nat) (t : Nat) (ht : t < sa.length) : ((sa.take (t + 1)).filter fun p => decide (k ≤ p)).length = ((sa.take t).filter fun p => decide (k ≤ p)).length + if k ≤ sa.getD t 0 then 1 else 0 := by
  rw [List.take_succ_eq_append_getElem ht, List.filter_append, List.length_append, getD_at ht, List.filter_cons, List.filter_nil]
  by_cases h : k ≤ sa[t]
  · rw [if_pos (by simpa using h), if_pos h]; rfl
  · rw [if_neg (by simpa using h), if_neg h]; rfl
theorem ni_ext {l : List Int} {m : List Nat} (hl : l.length = m.length) (h : ∀ i, i < m.length → l.getD i 0 = ((m.getD i 0 : Nat) : Int)) : l = NI m := by
  apply List.ext_getElem
  · rw [NI_length]; exact hl
  · intro i a b
    rw [NI_length] at b
    have := h i b
    rw [List.getD_eq_getElem?_getD, List.getElem?_eq_getElem a, getD_at b] at this
    simp only [NI, List.getElem_map]
    exact this
theorem pair_ne (x u y v : Nat) : ((x, u) != (y, v)) = !(decide (x = y) && decide (u = v)) := by
  by_cases e : x = y <;> by_cases e2 : u = v <;> simp [e, e2]
theorem ni_toNat (l : List Int) (h : ∀ j, j < l.length → 0 ≤ l.getD j 0) : l = NI (l.map Int.toNat) := by
  refine ni_ext (by simp) fun i hi => ?_
  have hi' : i < l.length := by simpa using hi
  have := h i hi'
  rw [getD_at hi] 
  rw [List.getD_eq_getElem?_getD, List.getElem?_eq_getElem hi'] at this ⊢
  simp only [List.getElem_map, Option.getD_some] at *
  omega
theorem boxed_of {w : World} {a : Addr} {z : Nat} (h : w.cell? a = some (.int .i64 (z : Int))) : boxed (.pointer (some a)) w = z := by
  unfold boxed; simp only [h]; exact Int.toNat_natCast z
theorem set_getD (l : List Int) (i j : Nat) (v : Int) (h : i < l.length) : (l.set i v).getD j 0 = if j = i then v else l.getD j 0 := by
  rw [List.getD_eq_getElem?_getD, List.getElem?_set]
  by_cases e : i = j
  · subst e; simp [h]
  · rw [if_neg e, if_neg (fun e2 => e e2.symm), List.getD_eq_getElem?_getD]
end Go.Proofs.YtphccomhggnccaaGreat
