/- haystackref7: Turned, At, Locate. fm: Turned. -/
import Derived.Test.YtfjhcgmaignaoaaGreatRf6
import Derived.Test.YtfjhcgmaignaoaaGreatFmRes
import Derived.Test.YtfjhcgmaignaoaaGreatFmLong2
import Derived.Laws.BytesArg
namespace Go.Proofs.YtfjhcgmaignaoaaGreat
set_option linter.unusedVariables false
set_option linter.unusedSimpArgs false
set_option maxRecDepth 100000
open Go.RowKit Fm Rank

theorem turned7_any (w : World) (A : Option Addr) (n c : Nat) (ts : List (List Nat)) (hA : RArg w A n c ts) (hm : (rowT ts).length ≤ 65536) :
    Calls Tryz.prog 18 #[.slice A n c] w fun e w' => ∃ B cc sa, e = .returned (.slice B (rowT ts).length cc) ∧ IsSA (rowT ts) sa ∧ Sl w' B (VI (NI (trn (rowT ts) sa))) ∧ Below w.heap.size w w' := by
  have HR := Lib.hid (row7_any w A n c ts hA hm)
  clear hA
  go_enter Tryz.func18, Tryz.ntmps18
  go_wp2_with fail
  go_at_call 39
  refine HR.out.mono ?_
  rintro e w1 ⟨b, cc, rfl, hS, hb, hB1⟩
  have HT := Lib.hid (turn6_any w1 b 0 (rowT ts).length cc (rowT ts) rfl (rowT_closed ts) hm hS)
  have HB1 := Lib.hid hB1
  clear hS hB1 HR
  go_wp2_with fail
  go_at_call 38
  refine HT.out.mono ?_
  rintro e w2 ⟨B, c2, sa, rfl, hsa, hS2, hB2⟩
  have HSA := Lib.hid hsa
  have HS2 := Lib.hid hS2
  have HB2 := Lib.hid (below_step HB1.out hB2)
  clear hsa hS2 hB2 HT
  go_wp2_with fail
  go_ret
  exact ⟨_, _, sa, rfl, HSA.out, HS2.out, HB2.out⟩
theorem turnedX_any {w : World} {base x : Nat} {s sa : List Nat} (h : IdxM w base x s sa) :
    Calls Tryz.prog 15 #[.pointer (some ⟨x, 0, none⟩)] w fun e w' => ∃ A c, e = .returned (.slice A s.length c) ∧ Sl w' A (VI (NI (trn s sa))) ∧ Below w.heap.size w w' := by
  have htl := trn_length h.ord
  obtain ⟨h1, h2, h3, h4, h5, tr, g3, y, yc, mb, pb, pg, kk, rb, r, b1, b2, b3, b4, b5, c0, c1, c2, c3, c4, c5, c6, c7, c8⟩ := h
  have hc0 := (cell_blk c0 0).trans rfl
  have H := Lib.hid (whole_any x tr w hc0)
  have HT := Lib.hid (tall_any c1)
  rw [htl] at HT
  clear c0 c1 c2 c3 c4 c5 c6 c7 c8 h1 h3 h4 h5 b1 b2 b3 b4 b5 htl
  go_enter Tryz.func15, Tryz.ntmps15
  go_wp2_with (go_at_call 30; refine H.out.mono ?_; rintro e w' ⟨rfl, rfl⟩)
  go_at_call 31
  refine HT.out.mono ?_
  rintro e w1 ⟨A, c, rfl, hS, hB⟩
  have HS := Lib.hid hS
  go_wp2_with fail
  go_ret
  exact ⟨A, c, rfl, HS.out, hB⟩
/-- where a row of bytes stands in another -/
def atL (t p : List Nat) : List Nat := if p = [] then [] else (List.range t.length).filter fun f => p.isPrefixOf (t.drop f)
def strY (l : List Nat) : ByteArray := strOfNums (l.map fun x : Nat => (x : Int))
theorem strY_eq {a b : List Nat} (ha : ∀ x ∈ a, x < 256) (hb : ∀ x ∈ b, x < 256) : ((strY a).toList == (strY b).toList) = decide (a = b) := by
  rw [ByteArray.toList_eq, ByteArray.toList_eq, Bool.eq_iff_iff, beq_iff_eq, decide_eq_true_eq]
  constructor
  · intro h
    have h1 := congrArg (fun l : List UInt8 => l.map UInt8.toNat) h
    simp only [strY, strOfNums_data, List.map_map] at h1
    have e : ∀ l : List Nat, (∀ x ∈ l, x < 256) → l.map (UInt8.toNat ∘ (fun n : Int => UInt8.ofNat n.toNat) ∘ fun x : Nat => (x : Int)) = l := fun l hl => by
      conv => rhs; rw [← List.map_id l]
      refine List.map_congr_left fun x hx => ?_
      have := hl x hx
      simp [UInt8.toNat_ofNat]
      omega
    rwa [e a ha, e b hb] at h1
  · rintro rfl; rfl
theorem conv_str (w : World) {b off : Nat} {t : List Nat} (h : Sl w (some ⟨b, off, none⟩) (VY t)) (n c : Nat) (hn : t.length = n) :
    (convert 25 9 (.slice (some ⟨b, off, none⟩) n c)).run Tryz.prog w = .ok (.string (strY t)) w := by
  refine run_convert_bytes_arg (P := Tryz.prog) w 25 5 Tryz.underlying25 Tryz.underlying5 b off n c (t.map fun x : Nat => (x : Int)) (by rw [List.length_map]; exact hn) (fun i hi => ?_) 9 Tryz.underlying9
  have h1 := h.cell _ rfl i _ (VY_get t i (by omega))
  rw [show (⟨b, off, none⟩ : Addr).add i = ⟨b, off + i, none⟩ by unfold Addr.add; split <;> simp_all] at h1
  rw [h1]
  have hi' : i < t.length := by omega
  simp [List.getD, List.getElem?_eq_getElem hi']
theorem sl_cutY {w : World} {b off : Nat} {t : List Nat} (h : Sl w (some ⟨b, off, none⟩) (VY t)) (f k : Nat) : Sl w (some ⟨b, off + f, none⟩) (VY ((t.drop f).take k)) :=
  ⟨fun e => (by cases e), fun a ha j u hu => by
    cases ha
    have hj : j < k ∧ f + j < t.length := by
      rcases Nat.lt_or_ge j ((t.drop f).take k).length with h1 | h1
      · rw [List.length_take, List.length_drop] at h1; omega
      · rw [List.getElem?_eq_none (by rw [VY_length]; exact h1)] at hu; cases hu
    have h1 := h.cell _ rfl (f + j) _ (VY_get t (f + j) hj.2)
    rw [show (⟨b, off, none⟩ : Addr).add (f + j) = ⟨b, off + f + j, none⟩ by unfold Addr.add; split <;> simp_all; omega] at h1
    rw [show (⟨b, off + f, none⟩ : Addr).add j = ⟨b, off + f + j, none⟩ by unfold Addr.add; split <;> simp_all, h1, ← hu]
    have hl : j < ((t.drop f).take k).length := by rw [List.length_take, List.length_drop]; omega
    rw [VY_get _ j hl]
    simp only [List.getD]
    rw [List.getElem?_take, if_pos hj.1, List.getElem?_drop]⟩
theorem atL_take (t p : List Nat) (hp : p ≠ []) (i : Nat) (hi : i < t.length) : (List.range (i + 1)).filter (fun f => p.isPrefixOf (t.drop f)) = (List.range i).filter (fun f => p.isPrefixOf (t.drop f)) ++ if p.isPrefixOf (t.drop i) = true then [i] else [] := by
  rw [List.range_succ, List.filter_append]
  congr 1
  simp only [List.filter_cons, List.filter_nil]
theorem atL_full (t p : List Nat) (hp : p ≠ []) (i : Nat) (hi : t.length < i + p.length) (hil : i ≤ t.length) : (List.range t.length).filter (fun f => p.isPrefixOf (t.drop f)) = (List.range i).filter (fun f => p.isPrefixOf (t.drop f)) := by
  rw [show t.length = i + (t.length - i) by omega, List.range_add, List.filter_append]
  have : ((List.range (t.length - i)).map (i + ·)).filter (fun f => p.isPrefixOf (t.drop f)) = [] := by
    rw [List.filter_eq_nil_iff]
    intro f hf h
    obtain ⟨k, _, rfl⟩ := List.mem_map.1 hf
    have := (List.isPrefixOf_iff_prefix.1 h).length_le
    rw [List.length_drop] at this
    omega
  rw [this, List.append_nil]
theorem prefix_win (t p : List Nat) (i : Nat) (h : i + p.length ≤ t.length) : p.isPrefixOf (t.drop i) = decide ((t.drop i).take p.length = p) := by
  rw [Bool.eq_iff_iff, List.isPrefixOf_iff_prefix, decide_eq_true_eq, List.prefix_iff_eq_take]
  exact eq_comm
set_option maxHeartbeats 4000000 in
theorem at7_any (w : World) (A B : Option Addr) (n m c d : Nat) (t p : List Nat) (hA : Sl w A (VY t)) (hB : Sl w B (VY p)) (hl : t.length = n) (hm : p.length = m) (hn : n ≤ 65536) (hm2 : m ≤ 65536) (hc : n ≤ c) (ht : ∀ x ∈ t, x < 256) (hp : ∀ x ∈ p, x < 256) :
    Calls Tryz.prog 40 #[.slice A n c, .slice B m d] w fun e w' => ∃ C cc, e = .returned (.slice C (atL t p).length cc) ∧ Sl w' C (VI (NI (atL t p))) ∧ (∀ a, C = some a → w.heap.size ≤ a.block) ∧ Below w.heap.size w w' := by
  by_cases hp0 : m = 0
  · subst hp0
    have hpe : p = [] := List.eq_nil_of_length_eq_zero hm
    subst hpe
    go_enter Tryz.func40, Tryz.ntmps40
    go_wp2_with fail
    go_loopw [5, 6] (fun v q wr => v = .slice none 0 0 ∧ q = .int .i64 0 ∧ wr = w) (fun _ _ _ => 0)
    case atStart => exact ⟨rfl, rfl, rfl⟩
    case round =>
      obtain ⟨rfl, rfl, rfl⟩ := hrel
      go_wp2_with fail
      go_ret
      exact ⟨none, _, rfl, sl_nil _, (fun a h => by cases h), Below.refl _ _⟩
  · have hpne : p ≠ [] := fun e => hp0 (by rw [← hm, e]; rfl)
    obtain ⟨bp, op, rfl, _⟩ := hB.lit (j := 0) (by rw [VY_length]; omega)
    have HA := Lib.hid hA
    have HBp := Lib.hid hB
    have Hl := Lib.hid hl
    have Hm := Lib.hid hm
    have Ht := Lib.hid ht
    have Hp := Lib.hid hp
    have hm1 : (0 : Int) < (m : Int) := by omega
    have Hpne := Lib.hid hpne
    have HaL := Lib.hid (show atL t p = (List.range t.length).filter fun f => p.isPrefixOf (t.drop f) by unfold atL; rw [if_neg hpne])
    clear hA hB hl hm ht hp hpne
    go_enter Tryz.func40, Tryz.ntmps40
    go_wp2_with fail
    go_loopw [5, 6] (fun v q wr => ∃ (i : Nat) (acc : List Nat), q = .int .i64 (i : Int) ∧ i ≤ n ∧ Hid (acc = (List.range i).filter fun f => p.isPrefixOf (t.drop f)) ∧ wr.ownsRow w.heap.size 3 1 v (NI acc).length (VI (NI acc)) ∧ Below w.heap.size w wr) (fun _ q _ => n + 1 - (intOf q).toNat)
    case atStart => exact ⟨0, [], rfl, Nat.zero_le _, Lib.hid rfl, World.ownsRow_nil _ _ _ _, Below.refl _ _⟩
    case round =>
      obtain ⟨i, acc, rfl, hi, Hacc, hown, hB⟩ := hrel
      obtain ⟨A9, c9, hv9, _, _, _⟩ := own_sl hown
      subst hv9
      by_cases him : i + m ≤ n
      · have j1 : (i : Int) + (m : Int) ≤ (n : Int) := by omega
        have hpw := prefix_win t p i (by rw [Hl.out, Hm.out]; exact him)
        rw [Hm.out] at hpw
        obtain ⟨bt, ot, rfl, _⟩ := (HA.out).lit (j := 0) (by rw [VY_length, Hl.out]; omega)
        have hwin := sl_cutY (HA.out.below hB) i m
        have hwl : ((t.drop i).take m).length = m := by rw [List.length_take, List.length_drop, Hl.out]; omega
        have hwt : ∀ x ∈ (t.drop i).take m, x < 256 := fun x hx => Ht.out x (List.mem_of_mem_drop (List.mem_of_mem_take hx))
        have hseq := strY_eq hwt Hp.out
        rw [← hpw] at hseq
        have htk := atL_take t p Hpne.out i (by rw [Hl.out]; omega)
        have hcv1 := fun q => conv_str (wr.drewN q) (hwin.drewN q) m (c - i) hwl
        have hcv2 := fun q => conv_str (wr.drewN q) ((HBp.out.below hB).drewN q) m d Hm.out
        have j2 : ((i : Int) + (m : Int)).toNat = i + m := by omega
        have j3 : i + m - i = m := by omega
        have j4 : (c == i) = false := by rw [beq_eq_false_iff_ne]; omega
        have j5 : (i : Int) + (m : Int) ≤ (c : Int) := by omega
        have j6 : (i : Int) ≤ (i : Int) + (m : Int) := by omega
        have j7 : IntKind.i64.wrap ((i : Int) + (m : Int)) = (i : Int) + (m : Int) := IntWalk.i64_in _ (by omega)
        have j8 : (0 : Int) ≤ (i : Int) := by omega
        have Htk := Lib.hid htk
        have Hown := Lib.hid hown
        have HB := Lib.hid hB
        have hbs := hB.size
        have Hal := Lib.hid (show (NI acc).length + 1 ≤ 1099511627776 by
          rw [NI_length, Hacc.out]
          have h1 := List.length_filter_le (fun f => p.isPrefixOf (t.drop f)) (List.range i)
          rw [List.length_range] at h1
          omega)
        have Hseq := Lib.hid hseq
        clear hpw hwin hwl hwt htk hown hB hseq
        generalize strY ((t.drop i).take m) = S1 at *
        generalize strY p = S2 at *
        obtain ⟨D, hD⟩ : ∃ D, p.isPrefixOf (t.drop i) = D := ⟨_, rfl⟩
        have hse := Hseq.out
        rw [hD] at hse
        have Htk2 := Htk.out
        rw [hD] at Htk2
        have Htk3 := Lib.hid Htk2
        clear hD Htk2 Htk Hseq
        cases D with
        | true =>
          go_wp2_with fail
          go_quiet (fail)
          obtain ⟨w9, hw9⟩ : ∃ w9, wr.drewN nq = w9 := ⟨_, rfl⟩
          have hB9 : Below w.heap.size w w9 := by rw [← hw9]; exact HB.out.trans (below_drewN _ _ _)
          have hown9 := own_below Hown.out (below_drewN wr.heap.size wr nq)
          rw [hw9] at hown9 ⊢
          clear hw9 hcv1 hcv2
          have hs9 := hB9.size
          go_wp2_with (at_builtin; refine app_int rfl _ _ rfl w.heap.size _ (NI acc) rfl (World.ownsRow.alloc hown9 _) (some ⟨w9.heap.size, 0, none⟩) 1 1 [(i : Int)] rfl (fun h => by cases h) rfl (sl_blk (heap_alloc_new w9 _)) Hal.out (by simp; omega) ?_; intro v7 w7 hown7 hg7 _)
          have hB7 : Below w.heap.size w w7 := (hB9.alloc hB9.size _).grown hg7 (by simp; omega) (fun k hk => (World.ownsRow.lt hown9 k hk).1)
          have e7 : NI acc ++ [(i : Int)] = NI (acc ++ [i]) := by simp [NI]
          rw [e7] at hown7
          go_roundw
          case rel => exact ⟨i + 1, acc ++ [i], by go_num, by omega, Lib.hid (by rw [Htk3.out, Hacc.out]; simp), hown7, hB7⟩
          case measure => simp [intOf]; omega
        | false =>
          go_wp2_with fail
          go_quiet (fail)
          clear hcv1 hcv2
          go_wp2_with fail
          go_roundw
          case rel => exact ⟨i + 1, acc, by go_num, by omega, Lib.hid (by rw [Htk3.out, Hacc.out]; simp), own_below Hown.out (below_drewN _ _ _), HB.out.trans (below_drewN _ _ _)⟩
          case measure => simp [intOf]; omega
      · have j1 : ¬ (i : Int) + (m : Int) ≤ (n : Int) := by omega
        have hfull := atL_full t p Hpne.out i (by rw [Hl.out, Hm.out]; omega) (by rw [Hl.out]; exact hi)
        have HE := Lib.hid (show acc = atL t p by rw [HaL.out, hfull]; exact Hacc.out)
        have hown' := hown
        clear hfull
        go_wp2_with fail
        go_ret
        obtain ⟨A, c, hv, hS, _, hge⟩ := own_sl hown'
        injection hv with v1 v2 v3
        subst v1
        rw [← HE.out, NI_length]
        exact ⟨_, ⟨_, rfl⟩, hS, hge, hB⟩
end Go.Proofs.YtfjhcgmaignaoaaGreat
