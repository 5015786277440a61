/- haystackref6: closed, Turn. haystackref7: Row, Turned. -/
import Derived.Test.YtphccomhggnccaaGreatRfA
import Derived.Test.YtphccomhggnccaaGreatFmB
import Derived.Test.YtphccomhggnccaaGreatFmE
import Derived.Test.YtphccomhggnccaaGreatFmF
import Derived.Laws.BytesArg
set_option linter.unusedVariables false
set_option linter.unusedSimpArgs false
set_option maxRecDepth 100000
namespace Go.Proofs.YtphccomhggnccaaGreat
open Go.RowKit Fm Rank
theorem closed6_any (w : World) (b off n cap : Nat) (s : List Nat) (hl : s.length = n) (hc : Closed s) (hn : n ≤ 65536) (hS : Sl w (some ⟨b, off, none⟩) (VI (NI s))) :
    Calls Tryz.prog 174 #[.slice (some ⟨b, off, none⟩) n cap] w fun e w' => e = .returned (.bool true) ∧ w = w' := by
  have hpos := hc.pos
  rw [hl] at hpos
  have Hz := Lib.hid hc.zero
  have HS := Lib.hid hS
  obtain ⟨d, hd⟩ : ∃ d, n = d + 1 := ⟨n - 1, by omega⟩
  have hdn : (n : Int) - 1 = (d : Int) := by omega
  have Hl := Lib.hid hl
  have hn0 : (0 : Int) < (n : Int) := by omega
  clear hS hl hc
  go_enter Tryz.func174, Tryz.ntmps174
  go_wp2_with fail
  go_loop [3] (fun i => ∃ k : Nat, k ≤ n ∧ i = .int .i64 (k : Int)) (fun i => n - (intOf i).toNat)
  case atStart => exact ⟨0, Nat.zero_le _, rfl⟩
  case round =>
    obtain ⟨k, hk, rfl⟩ := hrel
    by_cases hkm : k < n
    · have hca := sl_cellN HS.out (i := k) (by rw [Hl.out]; exact hkm)
      have hzk := Hz.out k (by rw [Hl.out]; exact hkm)
      rw [Hl.out] at hzk
      generalize s.getD k 0 = x at *
      by_cases hx : x = 0
      · have hkd : k = d := by have := hzk.1 hx; omega
        subst hx
        subst hkd
        clear hzk
        go_wp2_with fail
        go_round
        case rel => exact ⟨k + 1, by omega, by go_num⟩
        case measure => simp [intOf]; omega
      · have hx1 : ¬ (x : Int) = 0 := by omega
        have hx2 : ¬ (x : Int) < 0 := by omega
        have hkd : ¬ (k : Int) = (d : Int) := by intro e; exact hx (hzk.2 (by omega))
        have y1 : ((x : Int) == 0) = false := by rw [beq_eq_false_iff_ne]; exact hx1
        have y2 : ((k : Int) == (d : Int)) = false := by rw [beq_eq_false_iff_ne]; exact hkd
        have y3 : (k == d) = false := by rw [beq_eq_false_iff_ne]; omega
        have y4 : (x == 0) = false := by rw [beq_eq_false_iff_ne]; exact hx
        clear hzk
        go_wp2_with fail
        exact ⟨⟨k + 1, by omega, by go_num⟩, by simp [intOf]; omega⟩
    · obtain rfl : n = k := by omega
      go_wp2_with fail
      go_ret
      exact ⟨rfl, rfl⟩
set_option maxHeartbeats 4000000 in
theorem row7_any (w : World) (A : Option Addr) (n c : Nat) (ts : List (List Nat)) (hA : RArg w A n c ts) (hm : (rowT ts).length ≤ 65536) :
    Calls Tryz.prog 130 #[.slice A n c] w fun e w' => ∃ b cc, e = .returned (.slice (some ⟨b, 0, none⟩) (rowT ts).length cc) ∧ Sl w' (some ⟨b, 0, none⟩) (VI (NI (rowT ts))) ∧ w.heap.size ≤ b ∧ Below w.heap.size w w' := by
  have HA := Lib.hid hA
  have Hl := Lib.hid hA.len
  have hrl := rowT_length ts
  have Hbm := Lib.hid (show (body ts).length ≤ 65535 by omega)
  have Hrl := Lib.hid hrl
  have hn : n ≤ 65535 := by have := len_le_body ts; have := hA.len; omega
  clear hA hm hrl
  go_enter Tryz.func130, Tryz.ntmps130
  go_wp2_with fail
  go_loopw [3, 4] (fun v q wr => ∃ d : Nat, d ≤ n ∧ q = .int .i64 (d : Int) ∧ wr.ownsRow w.heap.size 3 1 v (NI (body (ts.take d))).length (VI (NI (body (ts.take d)))) ∧ Below w.heap.size w wr) (fun _ q _ => n - (intOf q).toNat)
  case atStart => exact ⟨0, Nat.zero_le _, rfl, World.ownsRow_nil _ _ _ _, Below.refl _ _⟩
  case round =>
    obtain ⟨d, hd, rfl, hown, hB⟩ := hrel
    by_cases hdn : d < n
    · obtain ⟨a, Ad, L, C, rfl, hcell0, hL, hLC, hnil, hS⟩ := HA.out.row d hdn
      have hdl : d < ts.length := by rw [Hl.out]; exact hdn
      have hsu := body_take_succ ts d hdl
      have hle := body_take_le ts (d + 1)
      have hlen := congrArg List.length hsu
      rw [List.length_append, txt_length, hL] at hlen
      have Hbd := Lib.hid (show (body (ts.take d)).length + L + 1 ≤ 65535 by have := Hbm.out; omega)
      have HS := Lib.hid hS
      have HL := Lib.hid hL
      have Hsu := Lib.hid hsu
      have hL6 : L ≤ 65535 := by have := Hbd.out; omega
      have HcA := Lib.hid (fun wx (hx : Below w.heap.size w wx) => (World.cell?_of_block (hx.block _ (World.block_lt_of_cell? w _ hcell0))).trans hcell0)
      clear hsu hle hlen hS hL hnil hcell0
      generalize body (ts.take d) = bb at *
      obtain ⟨bb', hbb'⟩ : ∃ x, body (ts.take (d + 1)) = x := ⟨_, rfl⟩
      rw [hbb'] at Hsu
      have Hb' := Lib.hid hbb'
      clear hbb'
      obtain ⟨t, ht⟩ : ∃ t, ts.getD d [] = t := ⟨_, rfl⟩
      rw [ht] at HS HL Hsu
      have Hlt := Lib.hid (show ∀ k, k < L → t.getD k 0 < 256 from fun k hk => by
        refine HA.out.lt t ?_ _ ?_
        · rw [← ht]; simp only [List.getD, List.getElem?_eq_getElem hdl, Option.getD_some]; exact List.getElem_mem hdl
        · rw [getD_at (by rw [HL.out]; exact hk)]; exact List.getElem_mem _)
      clear ht
      go_wp2_with fail
      go_loopw [3, 5] (fun v q wx => ∃ k : Nat, k ≤ L ∧ q = .int .i64 (k : Int) ∧ wx.ownsRow w.heap.size 3 1 v (NI (bb ++ (t.take k).map (· + 2))).length (VI (NI (bb ++ (t.take k).map (· + 2)))) ∧ Below w.heap.size w wx) (fun _ q _ => L - (intOf q).toNat)
      case atStart => exact ⟨0, Nat.zero_le _, rfl, by simpa using hown, hB⟩
      case round =>
        clear hown hB
        obtain ⟨k, hk, rfl, hown, hB⟩ := hrel
        have hcw := HcA.out _ hB
        obtain ⟨A9, c9, hv9, _, _, _⟩ := own_sl hown
        subst hv9
        have hbs := hB.size
        have Htl := Lib.hid (show (bb ++ (t.take k).map (· + 2)).length = bb.length + k by rw [List.length_append, List.length_map, List.length_take, HL.out, Nat.min_eq_left hk])
        by_cases hkL : k < L
        · obtain ⟨ad, rfl, hcb⟩ := (HS.out.below hB).some (j := k) (by rw [VY_length, HL.out]; exact hkL)
          rw [VY_get _ _ (by rw [HL.out]; exact hkL)] at hcb
          have Htk := Lib.hid (show NI (bb ++ (t.take (k + 1)).map (· + 2)) = NI (bb ++ (t.take k).map (· + 2)) ++ [((t.getD k 0 : Nat) : Int) + 2] by
            rw [List.take_succ_eq_append_getElem (by rw [HL.out]; exact hkL), List.map_append, ← List.append_assoc, getD_at (by rw [HL.out]; exact hkL), NI_append]
            simp [NI])
          have hb256 : t.getD k 0 ≤ 100000 := by have := Hlt.out k hkL; omega
          generalize t.getD k 0 = x at *
          generalize bb ++ (t.take k).map (· + 2) = xs at *
          have hxl : (NI xs).length + 1 ≤ 1099511627776 := by have := Hbd.out; rw [NI_length, Htl.out]; omega
          go_wp2_with (at_builtin; refine app_int rfl _ _ rfl w.heap.size _ (NI xs) rfl (World.ownsRow.alloc hown _) (some ⟨wr.heap.size, 0, none⟩) 1 1 [((x : Int) + 2)] rfl (fun h => by cases h) rfl (sl_blk (heap_alloc_new wr _)) hxl (by simp; omega) ?_; intro v7 w7 hown7 hg7 _)
          have hB7 : Below w.heap.size w w7 := (hB.alloc hB.size _).grown hg7 (by simp; omega) (fun k hk => (World.ownsRow.lt hown k hk).1)
          rw [← Htk.out] at hown7
          exact ⟨⟨k + 1, by omega, by go_num, hown7, hB7⟩, by simp [intOf]; omega⟩
        · obtain rfl : L = k := by omega
          have htk : t.take L = t := List.take_of_length_le (by rw [HL.out]; exact Nat.le_refl _)
          rw [htk] at hown Htl
          rw [htk]
          have Hbb := Lib.hid (show NI (bb ++ t.map (· + 2)) ++ [(1 : Int)] = NI bb' by
            rw [Hsu.out]; simp [txt, NI])
          clear htk
          generalize bb ++ t.map (· + 2) = xs at *
          have hxl : (NI xs).length + 1 ≤ 1099511627776 := by have := Hbd.out; rw [NI_length, Htl.out]; omega
          go_wp2_with (at_builtin; refine app_int rfl _ _ rfl w.heap.size _ (NI xs) rfl (World.ownsRow.alloc hown _) (some ⟨wr.heap.size, 0, none⟩) 1 1 [(1 : Int)] rfl (fun h => by cases h) rfl (sl_blk (heap_alloc_new wr _)) hxl (by simp; omega) ?_; intro v7 w7 hown7 hg7 _)
          have hB7 : Below w.heap.size w w7 := (hB.alloc hB.size _).grown hg7 (by simp; omega) (fun k hk => (World.ownsRow.lt hown k hk).1)
          rw [Hbb.out] at hown7
          go_roundw
          case rel => exact ⟨d + 1, by omega, by go_num, by rw [Hb'.out]; exact hown7, hB7⟩
          case measure => simp [intOf]; omega
    · obtain rfl : n = d := by omega
      have htk : ts.take n = ts := List.take_of_length_le (by rw [Hl.out]; exact Nat.le_refl _)
      rw [htk] at hown
      have Hbb := Lib.hid (show NI (body ts) ++ [(0 : Int)] = NI (rowT ts) by simp [rowT, NI])
      have hxl : (NI (body ts)).length + 1 ≤ 1099511627776 := by have := Hbm.out; rw [NI_length]; omega
      have hbs := hB.size
      obtain ⟨A9, c9, hv9, _, _, _⟩ := own_sl hown
      subst hv9
      clear htk
      generalize body ts = xs at *
      go_wp2_with (at_builtin; refine app_int rfl _ _ rfl w.heap.size _ (NI xs) rfl (World.ownsRow.alloc hown _) (some ⟨wr.heap.size, 0, none⟩) 1 1 [(0 : Int)] rfl (fun h => by cases h) rfl (sl_blk (heap_alloc_new wr _)) hxl (by simp; omega) ?_; intro v7 w7 hown7 hg7 _)
      have hB7 : Below w.heap.size w w7 := (hB.alloc hB.size _).grown hg7 (by simp; omega) (fun k hk => (World.ownsRow.lt hown k hk).1)
      rw [Hbb.out] at hown7
      have hlt7 := World.ownsRow.lt hown7
      rcases hown7.2 with ⟨_, e0⟩ | ⟨g, cap, cur, rfl, hg, _⟩
      · have h9 := rowT_length ts
        rw [NI_length] at e0
        omega
      obtain ⟨A7, c7, hv7, hS7, _, _⟩ := own_sl hown7
      injection hv7 with q1 q2 q3
      subst q1
      go_wp2_with fail
      go_ret
      exact ⟨g, ⟨c7, by rw [NI_length]; rfl⟩, hS7, hg, hB7⟩
end Go.Proofs.YtphccomhggnccaaGreat
namespace Go.Proofs.YtphccomhggnccaaGreat
open Go.RowKit Fm Rank
def atL (t p : List Nat) : List Nat := if p = [] then [] else (List.range t.length).filter fun f => p.isPrefixOf (t.drop f)
def strY (l : List Nat) : ByteArray := strOfNums (l.map fun x : Nat => (x : Int))
theorem strY_eq {a b : List Nat} (ha : ∀ x ∈ a, x < 256) (hb : ∀ x ∈ b, x < 256) : ((strY a).toList == (strY b).toList) = decide (a = b) := by
  rw [ByteArray.toList_eq, ByteArray.toList_eq, Bool.eq_iff_iff, beq_iff_eq, decide_eq_true_eq]
  constructor
  · intro h
    have h1 := congrArg (fun l : List UInt8 => l.map UInt8.toNat) h
    simp only [strY, strOfNums_data, List.map_map] at h1
    have e : ∀ l : List Nat, (∀ x ∈ l, x < 256) → l.map (UInt8.toNat ∘ (fun n : Int => UInt8.ofNat n.toNat) ∘ fun x : Nat => (x : Int)) = l := fun l hl => by
      conv => rhs; rw [← List.map_id l]
      refine List.map_congr_left fun x hx => ?_
      have := hl x hx
      simp [UInt8.toNat_ofNat]
      omega
    rwa [e a ha, e b hb] at h1
  · rintro rfl; rfl
theorem conv_str (w : World) {b off : Nat} {t : List Nat} (h : Sl w (some ⟨b, off, none⟩) (VY t)) (n c : Nat) (hn : t.length = n) :
    (convert 34 9 (.slice (some ⟨b, off, none⟩) n c)).run Tryz.prog w = .ok (.string (strY t)) w := by
  refine run_convert_bytes_arg (P := Tryz.prog) w 34 5 Tryz.underlying34 Tryz.underlying5 b off n c (t.map fun x : Nat => (x : Int)) (by rw [List.length_map]; exact hn) (fun i hi => ?_) 9 Tryz.underlying9
  have h1 := h.cell _ rfl i _ (VY_get t i (by omega))
  rw [show (⟨b, off, none⟩ : Addr).add i = ⟨b, off + i, none⟩ by unfold Addr.add; split <;> simp_all] at h1
  rw [h1]
  have hi' : i < t.length := by omega
  simp [List.getD, List.getElem?_eq_getElem hi']
theorem sl_cutY {w : World} {b off : Nat} {t : List Nat} (h : Sl w (some ⟨b, off, none⟩) (VY t)) (f k : Nat) : Sl w (some ⟨b, off + f, none⟩) (VY ((t.drop f).take k)) :=
  ⟨fun e => (by cases e), fun a ha j u hu => by
    cases ha
    have hj : j < k ∧ f + j < t.length := by
      rcases Nat.lt_or_ge j ((t.drop f).take k).length with h1 | h1
      · rw [List.length_take, List.length_drop] at h1; omega
      · rw [List.getElem?_eq_none (by rw [VY_length]; exact h1)] at hu; cases hu
    have h1 := h.cell _ rfl (f + j) _ (VY_get t (f + j) hj.2)
    rw [show (⟨b, off, none⟩ : Addr).add (f + j) = ⟨b, off + f + j, none⟩ by unfold Addr.add; split <;> simp_all; omega] at h1
    rw [show (⟨b, off + f, none⟩ : Addr).add j = ⟨b, off + f + j, none⟩ by unfold Addr.add; split <;> simp_all, h1, ← hu]
    have hl : j < ((t.drop f).take k).length := by rw [List.length_take, List.length_drop]; omega
    rw [VY_get _ j hl]
    simp only [List.getD]
    rw [List.getElem?_take, if_pos hj.1, List.getElem?_drop]⟩
theorem atL_take (t p : List Nat) (hp : p ≠ []) (i : Nat) (hi : i < t.length) : (List.range (i + 1)).filter (fun f => p.isPrefixOf (t.drop f)) = (List.range i).filter (fun f => p.isPrefixOf (t.drop f)) ++ if p.isPrefixOf (t.drop i) = true then [i] else [] := by
  rw [List.range_succ, List.filter_append]
  congr 1
  simp only [List.filter_cons, List.filter_nil]
theorem atL_full (t p : List Nat) (hp : p ≠ []) (i : Nat) (hi : t.length < i + p.length) (hil : i ≤ t.length) : (List.range t.length).filter (fun f => p.isPrefixOf (t.drop f)) = (List.range i).filter (fun f => p.isPrefixOf (t.drop f)) := by
  rw [show t.length = i + (t.length - i) by omega, List.range_add, List.filter_append]
  have : ((List.range (t.length - i)).map (i + ·)).filter (fun f => p.isPrefixOf (t.drop f)) = [] := by
    rw [List.filter_eq_nil_iff]
    intro f hf h
    obtain ⟨k, _, rfl⟩ := List.mem_map.1 hf
    have := (List.isPrefixOf_iff_prefix.1 h).length_le
    rw [List.length_drop] at this
    omega
  rw [this, List.append_nil]
theorem prefix_win (t p : List Nat) (i : Nat) (h : i + p.length ≤ t.length) : p.isPrefixOf (t.drop i) = decide ((t.drop i).take p.length = p) := by
  rw [Bool.eq_iff_iff, List.isPrefixOf_iff_prefix, decide_eq_true_eq, List.prefix_iff_eq_take]
  exact eq_comm
set_option maxHeartbeats 4000000 in
theorem at7_any (w : World) (A B : Option Addr) (n m c d : Nat) (t p : List Nat) (hA : Sl w A (VY t)) (hB : Sl w B (VY p)) (hl : t.length = n) (hm : p.length = m) (hn : n ≤ 65536) (hm2 : m ≤ 65536) (hc : n ≤ c) (ht : ∀ x ∈ t, x < 256) (hp : ∀ x ∈ p, x < 256) :
    Calls Tryz.prog 63 #[.slice A n c, .slice B m d] w fun e w' => ∃ C cc, e = .returned (.slice C (atL t p).length cc) ∧ Sl w' C (VI (NI (atL t p))) ∧ (∀ a, C = some a → w.heap.size ≤ a.block) ∧ Below w.heap.size w w' := by
  by_cases hp0 : m = 0
  · subst hp0
    have hpe : p = [] := List.eq_nil_of_length_eq_zero hm
    subst hpe
    go_enter Tryz.func63, Tryz.ntmps63
    go_wp2_with fail
    go_loopw [5, 6] (fun v q wr => v = .slice none 0 0 ∧ q = .int .i64 0 ∧ wr = w) (fun _ _ _ => 0)
    case atStart => exact ⟨rfl, rfl, rfl⟩
    case round =>
      obtain ⟨rfl, rfl, rfl⟩ := hrel
      go_wp2_with fail
      go_ret
      exact ⟨none, _, rfl, sl_nil _, (fun a h => by cases h), Below.refl _ _⟩
  · have hpne : p ≠ [] := fun e => hp0 (by rw [← hm, e]; rfl)
    obtain ⟨bp, op, rfl, _⟩ := hB.lit (j := 0) (by rw [VY_length]; omega)
    have HA := Lib.hid hA
    have HBp := Lib.hid hB
    have Hl := Lib.hid hl
    have Hm := Lib.hid hm
    have Ht := Lib.hid ht
    have Hp := Lib.hid hp
    have hm1 : (0 : Int) < (m : Int) := by omega
    have Hpne := Lib.hid hpne
    have HaL := Lib.hid (show atL t p = (List.range t.length).filter fun f => p.isPrefixOf (t.drop f) by unfold atL; rw [if_neg hpne])
    clear hA hB hl hm ht hp hpne
    go_enter Tryz.func63, Tryz.ntmps63
    go_wp2_with fail
    go_loopw [5, 6] (fun v q wr => ∃ (i : Nat) (acc : List Nat), q = .int .i64 (i : Int) ∧ i ≤ n ∧ Hid (acc = (List.range i).filter fun f => p.isPrefixOf (t.drop f)) ∧ wr.ownsRow w.heap.size 3 1 v (NI acc).length (VI (NI acc)) ∧ Below w.heap.size w wr) (fun _ q _ => n + 1 - (intOf q).toNat)
    case atStart => exact ⟨0, [], rfl, Nat.zero_le _, Lib.hid rfl, World.ownsRow_nil _ _ _ _, Below.refl _ _⟩
    case round =>
      obtain ⟨i, acc, rfl, hi, Hacc, hown, hB⟩ := hrel
      obtain ⟨A9, c9, hv9, _, _, _⟩ := own_sl hown
      subst hv9
      by_cases him : i + m ≤ n
      · have j1 : (i : Int) + (m : Int) ≤ (n : Int) := by omega
        have hpw := prefix_win t p i (by rw [Hl.out, Hm.out]; exact him)
        rw [Hm.out] at hpw
        obtain ⟨bt, ot, rfl, _⟩ := (HA.out).lit (j := 0) (by rw [VY_length, Hl.out]; omega)
        have hwin := sl_cutY (HA.out.below hB) i m
        have hwl : ((t.drop i).take m).length = m := by rw [List.length_take, List.length_drop, Hl.out]; omega
        have hwt : ∀ x ∈ (t.drop i).take m, x < 256 := fun x hx => Ht.out x (List.mem_of_mem_drop (List.mem_of_mem_take hx))
        have hseq := strY_eq hwt Hp.out
        rw [← hpw] at hseq
        have htk := atL_take t p Hpne.out i (by rw [Hl.out]; omega)
        have hcv1 := fun q => conv_str (wr.drewN q) (hwin.drewN q) m (c - i) hwl
        have hcv2 := fun q => conv_str (wr.drewN q) ((HBp.out.below hB).drewN q) m d Hm.out
        have j2 : ((i : Int) + (m : Int)).toNat = i + m := by omega
        have j3 : i + m - i = m := by omega
        have j4 : (c == i) = false := by rw [beq_eq_false_iff_ne]; omega
        have j5 : (i : Int) + (m : Int) ≤ (c : Int) := by omega
        have j6 : (i : Int) ≤ (i : Int) + (m : Int) := by omega
        have j7 : IntKind.i64.wrap ((i : Int) + (m : Int)) = (i : Int) + (m : Int) := IntWalk.i64_in _ (by omega)
        have j8 : (0 : Int) ≤ (i : Int) := by omega
        have Htk := Lib.hid htk
        have Hown := Lib.hid hown
        have HB := Lib.hid hB
        have hbs := hB.size
        have Hal := Lib.hid (show (NI acc).length + 1 ≤ 1099511627776 by
          rw [NI_length, Hacc.out]
          have h1 := List.length_filter_le (fun f => p.isPrefixOf (t.drop f)) (List.range i)
          rw [List.length_range] at h1
          omega)
        have Hseq := Lib.hid hseq
        clear hpw hwin hwl hwt htk hown hB hseq
        generalize strY ((t.drop i).take m) = S1 at *
        generalize strY p = S2 at *
        obtain ⟨D, hD⟩ : ∃ D, p.isPrefixOf (t.drop i) = D := ⟨_, rfl⟩
        have hse := Hseq.out
        rw [hD] at hse
        have Htk2 := Htk.out
        rw [hD] at Htk2
        have Htk3 := Lib.hid Htk2
        clear hD Htk2 Htk Hseq
        cases D with
        | true =>
          go_wp2_with fail
          go_quiet (fail)
          obtain ⟨w9, hw9⟩ : ∃ w9, wr.drewN nq = w9 := ⟨_, rfl⟩
          have hB9 : Below w.heap.size w w9 := by rw [← hw9]; exact HB.out.trans (below_drewN _ _ _)
          have hown9 := own_below Hown.out (below_drewN wr.heap.size wr nq)
          rw [hw9] at hown9 ⊢
          clear hw9 hcv1 hcv2
          have hs9 := hB9.size
          go_wp2_with (at_builtin; refine app_int rfl _ _ rfl w.heap.size _ (NI acc) rfl (World.ownsRow.alloc hown9 _) (some ⟨w9.heap.size, 0, none⟩) 1 1 [(i : Int)] rfl (fun h => by cases h) rfl (sl_blk (heap_alloc_new w9 _)) Hal.out (by simp; omega) ?_; intro v7 w7 hown7 hg7 _)
          have hB7 : Below w.heap.size w w7 := (hB9.alloc hB9.size _).grown hg7 (by simp; omega) (fun k hk => (World.ownsRow.lt hown9 k hk).1)
          have e7 : NI acc ++ [(i : Int)] = NI (acc ++ [i]) := by simp [NI]
          rw [e7] at hown7
          go_roundw
          case rel => exact ⟨i + 1, acc ++ [i], by go_num, by omega, Lib.hid (by rw [Htk3.out, Hacc.out]; simp), hown7, hB7⟩
          case measure => simp [intOf]; omega
        | false =>
          go_wp2_with fail
          go_quiet (fail)
          clear hcv1 hcv2
          go_wp2_with fail
          go_roundw
          case rel => exact ⟨i + 1, acc, by go_num, by omega, Lib.hid (by rw [Htk3.out, Hacc.out]; simp), own_below Hown.out (below_drewN _ _ _), HB.out.trans (below_drewN _ _ _)⟩
          case measure => simp [intOf]; omega
      · have j1 : ¬ (i : Int) + (m : Int) ≤ (n : Int) := by omega
        have hfull := atL_full t p Hpne.out i (by rw [Hl.out, Hm.out]; omega) (by rw [Hl.out]; exact hi)
        have HE := Lib.hid (show acc = atL t p by rw [HaL.out, hfull]; exact Hacc.out)
        have hown' := hown
        clear hfull
        go_wp2_with fail
        go_ret
        obtain ⟨A, c, hv, hS, _, hge⟩ := own_sl hown'
        injection hv with v1 v2 v3
        subst v1
        rw [← HE.out, NI_length]
        exact ⟨_, ⟨_, rfl⟩, hS, hge, hB⟩
end Go.Proofs.YtphccomhggnccaaGreat
namespace Go.Proofs.YtphccomhggnccaaGreat
open Go.RowKit Fm Rank
theorem locF_append (P : List Nat) (a b : List (List Nat)) : ∀ d0, locF d0 P (a ++ b) = locF d0 P a ++ locF (d0 + a.length) P b := by
  induction a with
  | nil => intro d0; simp [locF]
  | cons t a ih => intro d0; simp only [List.cons_append, locF, ih, List.length_cons, List.append_assoc]; rw [show d0 + 1 + a.length = d0 + (a.length + 1) by omega]
theorem locF_length (P : List Nat) (ts : List (List Nat)) : ∀ d0, (locF d0 P ts).length ≤ (body ts).length := by
  induction ts with
  | nil => intro d0; simp [locF]
  | cons t a ih =>
    intro d0
    rw [locF, List.length_append, List.length_map, body_cons, List.length_append, txt_length]
    have h1 := List.length_filter_le (fun f => P.isPrefixOf (t.drop f)) (List.range t.length)
    rw [List.length_range] at h1
    have := ih (d0 + 1)
    omega
def fnd7 (ts : List (List Nat)) (p : List Nat) (d : Nat) : List (Nat × Nat) := if p = [] then [] else locF 0 p (ts.take d)
theorem fnd7_succ (ts : List (List Nat)) (p : List Nat) (d : Nat) (hd : d < ts.length) : fnd7 ts p (d + 1) = fnd7 ts p d ++ (atL (ts.getD d []) p).map fun f => (d, f) := by
  unfold fnd7 atL
  by_cases hp : p = []
  · simp [hp]
  · rw [if_neg hp, if_neg hp, if_neg hp, List.take_succ_eq_append_getElem hd, locF_append]
    have e : ts.getD d [] = ts[d] := by simp [List.getD, List.getElem?_eq_getElem hd]
    rw [e, List.length_take, Nat.min_eq_left (by omega), Nat.zero_add]
    simp [locF]
theorem fnd7_all (ts : List (List Nat)) (p : List Nat) : fnd7 ts p ts.length = found ts p := by
  unfold fnd7 found
  rw [List.take_length]
theorem fnd7_length (ts : List (List Nat)) (p : List Nat) (d : Nat) : (fnd7 ts p d).length ≤ (body (ts.take d)).length := by
  unfold fnd7
  split
  · simp
  · exact locF_length p _ 0
theorem IH_append (a b : List (Nat × Nat)) : IH (a ++ b) = IH a ++ IH b := by simp [IH]
theorem rarg_lt {w : World} {A : Option Addr} {n c : Nat} {ts : List (List Nat)} (h : RArg w A n c ts) (d : Nat) : ∀ x ∈ ts.getD d [], x < 256 := by
  intro x hx
  rcases Nat.lt_or_ge d ts.length with hd | hd
  · have e : ts.getD d [] = ts[d] := by simp [List.getD, List.getElem?_eq_getElem hd]
    rw [e] at hx
    exact h.lt _ (List.getElem_mem hd) x hx
  · simp [List.getD, List.getElem?_eq_none hd] at hx
theorem app_hit_mv {w : World} {ops : Array Oper} {rest : List Oper} {o : Oper} {a : Act} {Q : Exit → Act → World → Prop} (hgd : o.guard = none) (s x : Operand)
    (ho : o.op = .call { callee := .builtin .append, args := #[s, x], argTypes := #[49, 49] })
    (base : Nat) (v : Value) (xs : List (Int × Int)) (hs : a.eval s = v) (hown : w.ownsRow base 55 2 v xs.length (VH xs))
    (ad : Addr) (m c : Nat) (news : List (Int × Int)) (hx : a.eval x = .slice (some ad) m c) (hl : news.length = m) (hnews : Sl w (some ad) (VH news))
    (h63 : xs.length + m ≤ 1099511627776) (hbase : base ≤ w.heap.size)
    (h : ∀ v' w', w'.ownsRow base 55 2 v' (xs ++ news).length (VH (xs ++ news)) → w.grownBy w' v.ownBlock → (v'.ownBlock = v.ownBlock ∨ v'.ownBlock = some w.heap.size) → wpList Tryz.prog ops Q rest (a.put o.dst v') w') : wpList Tryz.prog ops Q (o :: rest) a w := by
  obtain ⟨i0, hi, hz0, hz1, hz2⟩ := info_parts info_hit
  refine wpList_append_own_at w hgd s x 49 ho base 55 i0 (.agg #[.int .i64 0, .int .i64 0]) 2 16 Tryz.underlying49 hi hz0 hz1 hz2 rfl (by decide) v xs.length (VH xs) hs hown ad m c (VH news) hx (by rw [VH_length]; omega) (hnews.cell ad rfl) (VH_one _) (by unfold maxLen; omega) (by omega) hbase ?_
  intro v' w' h1 h2 _ h4
  refine h v' w' ?_ h2 h4
  rw [List.length_append, hl, VH_append]
  exact h1
def ApartB (v : Value) (X : Option Addr) : Prop := ∀ k, v.ownBlock = some k → ∀ a, X = some a → a.block ≠ k
theorem ApartB.next {v v' : Value} {X : Option Addr} {s : Nat} (h : ApartB v X) (hv : v'.ownBlock = v.ownBlock ∨ v'.ownBlock = some s) (hX : ∀ a, X = some a → a.block < s) : ApartB v' X := fun k hk a ha => by
  rcases hv with e | e
  · exact h k (e ▸ hk) a ha
  · rw [hk] at e
    injection e with e
    have := hX a ha
    omega
theorem Sl.apart {w w' : World} {X : Option Addr} {xs : List Value} {v : Value} (h : Sl w X xs) (hg : w.grownBy w' v.ownBlock) (hn : ApartB v X) : Sl w' X xs :=
  h.grown hg fun a ha _ e => hn a.block e.symm a ha rfl
set_option maxHeartbeats 8000000 in
theorem locate7_any (w : World) (A B : Option Addr) (n c m cp : Nat) (ts : List (List Nat)) (p : List Nat) (hA : RArg w A n c ts) (hB : Sl w B (VY p)) (hm : p.length = m) (hm2 : m ≤ 65536) (hp : ∀ x ∈ p, x < 256) (hb : (body ts).length ≤ 65535) :
    Calls Tryz.prog 21 #[.slice A n c, .slice B m cp] w (Hits w (IH (found ts p))) := by
  have HA := Lib.hid hA
  have Hl := Lib.hid hA.len
  have HBp := Lib.hid hB
  have Hm := Lib.hid hm
  have Hp := Lib.hid hp
  have Hb := Lib.hid hb
  have hn : n ≤ 65535 := by have := len_le_body ts; have := hA.len; omega
  have hall := fnd7_all ts p
  rw [hA.len] at hall
  have Hall := Lib.hid hall
  clear hA hB hm hp hb hall
  go_enter Tryz.func21, Tryz.ntmps21
  go_wp2_with fail
  go_loopw [5, 6] (fun v q wr => ∃ (d : Nat) (acc : List (Nat × Nat)), d ≤ n ∧ q = .int .i64 (d : Int) ∧ Hid (acc = fnd7 ts p d) ∧ wr.ownsRow w.heap.size 55 2 v (IH acc).length (VH (IH acc)) ∧ Below w.heap.size w wr) (fun _ q _ => n - (intOf q).toNat)
  case atStart => exact ⟨0, [], Nat.zero_le _, rfl, Lib.hid (by simp [fnd7, locF]), World.ownsRow_nil _ _ _ _, Below.refl _ _⟩
  case round =>
    obtain ⟨d, acc, hd, rfl, Hacc, hown, hB⟩ := hrel
    obtain ⟨A9, c9, hv9⟩ := own_form2 hown
    subst hv9
    by_cases hdn : d < n
    · have hdl : d < ts.length := by rw [Hl.out]; exact hdn
      obtain ⟨a, Ad, L, C, rfl, hcell0, hL, hLC, hnil, hS⟩ := HA.out.row d hdn
      have hcw := (World.cell?_of_block (hB.block _ (World.block_lt_of_cell? w _ hcell0))).trans hcell0
      have hsu := body_take_succ ts d hdl
      have hle := body_take_le ts (d + 1)
      have hlen := congrArg List.length hsu
      rw [List.length_append, txt_length, hL] at hlen
      have hfl := fnd7_length ts p d
      have Hlim := Lib.hid (show acc.length + L + 1 ≤ 65535 by have := Hb.out; rw [Hacc.out]; omega)
      have HAt := Lib.hid (at7_any wr Ad B L m C cp (ts.getD d []) p (hS.below hB) (HBp.out.below hB) hL Hm.out (by have := Hlim.out; omega) hm2 hLC (rarg_lt HA.out d) Hp.out)
      have Hsucc := Lib.hid (fnd7_succ ts p d hdl)
      have hatl : (atL (ts.getD d []) p).length ≤ L := by
        unfold atL
        split
        · simp
        · have := List.length_filter_le (fun f => p.isPrefixOf ((ts.getD d []).drop f)) (List.range (ts.getD d []).length)
          rw [List.length_range] at this
          rw [← hL]; exact this
      have Hatl := Lib.hid hatl
      have Hown := Lib.hid hown
      have HB := Lib.hid hB
      clear hsu hle hlen hfl hL hnil hS hatl hown hB hcell0
      generalize atL (ts.getD d []) p = xs at *
      go_wp2_with fail
      go_at_call 63
      refine HAt.out.mono ?_
      rintro e w1 ⟨X, cx, rfl, hSx, hge, hB1⟩
      have HSx := Lib.hid hSx
      have HB1 := Lib.hid (below_step HB.out hB1)
      have hown1 := own_below Hown.out hB1
      have hxl : xs.length ≤ 65535 := by have := Hatl.out; have := Hlim.out; omega
      have hap : ApartB (.slice A9 (IH acc).length c9) X := fun k hk a ha e => by
        have h1 := World.ownsRow.lt Hown.out k hk
        have h2 := hge a ha
        omega
      have HXb := Lib.hid (show ∀ a, X = some a → xs ≠ [] → a.block < w1.heap.size from fun a ha hne => HSx.out.lt a ha (fun e => hne (by cases xs with | nil => rfl | cons => simp [VI, NI] at e)))
      clear HAt hSx hB1 hge
      go_wp2_with fail
      go_loopw [5, 8] (fun v q wr => ∃ i : Nat, i ≤ xs.length ∧ q = .int .i64 (i : Int) ∧ wr.ownsRow w.heap.size 55 2 v (IH (acc ++ (xs.take i).map fun f => (d, f))).length (VH (IH (acc ++ (xs.take i).map fun f => (d, f)))) ∧ Sl wr X (VI (NI xs)) ∧ ApartB v X ∧ w1.heap.size ≤ wr.heap.size ∧ Below w.heap.size w wr) (fun _ q _ => xs.length - (intOf q).toNat)
      case atStart => exact ⟨0, Nat.zero_le _, rfl, by simpa using hown1, HSx.out, by simpa using hap, Nat.le_refl _, HB1.out⟩
      case round =>
        clear hown1 hap
        obtain ⟨i, hi, rfl, hown, hSX, hap, hsz, hB⟩ := hrel
        obtain ⟨A8, c8, hv8⟩ := own_form2 hown
        subst hv8
        by_cases hil : i < xs.length
        · obtain ⟨bx, ox, hX, _⟩ := hSX.lit (j := 0) (by rw [VI_length, NI_length]; omega)
          subst hX
          have hcx := sl_cellN hSX (i := i) hil
          have hxb : bx < w1.heap.size := HXb.out _ rfl (fun e => by rw [e] at hil; exact absurd hil (Nat.not_lt_zero _))
          have Htk := Lib.hid (show IH (acc ++ (xs.take (i + 1)).map fun f => (d, f)) = IH (acc ++ (xs.take i).map fun f => (d, f)) ++ [((d : Int), ((xs.getD i 0 : Nat) : Int))] by
            rw [List.take_succ_eq_append_getElem hil, List.map_append, ← List.append_assoc, getD_at hil, IH_append]
            rfl)
          have hal : (IH (acc ++ (xs.take i).map fun f => (d, f))).length + 1 ≤ 1099511627776 := by
            rw [IH_length, List.length_append, List.length_map, List.length_take]
            have := Hlim.out
            omega
          have j1 : (i : Int) < (xs.length : Int) := by omega
          have j2 : (0 : Int) ≤ (i : Int) := by omega
          have hbs := hB.size
          clear hil
          generalize xs.getD i 0 = f at *
          generalize IH (acc ++ (xs.take i).map fun f => (d, f)) = ys at *
          go_wp2_with (at_builtin; refine app_hit_mv rfl _ _ rfl w.heap.size _ ys rfl (World.ownsRow.alloc hown _) ⟨wr.heap.size, 0, none⟩ 1 1 [((d : Int), (f : Int))] rfl rfl (sl_blk (heap_alloc_new wr _)) hal (by simp; omega) ?_; intro v6 w6 hown6 hg6 hmv6)
          have hB6 : Below w.heap.size w w6 := (hB.alloc hB.size _).grown hg6 (by simp; omega) (fun k hk => (World.ownsRow.lt hown k hk).1)
          have hSX6 : Sl w6 (some ⟨bx, ox, none⟩) (VI (NI xs)) := (hSX.below ((Below.refl _ wr).alloc (Nat.le_refl _) _)).apart hg6 hap
          have hap6 : ApartB v6 (some ⟨bx, ox, none⟩) := hap.next hmv6 (fun a ha => by cases ha; simp; omega)
          have hsz6 := hg6.size
          simp at hsz6
          rw [← Htk.out] at hown6
          go_roundw
          case rel => exact ⟨i + 1, by omega, by go_num, hown6, hSX6, hap6, by omega, hB6⟩
          case measure => simp [intOf]; omega
        · obtain rfl : xs.length = i := by omega
          rw [List.take_length] at hown
          have Hac := Lib.hid (show acc ++ (xs.map fun f => (d, f)) = fnd7 ts p (d + 1) by rw [Hsucc.out, Hacc.out])
          rw [Hac.out] at hown
          rw [List.take_length, Hac.out]
          go_wp2_with fail
          go_roundw
          case rel => exact ⟨d + 1, fnd7 ts p (d + 1), by omega, by go_num, Lib.hid rfl, hown, hB⟩
          case measure => simp [intOf]; omega
    · obtain rfl : n = d := by omega
      have HE := Lib.hid (show acc = found ts p by rw [Hacc.out, Hall.out])
      have hSl : Sl wr A9 (VH (IH acc)) := by
        rcases hown.2 with ⟨e1, e2⟩ | ⟨g, cap, cur, e1, _, _⟩
        · injection e1 with q1 q2 q3
          subst q1
          have h0 : (IH acc) = [] := List.eq_nil_of_length_eq_zero q2
          rw [h0]; exact sl_nil _
        · injection e1 with q1 q2 q3
          subst q1
          exact ⟨fun h => (by cases h), fun a ha j u hu => by cases ha; exact hown.cells (g := g) rfl j u hu⟩
      go_wp2_with fail
      go_ret
      rw [← HE.out]
      exact ⟨_, _, rfl, hSl, hB⟩
end Go.Proofs.YtphccomhggnccaaGreat
namespace Go.Proofs.YtphccomhggnccaaGreat
open Go.RowKit Fm Rank
set_option maxHeartbeats 4000000 in
theorem turn6F_any (w : World) (b off n cap : Nat) (s : List Nat) (hl : s.length = n) (hc : Closed s) (hn : n ≤ 65536) (hS : Sl w (some ⟨b, off, none⟩) (VI (NI s))) :
    Calls Tryz.prog 129 #[.slice (some ⟨b, off, none⟩) n cap] w fun e w' => ∃ A c sa, e = .returned (.tuple #[.slice A n c, .int .i64 0]) ∧ IsSA s sa ∧ Sl w' A (VI (NI (trn s sa))) ∧ (∀ a, A = some a → w.heap.size ≤ a.block) ∧ Below w.heap.size w w' := by
  have hpos := hc.pos
  rw [hl] at hpos
  have HC := Lib.hid (closed6_any w b off n cap s hl hc hn hS)
  have HA := Lib.hid (array5_any w b off n cap s hl hpos hn hS)
  have HS := Lib.hid hS
  have Hl := Lib.hid hl
  have hbl := World.block_lt_of_cell? w _ (sl_cellN hS (i := 0) (by omega))
  clear hS hl hc
  go_enter Tryz.func129, Tryz.ntmps129
  go_wp2_with fail
  go_at_call 174
  refine HC.out.mono ?_
  rintro e w' ⟨rfl, rfl⟩
  clear HC
  go_wp2_with fail
  go_at_call 175
  refine HA.out.mono ?_
  rintro e w1 ⟨A1, c1, sa, rfl, hsa, hS1, hB1⟩
  have HSA := Lib.hid hsa
  have hsal := hsa.length
  rw [Hl.out] at hsal
  obtain ⟨b1, o1, rfl, _⟩ := hS1.lit (j := 0) (by rw [VI_length, NI_length]; omega)
  have HS1 := Lib.hid hS1
  have HB1 := Lib.hid hB1
  have hmk := make_int n (by omega) w1
  have hs1 := hB1.size
  have Hsal := Lib.hid hsal
  clear hsa hS1 hB1 HA hsal
  go_wp2_with fail
  clear hmk
  have hN0 : IB (w1.alloc (.cells (I (List.replicate n 0)) 3)) w1.heap.size (half (NI (trn s sa)) 0) := by
    have := heap_alloc_new w1 (.cells (I (List.replicate n 0)) 3)
    have htl := trn_length HSA.out
    rw [half_zero, NI_length, htl, Hl.out]
    exact this
  go_loopw [7] (fun q wr => ∃ j : Nat, j ≤ n ∧ q = .int .i64 (j : Int) ∧ IB wr w1.heap.size (half (NI (trn s sa)) j) ∧ Below w1.heap.size w1 wr) (fun q _ => n - (intOf q).toNat)
  case atStart => exact ⟨0, Nat.zero_le _, rfl, hN0, (Below.refl _ w1).alloc (Nat.le_refl _) _⟩
  case round =>
    clear hN0
    obtain ⟨j, hj, rfl, hN, hB⟩ := hrel
    have htl := trn_length HSA.out
    rw [Hl.out] at htl
    by_cases hlt : j < n
    · have hlc : (NI (trn s sa)).length = n := by rw [NI_length, htl]
      have hc := hN.cell (i := j) (by rw [half_length _ _ (by omega)]; omega)
      have hfr := hN.free j
      have hs := sl_cellN (HS1.out.below hB) (i := j) (by rw [Hsal.out]; exact hlt)
      have hpl : sa.getD j 0 < n := by
        have h9 := HSA.out.lt (List.getElem_mem (show j < sa.length by rw [Hsal.out]; exact hlt))
        rw [Hl.out] at h9
        rwa [getD_at (by rw [Hsal.out]; exact hlt)]
      have hca := sl_cellN ((HS.out.below HB1.out).below hB) (i := (sa.getD j 0 + n - 1) % n) (by rw [Hl.out]; exact Nat.mod_lt _ hpos)
      have hset := half_set (NI (trn s sa)) j (by omega)
      have hval : (NI (trn s sa)).getD j 0 = ((s.getD ((sa.getD j 0 + n - 1) % n) 0 : Nat) : Int) := by
        rw [NI_getD _ _ (by rw [htl]; exact hlt)]
        have := trn_get (s := s) (sa := sa) (i := j) (p := sa.getD j 0) (by rw [getD_at (by rw [Hsal.out]; exact hlt)]; exact List.getElem?_eq_getElem _)
        simp only [List.getD, this, Option.getD_some]
        unfold ahd
        rw [Hl.out]
        rfl
      rw [hval] at hset
      have Hset := Lib.hid hset
      have HN := Lib.hid hN
      have HB := Lib.hid hB
      clear hset hval hN hB hlc htl
      generalize (half (NI (trn s sa)) j).getD j 0 = y at *
      generalize sa.getD j 0 = p at *
      have hrem : ((p : Int) + (n : Int) - 1).tmod (n : Int) = (((p + n - 1) % n : Nat) : Int) := by
        rw [show (p : Int) + (n : Int) - 1 = ((p + n - 1 : Nat) : Int) by omega, Int.ofNat_tmod]
      have htn : (p + n - 1) % n < n := Nat.mod_lt _ hpos
      generalize (p + n - 1) % n = t at *
      generalize s.getD t 0 = x at *
      go_wp2_with fail
      refine ⟨⟨j + 1, by omega, by go_num, ?_, below_cell HB.out (Nat.le_refl _) _ _ rfl⟩, by simp [intOf]; omega⟩
      rw [← Hset.out]
      exact HN.out.set _ _
    · obtain rfl : n = j := by omega
      have e1 : half (NI (trn s sa)) n = NI (trn s sa) := by
        have := half_all (NI (trn s sa)); rwa [NI_length, htl] at this
      rw [e1] at hN
      go_wp2_with fail
      go_ret2
      exact ⟨_, _, sa, rfl, HSA.out, sl_IB hN, fun a ha => by cases ha; exact HB1.out.size, below_step HB1.out hB⟩
theorem turned7F_any (w : World) (A : Option Addr) (n c : Nat) (ts : List (List Nat)) (hA : RArg w A n c ts) (hm : (rowT ts).length ≤ 65536) :
    Calls Tryz.prog 91 #[.slice A n c] w fun e w' => ∃ B cc sa, e = .returned (.slice B (rowT ts).length cc) ∧ IsSA (rowT ts) sa ∧ Sl w' B (VI (NI (trn (rowT ts) sa))) ∧ (∀ a, B = some a → w.heap.size ≤ a.block) ∧ Below w.heap.size w w' := by
  have HR := Lib.hid (row7_any w A n c ts hA hm)
  clear hA
  go_enter Tryz.func91, Tryz.ntmps91
  go_wp2_with fail
  go_at_call 130
  refine HR.out.mono ?_
  rintro e w1 ⟨b, cc, rfl, hS, hb, hB1⟩
  have HT := Lib.hid (turn6F_any w1 b 0 (rowT ts).length cc (rowT ts) rfl (rowT_closed ts) hm hS)
  have HB1 := Lib.hid hB1
  clear hS hB1 HR
  go_wp2_with fail
  go_at_call 129
  refine HT.out.mono ?_
  rintro e w2 ⟨B, c2, sa, rfl, hsa, hS2, hfr, hB2⟩
  have HFr := Lib.hid (fun a ha => Nat.le_trans HB1.out.size (hfr a ha))
  have HSA := Lib.hid hsa
  have HS2 := Lib.hid hS2
  have HB2 := Lib.hid (below_step HB1.out hB2)
  clear hsa hS2 hB2 HT hfr
  go_wp2_with fail
  go_ret
  exact ⟨_, _, sa, rfl, HSA.out, HS2.out, HFr.out, HB2.out⟩
end Go.Proofs.YtphccomhggnccaaGreat
