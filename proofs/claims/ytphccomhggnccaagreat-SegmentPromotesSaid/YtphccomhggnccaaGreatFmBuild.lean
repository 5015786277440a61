/- fm: Build. -/
import Derived.Test.YtphccomhggnccaaGreatFmMade
import Derived.Test.YtphccomhggnccaaGreatFmBackw
namespace Go.Proofs.YtphccomhggnccaaGreat
set_option linter.unusedVariables false
set_option linter.unusedSimpArgs false
set_option maxRecDepth 100000
open Go.RowKit Fm Rank

theorem IdxM.mono {w : World} {base base' x : Nat} {s sa : List Nat} (h : IdxM w base x s sa) (hb : base' ≤ base) : IdxM w base' x s sa := by
  obtain ⟨h1, h2, h3, h4, h5, tr, g3, y, yc, mb, pb, pg, k, rb, r, b1, b2, b3, b4, b5, c0, c1, c2, c3, c4, c5, c6, c7, c8⟩ := h
  exact ⟨by omega, h2, h3, h4, h5, tr, g3, y, yc, mb, pb, pg, k, rb, r, by omega, by omega, by omega, by omega, by omega, c0, c1.mono hb, c2, c3, c4, c5.mono hb, c6, c7, c8⟩
/-- a slice of rows of bytes that is read -/
structure RArg (w : World) (A : Option Addr) (n c : Nat) (ts : List (List Nat)) : Prop where
  len : ts.length = n
  nm : n ≤ 9223372036854775807
  lm : ∀ t ∈ ts, t.length ≤ 9223372036854775807
  lt : ∀ t ∈ ts, ∀ b ∈ t, b < 256
  row : ∀ d, d < n → ∃ a Ad L C, A = some a ∧ w.cell? (a.add d) = some (.slice Ad L C) ∧ (ts.getD d []).length = L ∧ L ≤ C ∧ (Ad = none → C = 0) ∧ Sl w Ad (VY (ts.getD d []))
theorem RArg.below {w w' : World} {A : Option Addr} {n c : Nat} {ts : List (List Nat)} (h : RArg w A n c ts) (hb : Below w.heap.size w w') : RArg w' A n c ts :=
  ⟨h.len, h.nm, h.lm, h.lt, fun d hd => by
    obtain ⟨a, Ad, L, C, h1, h2, h3, h4, h5, h6⟩ := h.row d hd
    exact ⟨a, Ad, L, C, h1, (World.cell?_of_block (hb.block _ (World.block_lt_of_cell? w _ h2))).trans h2, h3, h4, h5, h6.below hb⟩⟩
theorem body_take_succ (ts : List (List Nat)) (d : Nat) (h : d < ts.length) : body (ts.take (d + 1)) = body (ts.take d) ++ txt (ts.getD d []) := by
  rw [List.take_succ_eq_append_getElem h, body_append]
  congr 1
  simp [body, List.getD, List.getElem?_eq_getElem h]
theorem body_take_le (ts : List (List Nat)) (d : Nat) : (body (ts.take d)).length ≤ (body ts).length := by
  conv => rhs; rw [← List.take_append_drop d ts, body_append, List.length_append]
  omega
theorem rowT_lt (ts : List (List Nat)) (h : ∀ t ∈ ts, ∀ b ∈ t, b < 256) : ∀ x ∈ rowT ts, x < 512 := by
  intro x hx
  unfold rowT body at hx
  rcases List.mem_append.1 hx with hx | hx
  · obtain ⟨t, ht, hx⟩ := List.mem_flatMap.1 hx
    unfold txt at hx
    rcases List.mem_append.1 hx with hx | hx
    · obtain ⟨b, hb, rfl⟩ := List.mem_map.1 hx
      have := h t ht b hb
      omega
    · have : x = 1 := by simpa using hx
      omega
  · have : x = 0 := by simpa using hx
    omega
theorem len_le_body (ts : List (List Nat)) : ts.length ≤ (body ts).length := by
  induction ts with
  | nil => exact Nat.zero_le _
  | cons t r ih => rw [body_cons, List.length_append, txt_length, List.length_cons]; omega
/-- what Build hands back -/
def BuiltX (w : World) (ts : List (List Nat)) (e : Ending) (w' : World) : Prop :=
  ∃ (x : Nat) (sa : List Nat), e = .returned (.tuple #[.pointer (some ⟨x, 0, none⟩), .int .i64 0]) ∧ IdxM w' w.heap.size x (rowT ts) sa ∧ Below w.heap.size w w'
def TooLong (w : World) (e : Ending) (w' : World) : Prop := e = .returned (.tuple #[.pointer none, .int .i64 5]) ∧ Below w.heap.size w w'

set_option maxHeartbeats 4000000 in
theorem build_fm (w : World) (A : Option Addr) (n c : Nat) (ts : List (List Nat)) (hA : RArg w A n c ts) (hn : n ≤ 1099511627776) (hm : ∀ t ∈ ts, t.length ≤ 1099511627776) :
    Calls Tryz.prog 53 #[.slice A n c] w fun e w' => ((rowT ts).length ≤ 65536 ∧ BuiltX w ts e w') ∨ (65536 < (rowT ts).length ∧ TooLong w e w') := by
  have HA := Lib.hid hA
  have Hl := Lib.hid hA.len
  have Hlt := Lib.hid hA.lt
  have Hm := Lib.hid hm
  clear hA hm
  have hnl : n = ts.length := Hl.out.symm
  have hrl := rowT_length ts
  have Hrl := Lib.hid hrl
  have Hnl := Lib.hid hnl
  clear hrl hnl
  go_enter Tryz.func53, Tryz.ntmps53
  go_wp2_with fail
  go_loopw [4, 6, 8, 11] (fun v s6 s8 q wr => ∃ d : Nat, d ≤ n ∧ q = .int .i64 (d : Int) ∧ wr.ownsRow w.heap.size 3 1 v (body (ts.take d)).length (VI (NI (body (ts.take d)))) ∧ (body (ts.take d)).length + 1 ≤ 65536 ∧ Below w.heap.size w wr) (fun _ _ _ q _ => n - (intOf q).toNat)
  case atStart => exact ⟨0, Nat.zero_le _, rfl, World.ownsRow_nil _ _ _ _, by simp [body], Below.refl _ _⟩
  case round =>
    obtain ⟨d, hd, rfl, hown, hbl, hB⟩ := hrel
    obtain ⟨wo, rfl⟩ : ∃ wo : World, wo = wr := ⟨_, rfl⟩
    obtain ⟨A4, c4, hv4, _, _, _⟩ := own_sl hown
    subst hv4
    by_cases hdn : d < n
    · obtain ⟨a, Ad, L, C, rfl, hcell0, hL, hLC, hnil, hS⟩ := HA.out.row d hdn
      have hcell := (World.cell?_of_block (hB.block _ (World.block_lt_of_cell? w _ hcell0))).trans hcell0
      clear hcell0
      have hLm : L ≤ 1099511627776 := by
        rw [← hL]
        refine Hm.out _ ?_
        have hdl : d < ts.length := by rw [Hl.out]; exact hdn
        simp only [List.getD, List.getElem?_eq_getElem hdl, Option.getD_some]
        exact List.getElem_mem hdl
      have hsu := body_take_succ ts d (by rw [Hl.out]; exact hdn)
      have hsul := congrArg List.length hsu
      rw [List.length_append, txt_length, hL] at hsul
      have hbt := body_take_le ts (d + 1)
      have Hsu := Lib.hid hsu
      have Hsul := Lib.hid hsul
      have HS := Lib.hid hS
      have HL := Lib.hid hL
      have Hown := Lib.hid hown
      have HB := Lib.hid hB
      clear hsu hS hL hown hB hnil
      generalize hbb : body (ts.take d) = bb at *
      clear hbb
      by_cases hlong : 65536 < bb.length + L + 2
      · have e1 : (65536 : Int) < (bb.length : Int) + (L : Int) + 2 := by omega
        clear hsul
        go_wp2_with fail
        go_ret2
        exact .inr ⟨by have := Hrl.out; have := Hsul.out; omega, rfl, HB.out⟩
      · have e1 : ¬ (65536 : Int) < (bb.length : Int) + (L : Int) + 2 := by omega
        have hbs := HB.out.size
        clear hsul hbt
        go_wp2_with fail
        go_loopw [4, 8, 24] (fun v s8 q wr => ∃ k : Nat, k ≤ L ∧ q = .int .i64 (k : Int) ∧ wr.ownsRow w.heap.size 3 1 v (bb.length + k) (VI (NI (bb ++ ((ts.getD d []).take k).map (· + 2)))) ∧ Below w.heap.size w wr) (fun _ _ q _ => L - (intOf q).toNat)
        case atStart => exact ⟨0, Nat.zero_le _, rfl, by simpa using Hown.out, HB.out⟩
        case round =>
          obtain ⟨k, hk, rfl, hown, hB2⟩ := hrel
          obtain ⟨A5, c5, hv5, _, _, _⟩ := own_sl hown
          subst hv5
          have hL' := HL.out
          by_cases hkL : k < L
          · obtain ⟨ad, rfl, hcb⟩ := (HS.out.below hB2).some (j := k) (by rw [VY_length, hL']; exact hkL)
            rw [VY_get _ _ (by rw [hL']; exact hkL)] at hcb
            have hb256 : (ts.getD d []).getD k 0 < 256 := by
              have hdl : d < ts.length := by rw [Hl.out]; exact hdn
              refine Hlt.out (ts.getD d []) ?_ _ ?_
              · simp only [List.getD, List.getElem?_eq_getElem hdl, Option.getD_some]; exact List.getElem_mem hdl
              · rw [getD_at (by rw [hL']; exact hkL)]; exact List.getElem_mem _
            have Htk := Lib.hid (show bb ++ ((ts.getD d []).take (k + 1)).map (· + 2) = (bb ++ ((ts.getD d []).take k).map (· + 2)) ++ [(ts.getD d []).getD k 0 + 2] by
              rw [List.take_succ_eq_append_getElem (by rw [hL']; exact hkL), List.map_append, ← List.append_assoc, getD_at (by rw [hL']; exact hkL)]
              rfl)
            have hlen5 : (bb ++ ((ts.getD d []).take k).map (· + 2)).length = bb.length + k := by
              rw [List.length_append, List.length_map, List.length_take, hL', Nat.min_eq_left hk]
            have Hown2 := Lib.hid hown
            have HB2 := Lib.hid hB2
            have Hlen5 := Lib.hid hlen5
            have hbl2 := hB2.size
            clear hown hB2 hL' hlen5
            generalize (ts.getD d []).getD k 0 = ch at *
            have hown5 : wr.ownsRow w.heap.size 3 1 (.slice A5 (bb.length + k) c5) (NI (bb ++ ((ts.getD d []).take k).map (· + 2))).length (VI (NI (bb ++ ((ts.getD d []).take k).map (· + 2)))) := by rw [NI_length, Hlen5.out]; exact Hown2.out
            go_wp2_with (at_builtin; refine app_int_mv rfl _ _ rfl w.heap.size _ (NI (bb ++ ((ts.getD d []).take k).map (· + 2))) rfl (World.ownsRow.alloc hown5 _) ⟨wr.heap.size, 0, none⟩ 1 1 [((ch : Int) + 2)] rfl rfl (sl_blk (heap_alloc_new wr _)) (by rw [NI_length, Hlen5.out]; omega) (by simp; omega) ?_; intro v7 w7 hown7 hg7 _)
            have Hown7 := Lib.hid hown7
            have Hg7 := Lib.hid hg7
            have Hlw := Lib.hid (World.ownsRow.lt Hown2.out)
            clear hown7 hg7 hown5
            go_roundw
            case rel =>
              have h9 := Hown7.out
              have e9 : NI (bb ++ ((ts.getD d []).take k).map (· + 2)) ++ [((ch : Int) + 2)] = NI (bb ++ ((ts.getD d []).take (k + 1)).map (· + 2)) := by
                rw [Htk.out]; simp [NI]
              have e8 : (NI (bb ++ ((ts.getD d []).take (k + 1)).map (· + 2))).length = bb.length + (k + 1) := by
                rw [← e9, List.length_append, NI_length, Hlen5.out]; rfl
              rw [e9, e8] at h9
              refine ⟨k + 1, by omega, congrArg (Value.int .i64) (by omega), h9, ?_⟩
              exact below_app HB2.out Hg7.out (Nat.le_refl _) (fun q hq => (Hlw.out q hq).1)
            case measure =>
              show L - ((k : Int) + 1).toNat < L - ((k : Int)).toNat
              omega
          · obtain rfl : L = k := by omega
            have hlen5 : (bb ++ ((ts.getD d []).take L).map (· + 2)).length = bb.length + L := by
              rw [List.length_append, List.length_map, List.length_take, hL', Nat.min_self]
            have Hown2 := Lib.hid hown
            have HB2 := Lib.hid hB2
            have Hlen5 := Lib.hid hlen5
            have hbl2 := hB2.size
            have e9 : bb ++ ((ts.getD d []).take L).map (· + 2) ++ [1] = body (ts.take (d + 1)) := by
              rw [Hsu.out, ← hL', List.take_length, List.append_assoc]; rfl
            have E9 := Lib.hid e9
            clear hown hB2 hL' hlen5 e9
            have hown5 : wr.ownsRow w.heap.size 3 1 (.slice A5 (bb.length + L) c5) (NI (bb ++ ((ts.getD d []).take L).map (· + 2))).length (VI (NI (bb ++ ((ts.getD d []).take L).map (· + 2)))) := by rw [NI_length, Hlen5.out]; exact Hown2.out
            go_wp2_with (at_builtin; refine app_int_mv rfl _ _ rfl w.heap.size _ (NI (bb ++ ((ts.getD d []).take L).map (· + 2))) rfl (World.ownsRow.alloc hown5 _) ⟨wr.heap.size, 0, none⟩ 1 1 [1] rfl rfl (sl_blk (heap_alloc_new wr _)) (by rw [NI_length, Hlen5.out]; omega) (by simp; omega) ?_; intro v7 w7 hown7 hg7 _)
            have Hown7 := Lib.hid hown7
            have Hg7 := Lib.hid hg7
            have Hlw := Lib.hid (World.ownsRow.lt Hown2.out)
            clear hown7 hg7 hown5
            go_roundw
            case rel =>
              have h9 := Hown7.out
              have e8 : NI (bb ++ ((ts.getD d []).take L).map (· + 2)) ++ [1] = NI (body (ts.take (d + 1))) := by
                rw [← E9.out]; simp [NI]
              rw [e8, NI_length] at h9
              refine ⟨d + 1, by omega, congrArg (Value.int .i64) (by omega), h9, by have := Hsul.out; omega, ?_⟩
              exact below_app HB2.out Hg7.out (Nat.le_refl _) (fun q hq => (Hlw.out q hq).1)
            case measure =>
              show n - ((d : Int) + 1).toNat < n - ((d : Int)).toNat
              omega
    · obtain rfl : n = d := by omega
      have htk : ts.take n = ts := by rw [← Hl.out]; exact List.take_length
      rw [htk] at hown hbl ⊢
      have Hown := Lib.hid hown
      have HB := Lib.hid hB
      have hbs := hB.size
      have hown5 : wo.ownsRow w.heap.size 3 1 (.slice A4 (body ts).length c4) (NI (body ts)).length (VI (NI (body ts))) := by rw [NI_length]; exact hown
      clear hown hB htk
      go_wp2_with (at_builtin; refine app_int_mv rfl _ _ rfl w.heap.size _ (NI (body ts)) rfl (World.ownsRow.alloc hown5 _) ⟨wo.heap.size, 0, none⟩ 1 1 [0] rfl rfl (sl_blk (heap_alloc_new wo _)) (by rw [NI_length]; omega) (by simp; omega) ?_; intro v7 w7 hown7 hg7 _)
      have hB7 := below_app HB.out hg7 (Nat.le_refl _) (fun q hq => (World.ownsRow.lt Hown.out q hq).1)
      have e8 : NI (body ts) ++ [0] = NI (rowT ts) := by simp [NI, rowT]
      rw [e8, NI_length] at hown7
      obtain ⟨g, cap, cur, hv7, hg, hblk, hcap, hcs, htake⟩ := own_blk hown7 (fun e => by
        rw [e] at hown7
        rcases hown7.2 with ⟨_, h0⟩ | ⟨g9, cap9, cur9, h, _⟩
        · rw [rowT_length] at h0; omega
        · cases h)
      subst hv7
      have HM := Lib.hid (made_fm w7 g 0 (rowT ts).length cap (rowT ts) rfl (rowT_closed ts) (by rw [rowT_length]; omega) (sl_take hblk htake) (blk_lt hblk) (rowT_lt ts Hlt.out))
      have HB7 := Lib.hid hB7
      clear hown7 hg7 hown5 hB7 hblk htake e8 hcs hcap
      have Hbl := Lib.hid hbl
      clear hbl
      go_wp2_with fail
      go_at_call 102
      refine HM.out.mono ?_
      rintro e w8 ⟨x, sa, rfl, hI, hB8⟩
      have HI := Lib.hid hI
      have HB8 := Lib.hid hB8
      clear hI hB8 HM
      go_wp2_with fail
      go_ret2
      exact .inl ⟨by rw [rowT_length]; exact Hbl.out, x, sa, rfl, HI.out.mono HB7.out.size, below_step HB7.out HB8.out⟩
end Go.Proofs.YtphccomhggnccaaGreat
