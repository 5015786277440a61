/- The laws' helpers: hits, same, known. -/
import Derived.Test.YtphccomhggnccaaGreatFmE
import Derived.Lib.SlBytesConst
import Derived.ChangeArms
import Derived.Deep.Matrix
set_option linter.unusedVariables false
set_option linter.unusedSimpArgs false
set_option maxRecDepth 100000
namespace Go.Proofs.YtphccomhggnccaaGreat
open Go.RowKit Fm Rank
theorem getD_in2 {α : Type} {l : List (List α)} {i : Nat} (h : i < l.length) : l.getD i [] = l[i] := by simp [List.getD, List.getElem?_eq_getElem h]
end Go.Proofs.YtphccomhggnccaaGreat
namespace Go.Proofs.YtphccomhggnccaaGreat
open Go.RowKit Fm Rank Go.ChangeShapes Go.WideShapes
end Go.Proofs.YtphccomhggnccaaGreat
namespace Go.Proofs.YtphccomhggnccaaGreat
open Go.RowKit Fm Rank
end Go.Proofs.YtphccomhggnccaaGreat
namespace Go.Proofs.YtphccomhggnccaaGreat
open Go.RowKit Fm Rank
end Go.Proofs.YtphccomhggnccaaGreat
namespace Go.Proofs.YtphccomhggnccaaGreat
open Go.RowKit Fm Rank
theorem info_u8 : (Tryz.prog.info? 5).map (fun i => (i.zero, i.size, i.bytes)) = some (some (.int .u8 0), 1, 1) := by kernel_rfl
def Z8 (c : Nat) : Array Value := (VY (List.replicate c 0)).toArray
theorem make_u8 (c : Nat) (hc : c ≤ 1099511627776) (w : World) :
    (Instr.makeSlice 34 (.int .i64 (c : Int)) (.int .i64 (c : Int))).run Tryz.prog w = .ok (.slice (some ⟨w.heap.size, 0, none⟩) c c) (w.alloc (.cells (Z8 c) 5)) := by
  obtain ⟨i0, hi, hz0, hz1, hz2⟩ := info_parts info_u8
  have h := run_make (P := Tryz.prog) w 34 5 i0 (.int .u8 0) Tryz.underlying34 hi hz0 .i64 .i64 (c : Int) (c : Int) (by omega) (by omega) (by rw [hz2]; omega) (by omega)
  rw [h]
  have e : madeCells (Value.int .u8 0).cells (c * i0.size) = Z8 c := by
    rw [hz1, Nat.mul_one, madeCells_one _ rfl]
    simp [Z8, VY]
  simp only [Int.toNat_natCast]
  rw [e]
theorem own_tag {w : World} {base : Nat} {e : TypeId} {size : Nat} {v : Value} {n : Nat} {xs : List Value} (h : w.ownsRow base e size v n xs) {k : Nat} (hk : v.ownBlock = some k) : ∃ cur, w.heap[k]? = some (.cells cur e (0, 0)) := by
  rcases h.2 with ⟨rfl, _⟩ | ⟨g, cap, cur, rfl, hg, hb, _⟩
  · cases hk
  · cases hk
    exact ⟨cur, hb⟩
end Go.Proofs.YtphccomhggnccaaGreat
namespace Go.Proofs.YtphccomhggnccaaGreat
open Go.RowKit Fm Rank
theorem rowT_at (ts : List (List Nat)) (d f : Nat) (hd : d < ts.length) (hf : f < (ts.getD d []).length) : (rowT ts).getD ((stf 0 ts).getD d 0 + f) 0 = (ts.getD d []).getD f 0 + 2 ∧ (stf 0 ts).getD d 0 + f + 1 < (rowT ts).length := by
  have gen : ∀ (ts : List (List Nat)) (o d : Nat), d < ts.length → f < (ts.getD d []).length → ∃ q, (stf o ts).getD d 0 = o + q ∧ (rowT ts).getD (q + f) 0 = (ts.getD d []).getD f 0 + 2 ∧ q + f + 1 < (rowT ts).length := by
    intro ts
    induction ts with
    | nil => intro o d hd; cases hd
    | cons t ts ih =>
      intro o d hd hf
      cases d with
      | zero =>
        refine ⟨0, rfl, ?_, ?_⟩
        · rw [Nat.zero_add, rowT_cons]
          exact txt_getD t _ f hf
        · have hf' : f < t.length := hf
          rw [rowT_cons, List.length_append, txt_length, rowT_length]
          omega
      | succ d =>
        obtain ⟨q, h1, h2, h3⟩ := ih (o + t.length + 1) d (by simpa using hd) hf
        refine ⟨t.length + 1 + q, ?_, ?_, ?_⟩
        · have e : (stf o (t :: ts)).getD (d + 1) 0 = (stf (o + t.length + 1) ts).getD d 0 := rfl
          rw [e, h1]
          omega
        · have e : (t :: ts).getD (d + 1) [] = ts.getD d [] := rfl
          rw [e, ← h2, rowT_cons]
          simp only [List.getD]
          rw [show t.length + 1 + q + f = (txt t).length + (q + f) by rw [txt_length]; omega, List.getElem?_append_right (by omega), Nat.add_sub_cancel_left]
        · rw [rowT_cons, List.length_append, txt_length]
          omega
  obtain ⟨q, h1, h2, h3⟩ := gen ts 0 d hd hf
  rw [h1, Nat.zero_add]
  exact ⟨h2, h3⟩
def late (l : List Nat) (j : Nat) : List Nat := List.replicate j 0 ++ l.drop j
theorem late_length (l : List Nat) (j : Nat) (h : j ≤ l.length) : (late l j).length = l.length := by simp [late]; omega
theorem late_zero (l : List Nat) : late l 0 = l := by simp [late]
theorem late_all (l : List Nat) : late l l.length = List.replicate l.length 0 := by simp [late]
theorem late_set (l : List Nat) (j : Nat) (h : j < l.length) : (late l (j + 1)).set j (l.getD j 0) = late l j := by
  unfold late
  rw [List.set_append_left _ _ (by simp)]
  have e : (List.replicate (j + 1) 0).set j (l.getD j 0) = List.replicate j 0 ++ [l.getD j 0] := by
    rw [List.replicate_succ', List.set_append_right _ _ (by simp)]
    simp
  rw [e, List.append_assoc, List.drop_eq_getElem_cons h, getD_at h]
  rfl
theorem VY_set (l : List Nat) (j x : Nat) : (VY l).toArray.setIfInBounds j (.int .u8 (x : Int)) = (VY (l.set j x)).toArray := by
  simp [VY, List.map_set]
def Bytes (w : World) (l : List Nat) (e : Ending) (w' : World) : Prop := ∃ g, e = .returned (.slice (some ⟨g, 0, none⟩) l.length l.length) ∧ w.heap.size ≤ g ∧ w'.heap[g]? = some (.cells (VY l).toArray 5 (0, 0)) ∧ Below w.heap.size w w'
set_option maxHeartbeats 4000000 in
theorem extract_in {w : World} {base x : Nat} {ts : List (List Nat)} {sa : List Nat} (h : IdxM w base x (rowT ts) sa) (hlt : ∀ t ∈ ts, ∀ b ∈ t, b < 256) (d f k : Nat) (n : Int) (hd : d < ts.length) (hf : f < (ts.getD d []).length) (hn : 0 < n) (hk : (k : Int) = min n (((ts.getD d []).length : Int) - (f : Int))) :
    Calls Tryz.prog 24 #[.pointer (some ⟨x, 0, none⟩), .int .i64 (d : Int), .int .i64 (f : Int), .int .i64 n] w (Bytes w (((ts.getD d []).drop f).take k)) := by
  have H := Lib.hid h
  have HLen := Lib.hid (lenT h d hd)
  have hN := h.len
  have hfin := rowT_at ts d ((ts.getD d []).length - 1) hd (by omega)
  have hrl := rowT_length ts
  obtain ⟨g1, g2, g3, g4, g5, tr, gg, y, yc, mb, pb, pg, kk, rb, r, b1, b2, b3, b4, b5, c0, c1, c2, ⟨cur, c3, c3t⟩, c4, c5, c6, c7, c8⟩ := h
  have HX := Lib.hid c0
  have HO := Lib.hid g5
  have HC := Lib.hid g4
  have HTr := Lib.hid c1
  have HR := Lib.hid c7
  have HRow := Lib.hid c8
  have hS := sl_take c3 c3t
  have hst : d < (stp (rowT ts) (rowT ts).length).length := by rw [stp_rowT, stf_length]; omega
  have hys := sl_cell hS (VI_get (NI (stp (rowT ts) (rowT ts).length)) d (by rw [NI_length]; exact hst))
  rw [NI_getD _ _ hst, stp_rowT] at hys
  rw [stp_rowT, stf_length] at HX
  obtain ⟨S0, hS0⟩ : ∃ S0, (stf 0 ts).getD d 0 = S0 := ⟨_, rfl⟩
  obtain ⟨L, hL⟩ : ∃ L, (ts.getD d []).length = L := ⟨_, rfl⟩
  obtain ⟨N, hNN⟩ : ∃ N, (rowT ts).length = N := ⟨_, rfl⟩
  have Hat := Lib.hid (fun j (hj : j < (ts.getD d []).length) => (rowT_at ts d j hd hj).1)
  have htl := trn_length g5
  rw [hS0] at hys hfin Hat
  rw [hL] at hfin hf hk HLen Hat
  rw [hNN] at hfin hN htl
  have Htb := Lib.hid (fun j (hj : j < (ts.getD d []).length) => hlt (ts.getD d []) (by rw [getD_in2 hd]; exact List.getElem_mem hd) ((ts.getD d []).getD j 0) (by rw [getD_at hj]; exact List.getElem_mem hj))
  rw [hL] at Htb
  clear hlt
  generalize ts.getD d [] = tx at *
  have HS0 := Lib.hid hS0
  have HL := Lib.hid hL
  have HNN := Lib.hid hNN
  have Htl := Lib.hid htl
  have hfin2 := hfin.2
  have hkL : f + k ≤ L ∧ 1 ≤ k := by omega
  have Hk := Lib.hid hk
  clear c0 c1 c2 c3 c3t c4 c5 c6 c7 c8 g1 g2 g3 g4 g5 b1 b2 b3 b4 b5 hS hst hS0 hL hNN hfin hk hrl htl
  obtain ⟨N1, rfl⟩ : ∃ N1, N = N1 + 1 := ⟨N - 1, by omega⟩
  have hdl : d < ts.length + 1 := by omega
  have hdm : ts.length ≤ 65536 := by
    have h1 := len_le_body ts
    have h2 := HNN.out
    rw [rowT_length] at h2
    omega
  obtain ⟨st, hst⟩ : ∃ st, S0 + f + k = st := ⟨_, rfl⟩
  have hmin : min n ((L : Int) - (f : Int)) = (k : Int) := Hk.out.symm
  have hc2 := (cell_blk HX.out 2).trans rfl
  have hc0 := (cell_blk HX.out 0).trans rfl
  have hc5 := (cell_blk HX.out 5).trans rfl
  have HLn := Lib.hid (fun q => tlen_cell tr ((N1 + 1 : Nat) : Int) (w.drewN q) (by have := HTr.out.c0; rw [Htl.out] at this; exact this))
  go_enter Tryz.func24, Tryz.ntmps24
  go_wp2_with fail
  go_at_call 65
  refine HLen.out.mono ?_
  rintro e w' ⟨rfl, q0, rfl⟩
  go_wp2_with fail
  go_at_call 66
  refine (HLn.out q0).mono ?_
  rintro e w' ⟨rfl, rfl⟩
  have e13 : ((S0 : Int) + (f : Int) + (k : Int) + 8 - 1) / 8 * 8 = (((S0 + f + k + 7) / 8 * 8 : Nat) : Int) := by omega
  have hmk := make_u8 k (by omega)
  have hll : ((tx.drop f).take k).length = k := by rw [List.length_take, List.length_drop, HL.out]; omega
  have Hll := Lib.hid hll
  clear hll
  obtain ⟨m8, hnq⟩ : ∃ m8, (S0 + f + k + 7) / 8 = m8 := ⟨_, rfl⟩
  obtain ⟨nx, hnx⟩ : ∃ nx, m8 * 8 = nx := ⟨_, rfl⟩
  rw [hnq, hnx] at e13
  have hx1 : S0 + f + k ≤ nx := by omega
  have hx2 : (nx : Int).tdiv 8 = (m8 : Int) := by rw [Int.tdiv_eq_ediv_of_nonneg (by omega)]; omega
  have hx3 : (nx : Int) / 8 = (m8 : Int) := by omega
  have Hnx := Lib.hid hnx
  clear hnq hnx
  by_cases hlast : nx < N1
  · obtain ⟨i0, hi0, hri, hsi⟩ := rows_at HO.out (K := (ons sa (rowT ts).length).length) (by have := HRow.out; rwa [HO.out.length]) m8 (by rw [HNN.out]; have := Hnx.out; omega)
    have hK : (ons sa (rowT ts).length).length = (N1 + 1 + 7) / 8 := by rw [← HNN.out, ← plc_length, plc_count HO.out]
    have hcr := HR.out.cell (i := m8) (by rw [HRow.out.1, hK]; have := Hnx.out; omega)
    rw [hri] at hcr
    have hqK : m8 < (ons sa (rowT ts).length).length := by rw [hK]; have := Hnx.out; omega
    generalize (ons sa (rowT ts).length).length = K at *
    clear hK hri
    have HI0 := Lib.hid hi0
    have HSi := Lib.hid hsi
    clear hi0 hsi
    have j1 : (0 : Int) ≤ (m8 : Int) := by omega
    have j2 : (m8 : Int) < (K : Int) := by omega
    go_wp2_with fail
    go_at_call 66
    refine (HLn.out q0).mono ?_
    rintro e w' ⟨rfl, rfl⟩
    go_wp2_with fail
    go_quiet (fail)
    go_wp2_with fail
    have HSi8 : Hid (sa.getD i0 0 = nx) := Lib.hid (by rw [HSi.out]; have := Hnx.out; omega)
    obtain ⟨w5, hw5⟩ : ∃ w5, (w.drewN (q0 + nq)).alloc (.cells (Z8 k) 5) = w5 := ⟨_, rfl⟩
    rw [hw5]
    have HB5 := Lib.hid (show Below w.heap.size w w5 from by rw [← hw5]; exact (below_drewN _ w _).alloc (Nat.le_refl _) _)
    have HG5 := Lib.hid (show w5.heap[w.heap.size]? = some (.cells (VY (late ((tx.drop f).take k) k)).toArray 5 (0, 0)) from by
      have e9 : late ((tx.drop f).take k) k = List.replicate k 0 := by
        have := late_all ((tx.drop f).take k)
        rwa [Hll.out] at this
      rw [e9, ← hw5]
      exact heap_alloc_new (w.drewN _) (.cells (Z8 k) 5))
    clear hw5 hmk
    go_loopw [11, 12, 15] (fun s11 s12 s15 wr => ∃ p i : Nat, s11 = .int .i64 (p : Int) ∧ s12 = .int .i64 (i : Int) ∧ S0 + f ≤ p ∧ p ≤ N1 ∧ i < N1 + 1 ∧ Hid (sa.getD i 0 = p) ∧ Hid (wr.heap[w.heap.size]? = some (.cells (VY (late ((tx.drop f).take k) (min k (p - (S0 + f))))).toArray 5 (0, 0))) ∧ Hid (Below w.heap.size w wr)) (fun s11 _ _ _ => (intOf s11).toNat)
    case atStart => exact ⟨nx, i0, rfl, rfl, by omega, by omega, (by have := HI0.out; have := HNN.out; omega), HSi8, Lib.hid (by rw [Nat.min_eq_left (by omega)]; exact HG5.out), HB5⟩
    case round =>
      clear HB5 HG5
      obtain ⟨p, i, rfl, rfl, hp1, hp2, hi, Hsi, HG, HB⟩ := hrel
      have hgw := blk_lt HG.out
      by_cases hgt : S0 + f < p
      · obtain ⟨p', rfl⟩ : ∃ p', p = p' + 1 := ⟨p - 1, by omega⟩
        have hlf := lf_at HC.out HO.out (at_opt (by rw [HO.out.length, HNN.out]; exact hi) Hsi.out)
        have hGt := tgetZ (HTr.out.keep (fun q h1 h2 => HB.out.block q h2)) (i : Int)
        have hti := (opt_at hlf.1).2
        rw [atZ_in (by rw [IL_length, Htl.out]; exact hi), IL_getD _ _ (by rw [Htl.out]; exact hi), hti] at hGt
        have HGt := Lib.hid hGt
        have HAh := Lib.hid (fun W (hb : Below w.heap.size w W) => ahead_any (H.out.below hb) i p' (by rw [HNN.out]; exact hi) Hsi.out)
        have hcw := (World.cell?_of_block (a := ⟨x, 0, none⟩) (HB.out.block x (blk_lt HX.out))).trans hc0
        have hj1 : ((S0 : Int) + (f : Int)) < ((p' + 1 : Nat) : Int) := by omega
        clear hlf hGt hti
        by_cases hlo : p' < S0 + f + k
        · obtain ⟨j, hj⟩ : ∃ j, p' = S0 + f + j := ⟨p' - (S0 + f), by omega⟩
          have hjk : j < k := by omega
          have hcc : (rowT ts).getD p' 0 = ((tx.drop f).take k).getD j 0 + 2 := by
            rw [hj, Nat.add_assoc, Hat.out (f + j) (by omega)]
            simp only [List.getD]
            rw [List.getElem?_take, if_pos hjk, List.getElem?_drop]
          have hb256 : ((tx.drop f).take k).getD j 0 < 256 := by
            have := Htb.out (f + j) (by omega)
            simp only [List.getD] at this ⊢
            rw [List.getElem?_take, if_pos hjk, List.getElem?_drop]
            exact this
          rw [hcc] at HGt
          have Hset := Lib.hid (late_set ((tx.drop f).take k) j (by rw [Hll.out]; exact hjk))
          have hmn : min k (p' + 1 - (S0 + f)) = j + 1 := by omega
          rw [hmn] at HG
          have Hj := Lib.hid hj
          have e20 : (p' : Int) - ((S0 : Int) + (f : Int)) = (j : Int) := by omega
          have e21 : (p' : Int) < (S0 : Int) + (f : Int) + (k : Int) := by omega
          have e22 : (0 : Int) ≤ (j : Int) := by omega
          have e23 : (j : Int) < (k : Int) := by omega
          have hcl : j < (late ((tx.drop f).take k) (j + 1)).length := by rw [late_length _ _ (by rw [Hll.out]; omega), Hll.out]; exact hjk
          clear hcc hj hmn
          generalize ((tx.drop f).take k).getD j 0 = bb at *
          have e24 : IntKind.u8.wrap (bb : Int) = (bb : Int) := by simp [IntKind.wrap, IntKind.signed, IntKind.bits, IntKind.min, IntKind.max]; omega
          go_wp2_with fail
          go_at_call 67
          refine HGt.out.mono ?_
          rintro e w6 ⟨rfl, hB6⟩
          have HB6 := Lib.hid (below_step HB.out hB6)
          have HG6 := Lib.hid ((hB6.block _ hgw).trans HG.out)
          clear hB6 HGt
          go_wp2_with fail
          go_at_call 68
          refine (HAh.out w6 HB6.out).mono ?_
          rintro e w7 ⟨i', rfl, hi', hsi', hB7⟩
          have HG7 := Lib.hid ((hB7.block _ (blk_lt HG6.out)).trans HG6.out)
          have HB7 := Lib.hid (below_step HB6.out hB7)
          have Hsi7 := Lib.hid hsi'
          have Hi7 := Lib.hid hi'
          have hcell : w7.cell? ⟨w.heap.size, j, none⟩ = some (.int .u8 (((late ((tx.drop f).take k) (j + 1)).getD j 0 : Nat) : Int)) := (cell_blk HG7.out j).trans (by rw [List.getElem?_toArray]; exact VY_get _ j hcl)
          have hfr := frozen_blk HG7.out j
          clear hB7 hsi' hi'
          go_wp2_with fail
          go_roundw
          case rel =>
            refine ⟨p', i', rfl, rfl, by have := Hj.out; omega, by omega, by have := Hi7.out; have := HNN.out; omega, Hsi7, Lib.hid ?_, Lib.hid (HB7.out.setCell (p := ⟨w.heap.size, j, none⟩) (Nat.le_refl _) _)⟩
            have h9 := blk_set HG7.out j (.int .u8 (bb : Int))
            rw [VY_set, Hset.out] at h9
            rw [show min k (p' - (S0 + f)) = j by have := Hj.out; omega]
            exact h9
          case measure =>
            show ((p' : Int)).toNat < (((p' + 1 : Nat) : Int)).toNat
            omega
        · have e21 : ¬ (p' : Int) < (S0 : Int) + (f : Int) + (k : Int) := by omega
          go_wp2_with fail
          go_at_call 67
          refine HGt.out.mono ?_
          rintro e w6 ⟨rfl, hB6⟩
          have HB6 := Lib.hid (below_step HB.out hB6)
          have HG6 := Lib.hid ((hB6.block _ hgw).trans HG.out)
          clear hB6 HGt
          go_wp2_with fail
          go_at_call 68
          refine (HAh.out w6 HB6.out).mono ?_
          rintro e w7 ⟨i', rfl, hi', hsi', hB7⟩
          have HG7 := Lib.hid ((hB7.block _ (blk_lt HG6.out)).trans HG6.out)
          have HB7 := Lib.hid (below_step HB6.out hB7)
          have Hsi7 := Lib.hid hsi'
          have Hi7 := Lib.hid hi'
          clear hB7 hsi' hi'
          go_wp2_with fail
          go_roundw
          case rel =>
            refine ⟨p', i', rfl, rfl, by omega, by omega, by have := Hi7.out; have := HNN.out; omega, Hsi7, Lib.hid ?_, HB7⟩
            rw [show min k (p' - (S0 + f)) = min k (p' + 1 - (S0 + f)) by omega]
            exact HG7.out
          case measure =>
            show ((p' : Int)).toNat < (((p' + 1 : Nat) : Int)).toNat
            omega
      · have hpe : p = S0 + f := by omega
        have hj1 : ¬ ((S0 : Int) + (f : Int)) < (p : Int) := by omega
        have Hpe := Lib.hid hpe
        clear hpe
        go_wp2_with fail
        go_ret
        refine ⟨w.heap.size, ?_, Nat.le_refl _, ?_, HB.out⟩
        · rw [Hll.out]; rfl
        · have h9 := HG.out
          rw [Hpe.out, Nat.sub_self, Nat.min_zero, late_zero] at h9
          exact h9
  · go_wp2_with fail
    go_at_call 66
    refine (HLn.out q0).mono ?_
    rintro e w' ⟨rfl, rfl⟩
    go_wp2_with fail
    have HS0z := Lib.hid (show sa.getD 0 0 = N1 from by have := (opt_at (sa_first HC.out HO.out)).2; rw [HNN.out] at this; simpa using this)
    obtain ⟨w5, hw5⟩ : ∃ w5, (w.drewN q0).alloc (.cells (Z8 k) 5) = w5 := ⟨_, rfl⟩
    rw [hw5]
    have HB5 := Lib.hid (show Below w.heap.size w w5 from by rw [← hw5]; exact (below_drewN _ w _).alloc (Nat.le_refl _) _)
    have HG5 := Lib.hid (show w5.heap[w.heap.size]? = some (.cells (VY (late ((tx.drop f).take k) k)).toArray 5 (0, 0)) from by
      have e9 : late ((tx.drop f).take k) k = List.replicate k 0 := by
        have := late_all ((tx.drop f).take k)
        rwa [Hll.out] at this
      rw [e9, ← hw5]
      exact heap_alloc_new (w.drewN _) (.cells (Z8 k) 5))
    clear hw5 hmk
    go_loopw [11, 12, 15] (fun s11 s12 s15 wr => ∃ p i : Nat, s11 = .int .i64 (p : Int) ∧ s12 = .int .i64 (i : Int) ∧ S0 + f ≤ p ∧ p ≤ N1 ∧ i < N1 + 1 ∧ Hid (sa.getD i 0 = p) ∧ Hid (wr.heap[w.heap.size]? = some (.cells (VY (late ((tx.drop f).take k) (min k (p - (S0 + f))))).toArray 5 (0, 0))) ∧ Hid (Below w.heap.size w wr)) (fun s11 _ _ _ => (intOf s11).toNat)
    case atStart => exact ⟨N1, 0, rfl, rfl, by omega, by omega, (by omega), HS0z, Lib.hid (by rw [Nat.min_eq_left (by omega)]; exact HG5.out), HB5⟩
    case round =>
      clear HB5 HG5
      obtain ⟨p, i, rfl, rfl, hp1, hp2, hi, Hsi, HG, HB⟩ := hrel
      have hgw := blk_lt HG.out
      by_cases hgt : S0 + f < p
      · obtain ⟨p', rfl⟩ : ∃ p', p = p' + 1 := ⟨p - 1, by omega⟩
        have hlf := lf_at HC.out HO.out (at_opt (by rw [HO.out.length, HNN.out]; exact hi) Hsi.out)
        have hGt := tgetZ (HTr.out.keep (fun q h1 h2 => HB.out.block q h2)) (i : Int)
        have hti := (opt_at hlf.1).2
        rw [atZ_in (by rw [IL_length, Htl.out]; exact hi), IL_getD _ _ (by rw [Htl.out]; exact hi), hti] at hGt
        have HGt := Lib.hid hGt
        have HAh := Lib.hid (fun W (hb : Below w.heap.size w W) => ahead_any (H.out.below hb) i p' (by rw [HNN.out]; exact hi) Hsi.out)
        have hcw := (World.cell?_of_block (a := ⟨x, 0, none⟩) (HB.out.block x (blk_lt HX.out))).trans hc0
        have hj1 : ((S0 : Int) + (f : Int)) < ((p' + 1 : Nat) : Int) := by omega
        clear hlf hGt hti
        by_cases hlo : p' < S0 + f + k
        · obtain ⟨j, hj⟩ : ∃ j, p' = S0 + f + j := ⟨p' - (S0 + f), by omega⟩
          have hjk : j < k := by omega
          have hcc : (rowT ts).getD p' 0 = ((tx.drop f).take k).getD j 0 + 2 := by
            rw [hj, Nat.add_assoc, Hat.out (f + j) (by omega)]
            simp only [List.getD]
            rw [List.getElem?_take, if_pos hjk, List.getElem?_drop]
          have hb256 : ((tx.drop f).take k).getD j 0 < 256 := by
            have := Htb.out (f + j) (by omega)
            simp only [List.getD] at this ⊢
            rw [List.getElem?_take, if_pos hjk, List.getElem?_drop]
            exact this
          rw [hcc] at HGt
          have Hset := Lib.hid (late_set ((tx.drop f).take k) j (by rw [Hll.out]; exact hjk))
          have hmn : min k (p' + 1 - (S0 + f)) = j + 1 := by omega
          rw [hmn] at HG
          have Hj := Lib.hid hj
          have e20 : (p' : Int) - ((S0 : Int) + (f : Int)) = (j : Int) := by omega
          have e21 : (p' : Int) < (S0 : Int) + (f : Int) + (k : Int) := by omega
          have e22 : (0 : Int) ≤ (j : Int) := by omega
          have e23 : (j : Int) < (k : Int) := by omega
          have hcl : j < (late ((tx.drop f).take k) (j + 1)).length := by rw [late_length _ _ (by rw [Hll.out]; omega), Hll.out]; exact hjk
          clear hcc hj hmn
          generalize ((tx.drop f).take k).getD j 0 = bb at *
          have e24 : IntKind.u8.wrap (bb : Int) = (bb : Int) := by simp [IntKind.wrap, IntKind.signed, IntKind.bits, IntKind.min, IntKind.max]; omega
          go_wp2_with fail
          go_at_call 67
          refine HGt.out.mono ?_
          rintro e w6 ⟨rfl, hB6⟩
          have HB6 := Lib.hid (below_step HB.out hB6)
          have HG6 := Lib.hid ((hB6.block _ hgw).trans HG.out)
          clear hB6 HGt
          go_wp2_with fail
          go_at_call 68
          refine (HAh.out w6 HB6.out).mono ?_
          rintro e w7 ⟨i', rfl, hi', hsi', hB7⟩
          have HG7 := Lib.hid ((hB7.block _ (blk_lt HG6.out)).trans HG6.out)
          have HB7 := Lib.hid (below_step HB6.out hB7)
          have Hsi7 := Lib.hid hsi'
          have Hi7 := Lib.hid hi'
          have hcell : w7.cell? ⟨w.heap.size, j, none⟩ = some (.int .u8 (((late ((tx.drop f).take k) (j + 1)).getD j 0 : Nat) : Int)) := (cell_blk HG7.out j).trans (by rw [List.getElem?_toArray]; exact VY_get _ j hcl)
          have hfr := frozen_blk HG7.out j
          clear hB7 hsi' hi'
          go_wp2_with fail
          go_roundw
          case rel =>
            refine ⟨p', i', rfl, rfl, by have := Hj.out; omega, by omega, by have := Hi7.out; have := HNN.out; omega, Hsi7, Lib.hid ?_, Lib.hid (HB7.out.setCell (p := ⟨w.heap.size, j, none⟩) (Nat.le_refl _) _)⟩
            have h9 := blk_set HG7.out j (.int .u8 (bb : Int))
            rw [VY_set, Hset.out] at h9
            rw [show min k (p' - (S0 + f)) = j by have := Hj.out; omega]
            exact h9
          case measure =>
            show ((p' : Int)).toNat < (((p' + 1 : Nat) : Int)).toNat
            omega
        · have e21 : ¬ (p' : Int) < (S0 : Int) + (f : Int) + (k : Int) := by omega
          go_wp2_with fail
          go_at_call 67
          refine HGt.out.mono ?_
          rintro e w6 ⟨rfl, hB6⟩
          have HB6 := Lib.hid (below_step HB.out hB6)
          have HG6 := Lib.hid ((hB6.block _ hgw).trans HG.out)
          clear hB6 HGt
          go_wp2_with fail
          go_at_call 68
          refine (HAh.out w6 HB6.out).mono ?_
          rintro e w7 ⟨i', rfl, hi', hsi', hB7⟩
          have HG7 := Lib.hid ((hB7.block _ (blk_lt HG6.out)).trans HG6.out)
          have HB7 := Lib.hid (below_step HB6.out hB7)
          have Hsi7 := Lib.hid hsi'
          have Hi7 := Lib.hid hi'
          clear hB7 hsi' hi'
          go_wp2_with fail
          go_roundw
          case rel =>
            refine ⟨p', i', rfl, rfl, by omega, by omega, by have := Hi7.out; have := HNN.out; omega, Hsi7, Lib.hid ?_, HB7⟩
            rw [show min k (p' - (S0 + f)) = min k (p' + 1 - (S0 + f)) by omega]
            exact HG7.out
          case measure =>
            show ((p' : Int)).toNat < (((p' + 1 : Nat) : Int)).toNat
            omega
      · have hpe : p = S0 + f := by omega
        have hj1 : ¬ ((S0 : Int) + (f : Int)) < (p : Int) := by omega
        have Hpe := Lib.hid hpe
        clear hpe
        go_wp2_with fail
        go_ret
        refine ⟨w.heap.size, ?_, Nat.le_refl _, ?_, HB.out⟩
        · rw [Hll.out]; rfl
        · have h9 := HG.out
          rw [Hpe.out, Nat.sub_self, Nat.min_zero, late_zero] at h9
          exact h9
end Go.Proofs.YtphccomhggnccaaGreat
namespace Go.Proofs.YtphccomhggnccaaGreat
open Go.RowKit Fm Rank
end Go.Proofs.YtphccomhggnccaaGreat
namespace Go.Proofs.YtphccomhggnccaaGreat
open Go.RowKit Fm Rank
end Go.Proofs.YtphccomhggnccaaGreat
