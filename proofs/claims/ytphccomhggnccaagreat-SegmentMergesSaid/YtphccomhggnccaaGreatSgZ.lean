/- segment: whole, Keys, Gone, Encode, Find. -/
import Derived.Test.YtphccomhggnccaaGreatSgY
import Derived.Deep.RegionHeldLaw
import Derived.Lib.SlBytesConst
namespace Go.Proofs.YtphccomhggnccaaGreat
set_option maxRecDepth 100000
set_option linter.unusedVariables false
set_option linter.unusedSimpArgs false
set_option maxRecDepth 100000
open Go.RowKit Sg Fm
theorem SegM.ixc {w : World} {base x : Nat} {ds : List Dc} {gs : List Key} {sa : List Nat} (h : SegM w base x ds gs sa) : ∃ ix, w.cell? ⟨x, 0, none⟩ = some (.pointer (some ⟨ix, 0, none⟩)) ∧ IdxM w base ix (rowT (textsD ds)) sa := by
  obtain ⟨ix, Ak, Ag, ck, cg, h1, h2, _⟩ := h.blk
  exact ⟨ix, cell_blk h1 0, h2⟩
theorem swhole_any {w : World} {x ix : Nat} (h : w.cell? ⟨x, 0, none⟩ = some (.pointer (some ⟨ix, 0, none⟩))) :
    Calls Tryz.prog 55 #[.pointer (some ⟨x, 0, none⟩)] w fun e w' => e = .returned (.bool true) ∧ w = w' := by
  go_enter Tryz.func55, Tryz.ntmps55
  go_wp2_with fail
  go_ret
  exact ⟨rfl, rfl⟩
theorem keysS_any {w : World} {base x : Nat} {ds : List Dc} {gs : List Key} {sa : List Nat} (h : SegM w base x ds gs sa) (hl : ds.length ≤ 1099511627776) :
    Calls Tryz.prog 31 #[.pointer (some ⟨x, 0, none⟩)] w (OwnS w (keysD ds)) := by
  obtain ⟨ix, Ak, Ag, ck, cg, h1, h2, h3, h4, h5, h6, h7, h8⟩ := h.blk
  have hx0 : w.cell? ⟨x, 0, none⟩ = some (.pointer (some ⟨ix, 0, none⟩)) := cell_blk h1 0
  have hx1 : w.cell? ⟨x, 1, none⟩ = some (.slice Ak ds.length ck) := cell_blk h1 1
  have HC := Lib.hid (cloneS_any w Ak ds.length ck (keysD ds) h3 (keysD_length ds) h5.sp hl)
  have HW := Lib.hid (swhole_any hx0)
  clear h h1 h2 h3 h4 h5 h6 h7 h8
  go_enter Tryz.func31, Tryz.ntmps31
  go_wp2_with (go_at_call 55; refine HW.out.mono ?_; rintro e w' ⟨rfl, rfl⟩)
  go_at_call 72
  refine HC.out.mono ?_
  rintro e w' ⟨v, rfl, h1, h2⟩
  have H1 := Lib.hid h1
  have H2 := Lib.hid h2
  clear h1 h2 HC
  go_wp2_with fail
  go_ret
  exact ⟨v, rfl, H1.out, H2.out⟩
theorem goneS_any {w : World} {base x : Nat} {ds : List Dc} {gs : List Key} {sa : List Nat} (h : SegM w base x ds gs sa) (hl : gs.length ≤ 1099511627776) :
    Calls Tryz.prog 32 #[.pointer (some ⟨x, 0, none⟩)] w (OwnS w gs) := by
  obtain ⟨ix, Ak, Ag, ck, cg, h1, h2, h3, h4, h5, h6, h7, h8⟩ := h.blk
  have hx0 : w.cell? ⟨x, 0, none⟩ = some (.pointer (some ⟨ix, 0, none⟩)) := cell_blk h1 0
  have hx2 : w.cell? ⟨x, 2, none⟩ = some (.slice Ag gs.length cg) := cell_blk h1 2
  have HC := Lib.hid (cloneS_any w Ag gs.length cg gs h4 rfl h6.sp hl)
  have HW := Lib.hid (swhole_any hx0)
  clear h h1 h2 h3 h4 h5 h6 h7 h8
  go_enter Tryz.func32, Tryz.ntmps32
  go_wp2_with (go_at_call 55; refine HW.out.mono ?_; rintro e w' ⟨rfl, rfl⟩)
  go_at_call 72
  refine HC.out.mono ?_
  rintro e w' ⟨v, rfl, h1, h2⟩
  have H1 := Lib.hid h1
  have H2 := Lib.hid h2
  clear h1 h2 HC
  go_wp2_with fail
  go_ret
  exact ⟨v, rfl, H1.out, H2.out⟩
theorem encS_any {w : World} {base x : Nat} {ds : List Dc} {gs : List Key} {sa : List Nat} (h : SegM w base x ds gs sa) (hf : Fits ds gs) :
    Calls Tryz.prog 18 #[.pointer (some ⟨x, 0, none⟩)] w fun e w' => ∃ g cap, e = .returned (.slice (some ⟨g, 0, none⟩) (frame (bodyS (keysD ds) gs (turnS ds sa))).length cap) ∧ w.heap.size ≤ g ∧ (frame (bodyS (keysD ds) gs (turnS ds sa))).length ≤ cap ∧ Sl w' (some ⟨g, 0, none⟩) (VY (frame (bodyS (keysD ds) gs (turnS ds sa)))) ∧ Below w.heap.size w w' := by
  obtain ⟨ix, hx0, _⟩ := h.ixc
  have HW := Lib.hid (swhole_any hx0)
  have HR := Lib.hid (record_any h hf)
  clear h hx0
  generalize frame (bodyS (keysD ds) gs (turnS ds sa)) = fr at *
  go_enter Tryz.func18, Tryz.ntmps18
  go_wp2_with (go_at_call 55; refine HW.out.mono ?_; rintro e w' ⟨rfl, rfl⟩)
  go_at_call 54
  refine HR.out.mono ?_
  rintro e w' ⟨g, cap, rfl, h1, h2, h3, h4⟩
  have H3 := Lib.hid h3
  have H4 := Lib.hid h4
  have H1 := Lib.hid h1
  have H2 := Lib.hid h2
  clear h1 h2 h3 h4 HR
  go_wp2_with fail
  go_ret
  exact ⟨g, cap, rfl, H1.out, H2.out, H3.out, H4.out⟩
def VMt (l : List (Key × Nat)) : List Value := l.flatMap fun m => [encStr m.1, .int .i64 (m.2 : Int)]
theorem VMt_cons (m : Key × Nat) (r : List (Key × Nat)) : VMt (m :: r) = encStr m.1 :: .int .i64 (m.2 : Int) :: VMt r := rfl
theorem VMt_length (l : List (Key × Nat)) : (VMt l).length = l.length * 2 := by
  induction l with
  | nil => rfl
  | cons a r ih => rw [VMt_cons, List.length_cons, List.length_cons, ih, List.length_cons]; omega
theorem VMt_append (a b : List (Key × Nat)) : VMt (a ++ b) = VMt a ++ VMt b := by simp [VMt]
theorem VMt_get0 (l : List (Key × Nat)) (i : Nat) (h : i < l.length) : (VMt l)[i * 2]? = some (encStr (l.getD i ([], 0)).1) := by
  induction l generalizing i with
  | nil => cases h
  | cons a r ih =>
    rw [VMt_cons]
    cases i with
    | zero => rfl
    | succ i => rw [show (i + 1) * 2 = i * 2 + 1 + 1 by omega]; exact ih i (by simpa using h)
theorem VMt_get1 (l : List (Key × Nat)) (i : Nat) (h : i < l.length) : (VMt l)[i * 2 + 1]? = some (.int .i64 ((l.getD i ([], 0)).2 : Int)) := by
  induction l generalizing i with
  | nil => cases h
  | cons a r ih =>
    rw [VMt_cons]
    cases i with
    | zero => rfl
    | succ i => rw [show (i + 1) * 2 + 1 = i * 2 + 1 + 1 + 1 by omega]; exact ih i (by simpa using h)
def matsOf (ds : List Dc) (p : List Nat) : List (Key × Nat) := (found (textsD ds) p).map fun h => ((keysD ds).getD h.1 [], h.2)
theorem locF_lt (P : List Nat) : ∀ (ts : List (List Nat)) (d0 : Nat), ∀ h ∈ locF d0 P ts, d0 ≤ h.1 ∧ h.1 < d0 + ts.length
  | [], _, h, hh => by cases hh
  | t :: ts, d0, h, hh => by
    rw [locF] at hh
    rcases List.mem_append.1 hh with hh | hh
    · obtain ⟨f, _, rfl⟩ := List.mem_map.1 hh
      simp
    · have := locF_lt P ts (d0 + 1) h hh
      simp only [List.length_cons]
      omega
theorem found_lt (ts : List (List Nat)) (p : List Nat) : ∀ h ∈ found ts p, h.1 < ts.length := by
  intro h hh
  unfold found at hh
  split at hh
  · cases hh
  · have := locF_lt p ts 0 h hh
    omega
theorem locF_len (P : List Nat) : ∀ (ts : List (List Nat)) (d0 : Nat), (locF d0 P ts).length ≤ (body ts).length
  | [], _ => Nat.zero_le _
  | t :: ts, d0 => by
    rw [locF, List.length_append, List.length_map, body_cons, List.length_append, txt_length]
    have h1 := locF_len P ts (d0 + 1)
    have h2 := List.length_filter_le (fun f => P.isPrefixOf (t.drop f)) (List.range t.length)
    rw [List.length_range] at h2
    omega
theorem found_len (ts : List (List Nat)) (p : List Nat) : (found ts p).length ≤ (body ts).length := by
  unfold found
  split
  · exact Nat.zero_le _
  · exact locF_len p ts 0
def MatsP (w : World) (l : List (Key × Nat)) (e : Ending) (w' : World) : Prop := ∃ A c, e = .returned (.slice A l.length c) ∧ Sl w' A (VMt l) ∧ Below w.heap.size w w'
set_option maxHeartbeats 4000000 in
theorem findS_any {w : World} {base x : Nat} {ds : List Dc} {gs : List Key} {sa : List Nat} (h : SegM w base x ds gs sa) (A : Option Addr) (n cap : Nat) (p : List Nat) (hA : Sl w A (VY p)) (hl : p.length = n) (hn : n ≤ 1099511627776) (hb : ∀ c ∈ p, c < 256) (hf : (rowT (textsD ds)).length ≤ 65536) :
    Calls Tryz.prog 33 #[.pointer (some ⟨x, 0, none⟩), .slice A n cap] w (MatsP w (matsOf ds p)) := by
  obtain ⟨ix, Ak, Ag, ck, cg, h1, h2, h3, h4, h5, h6, h7, h8⟩ := h.blk
  have hx0 : w.cell? ⟨x, 0, none⟩ = some (.pointer (some ⟨ix, 0, none⟩)) := cell_blk h1 0
  have HL := Lib.hid (locateT h2 A n cap p hA hl hn hb)
  have HW := Lib.hid (swhole_any hx0)
  have H1 := Lib.hid h1
  have H3 := Lib.hid h3
  have H5 := Lib.hid h5
  have HKl := Lib.hid (fun a ha => Nat.lt_of_lt_of_le (h5.ge a ha).2 (Nat.le_refl _))
  have Hlt := Lib.hid (found_lt (textsD ds) p)
  have hfl := found_len (textsD ds) p
  rw [rowT_length] at hf
  obtain ⟨N, hN⟩ : ∃ N, (found (textsD ds) p).length = N := ⟨_, rfl⟩
  obtain ⟨K, hK⟩ : ∃ K, ds.length = K := ⟨_, rfl⟩
  have HN := Lib.hid hN
  have HK := Lib.hid hK
  have hNb : N ≤ 65536 := by omega
  clear h h1 h2 h3 h4 h5 h6 h7 h8 hA hl hn hb hN hK hfl hf
  go_enter Tryz.func33, Tryz.ntmps33
  go_wp2_with (go_at_call 55; refine HW.out.mono ?_; rintro e w' ⟨rfl, rfl⟩)
  go_at_call 20
  refine HL.out.mono ?_
  rintro e w1 ⟨A1, c1, rfl, hS1, hB1⟩
  rw [IH_length, HN.out]
  have HS1 := Lib.hid hS1
  have HB1 := Lib.hid hB1
  have hs1 := hB1.size
  clear hS1 hB1 HL hx0
  go_wp2_with fail
  have Hml : Hid ((matsOf ds p).length = N) := Lib.hid (by unfold matsOf; rw [List.length_map, HN.out])
  go_loopw [5, 18] (fun t q wr => ∃ j : Nat, j ≤ N ∧ q = .int .i64 (j : Int) ∧ ∃ At ct, t = .slice At j ct ∧ Hid (wr.ownsRow w1.heap.size 86 2 (.slice At j ct) j (VMt ((matsOf ds p).take j))) ∧ Hid (Below w1.heap.size w1 wr)) (fun _ q _ => N - (intOf q).toNat)
  case atStart => exact ⟨0, Nat.zero_le _, rfl, none, 0, rfl, Lib.hid (World.ownsRow_nil _ _ _ _), Lib.hid (Below.refl _ _)⟩
  case round =>
    obtain ⟨j, hj, rfl, At, ct, rfl, HO, HB⟩ := hrel
    by_cases hjN : j < N
    · have hjf : j < (found (textsD ds) p).length := by rw [HN.out]; exact hjN
      obtain ⟨hh, hhe⟩ : ∃ hh, (found (textsD ds) p)[j] = hh := ⟨_, rfl⟩
      have hmem : hh ∈ found (textsD ds) p := by rw [← hhe]; exact List.getElem_mem hjf
      have hdl := Hlt.out hh hmem
      rw [textsD_length, HK.out] at hdl
      have hIg : (IH (found (textsD ds) p)).getD j (0, 0) = ((hh.1 : Int), (hh.2 : Int)) := by
        rw [List.getD_eq_getElem?_getD]; simp [IH, hjf, hhe]
      have hSr := HS1.out.below HB.out
      obtain ⟨bm, om, rfl, hc0⟩ := hSr.lit (j := j * 2) (by rw [VH_length, IH_length]; omega)
      have hc1 := hSr.cell _ rfl (j * 2 + 1) _ (VH_get1 (IH (found (textsD ds) p)) j (by rw [IH_length]; exact hjf))
      rw [VH_get0 _ j (by rw [IH_length]; exact hjf), hIg] at hc0
      rw [hIg] at hc1
      rw [show (⟨bm, om, none⟩ : Addr).add (j * 2 + 1) = ⟨bm, om + j * 2 + 1, none⟩ by unfold Addr.add; split <;> simp_all; omega] at hc1
      have Hsu : Hid ((matsOf ds p).take (j + 1) = (matsOf ds p).take j ++ [((keysD ds).getD hh.1 [], hh.2)]) := Lib.hid (by
        have h9 : j < (matsOf ds p).length := by rw [Hml.out]; exact hjN
        rw [List.take_succ_eq_append_getElem h9]
        simp [matsOf, hhe])
      have hBB := HB1.out.trans (HB.out.mono hs1)
      have hx1 : wr.cell? ⟨x, 1, none⟩ = some (.slice Ak K ck) := by
        have := cell_blk ((hBB.block x (blk_lt H1.out)).trans H1.out) 1
        rw [HK.out] at this
        exact this
      obtain ⟨bk, ok, rfl, hkc⟩ : ∃ b off, Ak = some ⟨b, off, none⟩ ∧ wr.cell? ⟨b, off + hh.1, none⟩ = some (.string (ba ((keysD ds).getD hh.1 []))) := by
        have hK2 : hh.1 < (keysD ds).length := by rw [keysD_length, HK.out]; exact hdl
        cases Ak with
        | none =>
          exfalso
          have h := H3.out.nil rfl
          have h2 : (keysD ds).length = 0 := by rw [← VS_length, h]; rfl
          omega
        | some a =>
          obtain ⟨b, off, sp⟩ := a
          have h2' : sp = none := H5.out.sp _ rfl
          subst h2'
          exact ⟨b, off, rfl, VS_cell (H3.out.below hBB) hK2⟩
      generalize (keysD ds).getD hh.1 [] = key at *
      obtain ⟨h1, h2⟩ := hh
      dsimp only at *
      clear hSr hBB hIg hmem hhe hjf
      go_upto_region 7 with fail
      have hwb := below_new wr (.cells #[.int .i64 (h1 : Int), .int .i64 (h2 : Int)] 55)
      have hb9 : (wr.alloc (.cells #[.int .i64 (h1 : Int), .int .i64 (h2 : Int)] 55)).heap[wr.heap.size]? = some (.cells #[.int .i64 (h1 : Int), .int .i64 (h2 : Int)] 55 (0, 0)) := heap_alloc_new wr _
      have hd0 : (wr.alloc (.cells #[.int .i64 (h1 : Int), .int .i64 (h2 : Int)] 55)).cell? ⟨wr.heap.size, 0, none⟩ = some (.int .i64 (h1 : Int)) := cell_blk hb9 0
      have hd1 : (wr.alloc (.cells #[.int .i64 (h1 : Int), .int .i64 (h2 : Int)] 55)).cell? ⟨wr.heap.size, 1, none⟩ = some (.int .i64 (h2 : Int)) := cell_blk hb9 1
      have hx1' := (World.cell?_of_block (hwb.block x (World.block_lt_of_cell? wr _ hx1))).trans hx1
      have hkc' := (World.cell?_of_block (hwb.block bk (World.block_lt_of_cell? wr _ hkc))).trans hkc
      have hOl : ∀ k, (Value.slice At j ct).ownBlock = some k → w1.heap.size ≤ k ∧ k < wr.heap.size := fun k hk => World.ownsRow.lt HO.out k hk
      have hxl1 : x < w1.heap.size := Nat.lt_of_lt_of_le (blk_lt H1.out) hs1
      have hkl1 : bk < w1.heap.size := Nat.lt_of_lt_of_le (HKl.out _ rfl) hs1
      have hO' := World.ownsRow.alloc HO.out (.cells #[.int .i64 (h1 : Int), .int .i64 (h2 : Int)] 55)
      have hB' := HB.out.alloc HB.out.size (.cells #[.int .i64 (h1 : Int), .int .i64 (h2 : Int)] 55)
      obtain ⟨d, hd⟩ : ∃ d, wr.heap.size = d := ⟨_, rfl⟩
      rw [hd] at hd0 hd1 hOl ⊢
      clear hwb hb9 hx1 hkc hc0 hc1 HO HB hd
      generalize wr.alloc (.cells #[.int .i64 (h1 : Int), .int .i64 (h2 : Int)] 55) = wa at *
      have hxl := World.block_lt_of_cell? wa _ hx1'
      have hdl2 := World.block_lt_of_cell? wa _ hd0
      have hkl := World.block_lt_of_cell? wa _ hkc'
      have hWb := (below_new wa (.cells #[.string (ba key), .int .i64 (h2 : Int)] 86)).drew
      have hO2 := own_keepR (World.ownsRow.alloc hO' (.cells #[.string (ba key), .int .i64 (h2 : Int)] 86)) (grown_drew _ none) (fun _ _ => nofun)
      have HB2 := Lib.hid ((hB'.alloc hB'.size (.cells #[.string (ba key), .int .i64 (h2 : Int)] 86)).drew)
      have hSn : Sl (wa.alloc (.cells #[.string (ba key), .int .i64 (h2 : Int)] 86)).drew (some ⟨wa.heap.size, 0, none⟩) [.string (ba key), .int .i64 (h2 : Int)] := (sl_blk (heap_alloc_new wa _)).drew
      have a0 : (wa.alloc (.cells #[.string (ba key), .int .i64 (h2 : Int)] 86)).drew.cell? ⟨x, 1, none⟩ = _ := (World.cell?_of_block (hWb.block x hxl)).trans hx1'
      have a1 : (wa.alloc (.cells #[.string (ba key), .int .i64 (h2 : Int)] 86)).drew.cell? ⟨d, 0, none⟩ = _ := (World.cell?_of_block (hWb.block d hdl2)).trans hd0
      have a2 : (wa.alloc (.cells #[.string (ba key), .int .i64 (h2 : Int)] 86)).drew.cell? ⟨d, 1, none⟩ = _ := (World.cell?_of_block (hWb.block d hdl2)).trans hd1
      have a3 : (wa.alloc (.cells #[.string (ba key), .int .i64 (h2 : Int)] 86)).drew.cell? ⟨bk, ok + h1, none⟩ = _ := (World.cell?_of_block (hWb.block bk hkl)).trans hkc'
      have hsz2 : w1.heap.size ≤ (wa.alloc (.cells #[.string (ba key), .int .i64 (h2 : Int)] 86)).drew.heap.size := HB2.out.size
      have hnx : ∀ k, (Value.slice At j ct).ownBlock = some k → k ≠ x ∧ k ≠ bk ∧ k ≠ d := fun k hk => by
        have := hOl k hk
        exact ⟨by omega, by omega, by omega⟩
      go_region_held_law (fun W => W.cell? ⟨x, 1, none⟩ = some (.slice (some ⟨bk, ok, none⟩) K ck) ∧ W.cell? ⟨d, 0, none⟩ = some (.int .i64 (h1 : Int)) ∧ W.cell? ⟨d, 1, none⟩ = some (.int .i64 (h2 : Int)) ∧ W.cell? ⟨bk, ok + h1, none⟩ = some (.string (ba key)))
        (first | exact ⟨hx1', hd0, hd1, hkc'⟩ | exact ⟨a0, a1, a2, a3⟩ | exact ⟨e0, e1, e2, e3⟩)
        ((refine stepE el_mat rfl _ _ rfl w1.heap.size _ j (VMt ((matsOf ds p).take j)) rfl hO2 (some ⟨wa.heap.size, 0, none⟩) 1 1 [.string (ba key), .int .i64 (h2 : Int)] rfl (fun e => by cases e) rfl hSn (fun u hu => by simp at hu; rcases hu with rfl | rfl <;> rfl) (by omega) hsz2 ?_; intro v7 w7 hown7 hg7 _ _; obtain ⟨A7, c7, hv7, -, -, -, -, -, -⟩ := own_form hown7; subst hv7; have e0 := (World.cell?_of_block (hg7.block x (World.block_lt_of_cell? _ _ a0) (fun e => (hnx x e.symm).1 rfl))).trans a0; have e1 := (World.cell?_of_block (hg7.block d (World.block_lt_of_cell? _ _ a1) (fun e => (hnx d e.symm).2.2 rfl))).trans a1; have e2 := (World.cell?_of_block (hg7.block d (World.block_lt_of_cell? _ _ a1) (fun e => (hnx d e.symm).2.2 rfl))).trans a2; have e3 := (World.cell?_of_block (hg7.block bk (World.block_lt_of_cell? _ _ a3) (fun e => (hnx bk e.symm).2.1 rfl))).trans a3; have H7 := Lib.hid hown7; have HB7 := Lib.hid (HB2.out.grown hg7 hsz2 (fun k hk => (World.ownsRow.lt hO2 k hk).1)); clear hown7 hg7))
      go_wp2_with fail
      go_roundw
      case rel => exact ⟨j + 1, by omega, by go_num, A7, c7, rfl, Lib.hid (by rw [Hsu.out, VMt_append]; exact H7.out), HB7⟩
      case measure => simp [intOf]; omega
    · obtain rfl : j = N := by omega
      have hOo := HO.out
      clear HO
      rw [List.take_of_length_le (by rw [Hml.out]; exact Nat.le_refl _)] at hOo
      obtain ⟨A9, c9, hv9, hS9, -, -, -, -, -⟩ := own_form hOo
      have HS9 := Lib.hid hS9
      injection hv9 with e1 e2 e3
      subst e1
      clear hOo hS9 e2 e3
      go_wp2_with fail
      go_ret
      exact ⟨At, ct, by rw [Hml.out]; rfl, HS9.out, HB1.out.trans (HB.out.mono hs1)⟩
end Go.Proofs.YtphccomhggnccaaGreat
namespace Go.Proofs.YtphccomhggnccaaGreat
set_option maxRecDepth 100000
set_option linter.unusedVariables false
set_option linter.unusedSimpArgs false
set_option maxRecDepth 100000
open Go.RowKit Sg Fm
set_option maxHeartbeats 2000000 in
theorem matches_true (w : World) (A B : Option Addr) (n c1 c2 : Nat) (l : List (Key × Nat)) (hA : Sl w A (VMt l)) (hB : Sl w B (VMt l)) (hl : l.length = n) (hn : n ≤ 1099511627776) :
    Calls Tryz.prog 43 #[.slice A n c1, .slice B n c2] w fun e w' => e = .returned (.bool true) ∧ ∃ q, w' = w.drewN q := by
  have HA := Lib.hid hA
  have HB := Lib.hid hB
  have Hl := Lib.hid hl
  clear hA hB hl
  have hd : (n == n) = true := by simp
  go_enter Tryz.func43, Tryz.ntmps43
  go_wp2_with fail
  go_loopw [5] (fun i wr => ∃ j q : Nat, j ≤ n ∧ i = .int .i64 (j : Int) ∧ wr = w.drewN q) (fun i _ => n - (intOf i).toNat)
  case atStart => exact ⟨0, 0, Nat.zero_le _, rfl, rfl⟩
  case round =>
    obtain ⟨j, q, hj, rfl, rfl⟩ := hrel
    by_cases hlt : j < n
    · obtain ⟨ba', oa, rfl, hca⟩ := HA.out.lit (j := j * 2) (by rw [VMt_length, Hl.out]; omega)
      obtain ⟨bb, ob, rfl, hcb⟩ := HB.out.lit (j := j * 2) (by rw [VMt_length, Hl.out]; omega)
      have hca1 := HA.out.cell _ rfl (j * 2 + 1) _ (VMt_get1 l j (by rw [Hl.out]; exact hlt))
      have hcb1 := HB.out.cell _ rfl (j * 2 + 1) _ (VMt_get1 l j (by rw [Hl.out]; exact hlt))
      rw [VMt_get0 l j (by rw [Hl.out]; exact hlt)] at hca hcb
      rw [show (⟨ba', oa, none⟩ : Addr).add (j * 2 + 1) = ⟨ba', oa + j * 2 + 1, none⟩ by unfold Addr.add; split <;> simp_all; omega] at hca1
      rw [show (⟨bb, ob, none⟩ : Addr).add (j * 2 + 1) = ⟨bb, ob + j * 2 + 1, none⟩ by unfold Addr.add; split <;> simp_all; omega] at hcb1
      generalize l.getD j ([], 0) = h at *
      obtain ⟨k, at'⟩ := h
      dsimp only [encStr] at *
      generalize ByteArray.mk k.toArray = s at *
      go_wp2_with fail
      go_quiet (fail)
      go_wp2_with fail
      go_roundw
      case rel => exact ⟨j + 1, q + nq, by omega, by go_num, by simp⟩
      case measure => simp [intOf]; omega
    · obtain rfl : j = n := by omega
      go_wp2_with fail
      go_ret
      exact ⟨rfl, q, rfl⟩
set_option maxHeartbeats 2000000 in
theorem texts_true (w : World) (A B : Option Addr) (n c1 c2 : Nat) (l : List Key) (hA : Sl w A (VS l)) (hB : Sl w B (VS l)) (hl : l.length = n) (hn : n ≤ 1099511627776) :
    Calls Tryz.prog 44 #[.slice A n c1, .slice B n c2] w fun e w' => e = .returned (.bool true) ∧ ∃ q, w' = w.drewN q := by
  have HA := Lib.hid hA
  have HB := Lib.hid hB
  have Hl := Lib.hid hl
  clear hA hB hl
  have hd : (n == n) = true := by simp
  go_enter Tryz.func44, Tryz.ntmps44
  go_wp2_with fail
  go_loopw [5] (fun i wr => ∃ j q : Nat, j ≤ n ∧ i = .int .i64 (j : Int) ∧ wr = w.drewN q) (fun i _ => n - (intOf i).toNat)
  case atStart => exact ⟨0, 0, Nat.zero_le _, rfl, rfl⟩
  case round =>
    obtain ⟨j, q, hj, rfl, rfl⟩ := hrel
    by_cases hlt : j < n
    · obtain ⟨ba', oa, rfl, hca⟩ := HA.out.lit (j := j) (by rw [VS_length, Hl.out]; omega)
      obtain ⟨bb, ob, rfl, hcb⟩ := HB.out.lit (j := j) (by rw [VS_length, Hl.out]; omega)
      rw [VS_get l j (by rw [Hl.out]; exact hlt)] at hca hcb
      generalize l.getD j [] = k at *
      dsimp only [encStr] at *
      generalize ByteArray.mk k.toArray = s at *
      go_wp2_with fail
      go_quiet (fail)
      go_wp2_with fail
      go_roundw
      case rel => exact ⟨j + 1, q + nq, by omega, by go_num, by simp⟩
      case measure => simp [intOf]; omega
    · obtain rfl : j = n := by omega
      go_wp2_with fail
      go_ret
      exact ⟨rfl, q, rfl⟩
set_option maxHeartbeats 2000000 in
theorem same9_true (w : World) (A B : Option Addr) (n c1 c2 : Nat) (l : List Nat) (hA : Sl w A (VY l)) (hB : Sl w B (VY l)) (hl : l.length = n) (hn : n ≤ 1099511627776) :
    Calls Tryz.prog 17 #[.slice A n c1, .slice B n c2] w fun e w' => e = .returned (.bool true) ∧ ∃ q, w' = w.drewN q := by
  have HA := Lib.hid hA
  have HB := Lib.hid hB
  have Hl := Lib.hid hl
  clear hA hB hl
  go_enter Tryz.func17, Tryz.ntmps17
  go_wp2_with fail
  go_loopw [5] (fun i wr => ∃ j q : Nat, j ≤ n ∧ i = .int .i64 (j : Int) ∧ wr = w.drewN q) (fun i _ => n - (intOf i).toNat)
  case atStart => exact ⟨0, 0, Nat.zero_le _, rfl, rfl⟩
  case round =>
    obtain ⟨j, q, hj, rfl, rfl⟩ := hrel
    by_cases hlt : j < n
    · obtain ⟨a, rfl, hca⟩ := HA.out.some (j := j) (by rw [VY_length, Hl.out]; omega)
      obtain ⟨b, rfl, hcb⟩ := HB.out.some (j := j) (by rw [VY_length, Hl.out]; omega)
      rw [VY_get l j (by rw [Hl.out]; exact hlt)] at hca hcb
      generalize l.getD j 0 = h at *
      go_wp2_with fail
      go_quiet (fail)
      go_wp2_with fail
      go_roundw
      case rel => exact ⟨j + 1, q + nq, by omega, by go_num, by simp⟩
      case measure => simp [intOf]; omega
    · obtain rfl : j = n := by omega
      go_wp2_with fail
      go_ret
      exact ⟨rfl, q, rfl⟩
theorem conv_bytes9 (W : World) (C : Array Value) (b n c : Nat) (hb : W.heap.size = b) :
    (convert 34 34 (.slice (some ⟨b, 0, none⟩) n c)).run Tryz.prog (W.alloc (.cells C 5)) = .ok (.slice (some ⟨b, 0, none⟩) n c) (W.alloc (.cells C 5 (C.size, C.size + 1))) := by
  subst hb
  exact Lib.run_convert_bytes_const W 34 5 C n c Tryz.underlying34 Tryz.underlying5
theorem sl_blkg {w : World} {b : Nat} {xs : List Value} {cs : Array Value} {t : TypeId} {fr : Nat × Nat} (h : w.heap[b]? = some (.cells cs t fr)) (e : cs = xs.toArray) : Sl w (some ⟨b, 0, none⟩) xs := by
  subst e
  exact sl_blk h
def twoD : List Dc := [([98], [120, 97, 121]), ([97], [97, 121])]
def oneG : List Key := [[99]]
def twoS : List Dc := [([97], [97, 121]), ([98], [120, 97, 121])]
theorem sortD_two : sortD twoD = twoS := (sortD_eq (m := twoS) (by decide) (by decide) (by decide)).symm
theorem srt_one : srt oneG = oneG := (srt_eq (List.Perm.refl _) (List.pairwise_singleton _ _)).symm
theorem mats_two : matsOf twoS [97, 121] = [([97], 0), ([98], 1)] := by decide
set_option maxHeartbeats 4000000 in
theorem known9_any (w : World) : Calls Tryz.prog 14 #[] w fun e w' => e = .returned (.bool true) ∧ Below w.heap.size w w' := by
  have kc := conv_bytes9
  go_enter Tryz.func14, Tryz.ntmps14
  go_wp2_with fail
  obtain ⟨b0, hb0⟩ : ∃ b, w.heap.size = b := ⟨_, rfl⟩
  obtain ⟨w3, hw3⟩ : ∃ w3, (((w.alloc (.cells #[.int .u8 120, .int .u8 97, .int .u8 121] 5 (3, 4))).alloc (.cells #[.int .u8 97, .int .u8 121] 5 (2, 3))).alloc (.cells #[.string ⟨#[98]⟩, .slice (some ⟨b0, 0, none⟩) 3 3, .string ⟨#[97]⟩, .slice (some ⟨b0 + 1, 0, none⟩) 2 2] 36)).alloc (.cells #[.string ⟨#[99]⟩] 9) = w3 := ⟨_, rfl⟩
  have hB3 : Below w.heap.size w w3 := by
    rw [← hw3]
    refine ((((Below.refl _ w).alloc ?_ _).alloc ?_ _).alloc ?_ _).alloc ?_ _ <;> simp <;> omega
  have hs3 : w3.heap.size = b0 + 4 := by rw [← hw3]; simp; omega
  have h0 : w3.heap[b0]? = some (.cells #[.int .u8 120, .int .u8 97, .int .u8 121] 5 (3, 4)) := by
    rw [← hw3, ← hb0]; exact blk_alloc (blk_alloc (blk_alloc (World.alloc_heap_new w _) _) _) _
  have h1 : w3.heap[b0 + 1]? = some (.cells #[.int .u8 97, .int .u8 121] 5 (2, 3)) := by
    rw [← hw3]
    have := World.alloc_heap_new (w.alloc (.cells #[.int .u8 120, .int .u8 97, .int .u8 121] 5 (3, 4))) (.cells #[.int .u8 97, .int .u8 121] 5 (2, 3))
    rw [World.size_alloc, hb0] at this
    exact blk_alloc (blk_alloc this _) _
  have h2 : w3.heap[b0 + 1 + 1]? = some (.cells #[.string ⟨#[98]⟩, .slice (some ⟨b0, 0, none⟩) 3 3, .string ⟨#[97]⟩, .slice (some ⟨b0 + 1, 0, none⟩) 2 2] 36 (0, 0)) := by
    rw [← hw3]
    have := World.alloc_heap_new ((w.alloc (.cells #[.int .u8 120, .int .u8 97, .int .u8 121] 5 (3, 4))).alloc (.cells #[.int .u8 97, .int .u8 121] 5 (2, 3))) (.cells #[.string ⟨#[98]⟩, .slice (some ⟨b0, 0, none⟩) 3 3, .string ⟨#[97]⟩, .slice (some ⟨b0 + 1, 0, none⟩) 2 2] 36)
    rw [World.size_alloc, World.size_alloc, hb0] at this
    exact blk_alloc this _
  have h3 : w3.heap[b0 + 1 + 1 + 1]? = some (.cells #[.string ⟨#[99]⟩] 9 (0, 0)) := by
    rw [← hw3]
    have := World.alloc_heap_new (((w.alloc (.cells #[.int .u8 120, .int .u8 97, .int .u8 121] 5 (3, 4))).alloc (.cells #[.int .u8 97, .int .u8 121] 5 (2, 3))).alloc (.cells #[.string ⟨#[98]⟩, .slice (some ⟨b0, 0, none⟩) 3 3, .string ⟨#[97]⟩, .slice (some ⟨b0 + 1, 0, none⟩) 2 2] 36)) (.cells #[.string ⟨#[99]⟩] 9)
    rw [World.size_alloc, World.size_alloc, World.size_alloc, hb0] at this
    exact this
  have hDA : DArg w3 (some ⟨b0 + 1 + 1, 0, none⟩) 2 2 [⟨[98], some ⟨b0, 0, none⟩, 3, 3, [120, 97, 121]⟩, ⟨[97], some ⟨b0 + 1, 0, none⟩, 2, 2, [97, 121]⟩] := by
    refine ⟨rfl, by omega, nofun, sl_blkg h2 rfl, fun e he => ?_⟩
    simp at he
    rcases he with rfl | rfl
    · exact ⟨rfl, Nat.le_refl _, nofun, sl_blkg h0 rfl, (by decide : ∀ b ∈ ([120, 97, 121] : List Nat), b < 256)⟩
    · exact ⟨rfl, Nat.le_refl _, nofun, sl_blkg h1 rfl, (by decide : ∀ b ∈ ([97, 121] : List Nat), b < 256)⟩
  have hGA : GArg w3 (some ⟨b0 + 1 + 1 + 1, 0, none⟩) 1 1 oneG := ⟨rfl, by omega, nofun, sl_blkg h3 rfl⟩
  have hLi : Lite twoD oneG := ⟨by decide, by decide⟩
  have HNw := Lib.hid (segnew_any w3 _ _ 2 2 1 1 _ oneG hDA hGA hLi)
  have HB3 := Lib.hid hB3
  rw [hb0, hw3]
  clear hw3 h0 h1 h2 h3 hDA hGA hB3 hs3 hb0 hLi
  refine HNw.out.mono ?_
  rintro e w4 (⟨-, x, sa, rfl, hSM, hB4⟩ | ⟨hR, -⟩)
  case inr => exact absurd (show Rise ([[98], [97]] ++ [[99]]) by decide) hR
  have hSM2 : SegM w4 w3.heap.size x twoS oneG sa := by
    rw [← sortD_two, ← srt_one]; exact hSM
  have HSM := Lib.hid (hSM2.mono HB3.out.size)
  have HB4 := Lib.hid (below_step HB3.out hB4)
  clear hSM hSM2 hB4 HNw
  go_wp2_with fail
  have hC5 := below_new w4 (.cells #[.int .u8 97, .int .u8 121] 5 (2, 3))
  have hS5 := HSM.out.below hC5
  have HFi := Lib.hid (findS_any hS5 (some ⟨w4.heap.size, 0, none⟩) 2 2 [97, 121] (sl_blkg (World.alloc_heap_new w4 _) rfl) rfl (by omega) (by decide) (by decide))
  rw [mats_two] at HFi
  have HS5 := Lib.hid hS5
  have HB5 := Lib.hid (HB4.out.trans (hC5.mono HB4.out.size))
  clear hS5 hC5
  refine HFi.out.mono ?_
  rintro e w6 ⟨A6, c6, rfl, hS6, hB6⟩
  have HS6 := Lib.hid hS6
  have HM6 := Lib.hid (HS5.out.below hB6)
  have HB6 := Lib.hid (below_step HB5.out hB6)
  clear hS6 hB6 HFi
  go_wp2_with fail
  have hC7 := below_new w6 (.cells #[.string ⟨#[97]⟩, .int .i64 0, .string ⟨#[98]⟩, .int .i64 1] 86)
  have HMa := Lib.hid (matches_true _ A6 (some ⟨w6.heap.size, 0, none⟩) 2 c6 2 [([97], 0), ([98], 1)] (HS6.out.below hC7) (sl_blkg (World.alloc_heap_new w6 _) rfl) rfl (by omega))
  refine HMa.out.mono ?_
  rintro e w7 ⟨rfl, q7, rfl⟩
  have hC8 := hC7.trans (below_drewN _ _ q7)
  have HM8 := Lib.hid (HM6.out.below hC8)
  have HB8 := Lib.hid (HB6.out.trans (hC8.mono HB6.out.size))
  clear HMa hC7 hC8
  generalize (w6.alloc (.cells #[.string ⟨#[97]⟩, .int .i64 0, .string ⟨#[98]⟩, .int .i64 1] 86)).drewN q7 = w8 at *
  have HGo := Lib.hid (goneS_any HM8.out (by decide))
  go_wp2_with fail
  refine HGo.out.mono ?_
  rintro e w9 ⟨v9, rfl, hown9, hB9⟩
  obtain ⟨A9, c9, rfl, hS9, -, -, -, -, -⟩ := own_form hown9
  have HS9 := Lib.hid hS9
  have HB9 := Lib.hid (below_step HB8.out hB9)
  clear hown9 hS9 hB9 HGo
  go_wp2_with fail
  have hCa := below_new w9 (.cells #[.string ⟨#[99]⟩] 9)
  have HTx := Lib.hid (texts_true _ A9 (some ⟨w9.heap.size, 0, none⟩) 1 c9 1 oneG (HS9.out.below hCa) (sl_blkg (World.alloc_heap_new w9 _) rfl) rfl (by omega))
  have HBa := Lib.hid (HB9.out.trans (hCa.mono HB9.out.size))
  clear hCa
  refine HTx.out.mono ?_
  rintro e wb ⟨rfl, qb, rfl⟩
  have HBb := Lib.hid (HBa.out.trans (below_drewN _ _ qb))
  go_wp2_with fail
  go_ret
  exact ⟨rfl, HBb.out⟩
end Go.Proofs.YtphccomhggnccaaGreat
