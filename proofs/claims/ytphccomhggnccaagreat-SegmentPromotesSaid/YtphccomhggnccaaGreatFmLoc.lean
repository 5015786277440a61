/- fm: Locate. -/
import Derived.Test.YtphccomhggnccaaGreatFmCount
import Derived.Test.YtphccomhggnccaaGreatFmHitB
import Derived.Test.YtphccomhggnccaaGreatFmPlo
import Derived.Test.YtphccomhggnccaaGreatFmTwo
namespace Go.Proofs.YtphccomhggnccaaGreat
set_option linter.unusedVariables false
set_option linter.unusedSimpArgs false
set_option maxRecDepth 100000
open Go.RowKit Fm Rank

theorem info_hit : (Tryz.prog.info? 55).map (fun i => (i.zero, i.size, i.bytes)) = some (some (.agg #[.int .i64 0, .int .i64 0]), 2, 16) := by kernel_rfl
theorem app_hit {w : World} {ops : Array Oper} {rest : List Oper} {o : Oper} {a : Act} {Q : Exit → Act → World → Prop} (hgd : o.guard = none) (s x : Operand)
    (ho : o.op = .call { callee := .builtin .append, args := #[s, x], argTypes := #[49, 49] })
    (base : Nat) (v : Value) (xs : List (Int × Int)) (hs : a.eval s = v) (hown : w.ownsRow base 55 2 v xs.length (VH xs))
    (ad : Addr) (m c : Nat) (news : List (Int × Int)) (hx : a.eval x = .slice (some ad) m c) (hl : news.length = m) (hnews : Sl w (some ad) (VH news))
    (h63 : xs.length + m ≤ 1099511627776) (hbase : base ≤ w.heap.size)
    (h : ∀ v' w', w'.ownsRow base 55 2 v' (xs ++ news).length (VH (xs ++ news)) → w.grownBy w' v.ownBlock → wpList Tryz.prog ops Q rest (a.put o.dst v') w') : wpList Tryz.prog ops Q (o :: rest) a w := by
  obtain ⟨i0, hi, hz0, hz1, hz2⟩ := info_parts info_hit
  refine wpList_append_own w hgd s x 49 ho base 55 i0 (.agg #[.int .i64 0, .int .i64 0]) 2 16 Tryz.underlying49 hi hz0 hz1 hz2 rfl (by decide) v xs.length (VH xs) hs hown ad m c (VH news) hx (by rw [VH_length]; omega) (hnews.cell ad rfl) (VH_one _) (by unfold maxLen; omega) (by omega) hbase ?_
  intro v' w' h1 h2 h3
  refine h v' w' ?_ h2
  rw [List.length_append, hl, VH_append]
  exact h1
theorem own_form2 {w : World} {base : Nat} {e : TypeId} {v : Value} {n : Nat} {xs : List Value} (h : w.ownsRow base e 2 v n xs) : ∃ A c, v = .slice A n c := by
  rcases h.2 with ⟨rfl, rfl⟩ | ⟨g, cap, cur, rfl, _⟩
  · exact ⟨none, 0, rfl⟩
  · exact ⟨_, _, rfl⟩
/-- the text of a place, and where in it -/
def hitS (s : List Nat) (p : Nat) : Int × Int := (((docOf (stp s s.length) p : Nat) : Int), ((p - (stp s s.length).getD (docOf (stp s s.length) p) 0 : Nat) : Int))
/-- the first j that are found -/
def fnd (s sa : List Nat) (f j : Nat) : List (Int × Int) := (List.range j).map fun i => hitS s (sa.getD (f + i) 0)
theorem fnd_succ (s sa : List Nat) (f j : Nat) : fnd s sa f (j + 1) = fnd s sa f j ++ [hitS s (sa.getD (f + j) 0)] := by simp [fnd, List.range_succ]
theorem fnd_length (s sa : List Nat) (f j : Nat) : (fnd s sa f j).length = j := by simp [fnd]
/-- a row of places that a call hands back -/
def Hits (w : World) (l : List (Int × Int)) (e : Ending) (w' : World) : Prop := ∃ A c, e = .returned (.slice A l.length c) ∧ Sl w' A (VH l) ∧ Below w.heap.size w w'
set_option maxHeartbeats 4000000 in
theorem locate_any {w : World} {base x : Nat} {s sa : List Nat} (h : IdxM w base x s sa) (A : Option Addr) (n cap : Nat) (p : List Nat) (hA : Sl w A (VY p)) (hl : p.length = n) (hn : n ≤ 1099511627776) (hb : ∀ c ∈ p, c < 256) :
    Calls Tryz.prog 20 #[.pointer (some ⟨x, 0, none⟩), .slice A n cap] w fun e w' => ∃ f t : Nat, ((p ≠ [] ∧ f < t ∧ f = cnt s (cut false · (p.map (· + 2))) ∧ t = cnt s (cut true · (p.map (· + 2)))) ∨ (f = 0 ∧ t = 0 ∧ occP s p = [])) ∧ Hits w ((fnd s sa f (t - f)).mergeSort leHit) e w' := by
  have HF := Lib.hid (find_all h A n cap p hA hl hn hb)
  have HI := Lib.hid h
  have HO := Lib.hid h.ord
  have hsl := h.len
  clear hA hl hb h
  go_enter Tryz.func20, Tryz.ntmps20
  go_wp2_with fail
  go_at_call 56
  refine HF.out.mono ?_
  rintro e w1 ⟨f, t, rfl, hf, hB1⟩
  obtain ⟨h1, h2, h3⟩ := find_len HO.out hf
  have Hf := Lib.hid hf
  have HB1 := Lib.hid hB1
  clear hf h3 HF
  have hb1 := hB1.size
  clear hB1
  go_wp2_with fail
  go_loopw [5, 8, 9, 10, 11, 19] (fun l q s9 s10 s11 q2 wr => ∃ j : Nat, f + j ≤ t ∧ q = .int .i64 ((f + j : Nat) : Int) ∧ wr.ownsRow w1.heap.size 55 2 l j (VH (fnd s sa f j)) ∧ Below w1.heap.size w1 wr) (fun _ q _ _ _ _ _ => t - (intOf q).toNat)
  case atStart => exact ⟨0, by omega, rfl, World.ownsRow_nil _ _ _ _, Below.refl _ _⟩
  case round =>
    obtain ⟨j, hj, rfl, hown, hB⟩ := hrel
    obtain ⟨i, hi⟩ : ∃ i, f + j = i := ⟨_, rfl⟩
    by_cases hlt : i < t
    · have hIw := (HI.out.below (below_step HB1.out hB))
      have HP := Lib.hid (place_any hIw i (by omega))
      have hpl : sa.getD i 0 < s.length := HO.out.lt (by rw [getD_at (by rw [HO.out.length]; omega)]; exact List.getElem_mem _)
      obtain ⟨g1, g2, g3, g4, g5, tr, gg, y, yc, mb, pb, pg, kk, rb, r, b1, b2, b3, b4, b5, c0, c1, c2, ⟨cur, c3, c3t⟩, c4, c5, c6, c7, c8⟩ := hIw
      have HX := Lib.hid c0
      have HY := Lib.hid c3
      have Hyt := Lib.hid c3t
      obtain ⟨hd1, hd2, hd3, hd4⟩ := doc_search s s.length (sa.getD i 0)
      have hle9 := doc_le (stp s s.length) (stp_sorted s s.length) (sa.getD i 0) (by
        have := count_split (stp s s.length) (stp_sorted s s.length) (sa.getD i 0)
        cases hcn : (stp s s.length).contains (sa.getD i 0) with
        | true => rw [hcn, if_pos rfl] at this; omega
        | false => have := hd2 hcn; rename_i h9; omega)
      have hsle := stp_le s s.length
      have hyl : (stp s s.length).length ≤ yc := c4
      have hstI : (NI (stp s s.length)).Pairwise (· ≤ ·) := NI_sorted _ (stp_sorted s s.length)
      have HstI := Lib.hid hstI
      have hh : hitS s (sa.getD i 0) = (((docOf (stp s s.length) (sa.getD i 0) : Nat) : Int), ((sa.getD i 0 - (stp s s.length).getD (docOf (stp s s.length) (sa.getD i 0)) 0 : Nat) : Int)) := rfl
      have Hsu := Lib.hid (fnd_succ s sa f j)
      rw [hi, hh] at Hsu
      have HSt := Lib.hid (sl_take c3 c3t)
      have hcd := sl_cell HSt.out (VI_get (NI (stp s s.length)) (docOf (stp s s.length) (sa.getD i 0)) (by rw [NI_length]; exact hd3))
      rw [NI_getD _ _ hd3] at hcd
      have Hcn := Lib.hid (NI_countP (stp s s.length) (sa.getD i 0))
      have Hct := Lib.hid (NI_contains (stp s s.length) (sa.getD i 0))
      have HOw : Hid (∀ W', Below wr.heap.size wr W' → OwnH 0 W' (.slice (some ⟨y, 0, none⟩) (stp s s.length).length yc) (NI (stp s s.length))) := fun W' hb => by
        have hb' := (hb.block y (blk_lt c3)).trans c3
        refine .inr ⟨y, yc, by rw [NI_length], Nat.zero_le _, blk_lt hb', by rw [NI_length]; exact hyl, fun k hk => ?_⟩
        have hk' : k < (NI (stp s s.length)).length := by simpa using hk
        rw [Nat.zero_add, cell_blk hb', frozen_blk hb', arr_at _ _ hk']
        refine ⟨?_, rfl⟩
        have h1 := VI_get (NI (stp s s.length)) k hk'
        rw [← c3t, List.getElem?_take, if_pos (by rw [NI_length] at hk'; exact hk')] at h1
        simpa using h1
      clear c1 c2 c3 c3t c4 c5 c6 c7 c8 g1 g2 g3 g4 g5 b1 b2 b3 b4 b5 c0 hh hstI
      generalize sa.getD i 0 = pp at *
      generalize docOf (stp s s.length) pp = d at *
      generalize (stp s s.length).getD d 0 = sv at *
      generalize (stp s s.length).countP (fun x => decide (x < pp)) = q at *
      rw [hi]
      have HB := Lib.hid hB
      obtain ⟨A5, c5, hv5⟩ := own_form2 hown
      subst hv5
      have Hown := Lib.hid hown
      clear hown hB
      by_cases hcn : (stp s s.length).contains pp = true
      · rw [hcn] at Hct hd1
        go_wp2_with fail
        go_at_call 57
        refine HP.out.mono ?_
        rintro e w2 ⟨rfl, hB2⟩
        have hc2 := (cell_blk ((hB2.block x (blk_lt HX.out)).trans HX.out) 2).trans rfl
        have HB2 := Lib.hid hB2
        have hcd2 := (hB2.cell (p := ⟨y, d, none⟩) (World.block_lt_of_cell? _ _ hcd)).trans hcd
        have HSr := Lib.hid (search_own (HOw.out w2 hB2) (by rw [NI_length]; omega) HstI.out (pp : Int))
        rw [Hcn.out, Hct.out] at HSr
        clear hB2 hcd
        go_wp2_with fail
        go_at_call 58
        refine HSr.out.mono ?_
        rintro e w3 ⟨rfl, nn, rfl⟩
        obtain rfl : d = q := by simpa using hd1
        have e1 : (0 : Int) ≤ (d : Int) := by omega
        have e2 : (d : Int) < ((stp s s.length).length : Int) := by omega
        have e3 : IntKind.i64.wrap ((pp : Int) - (sv : Int)) = ((pp - sv : Nat) : Int) := by rw [IntWalk.i64_in _ (by omega)]; omega
        clear HSr hd1
        have hB3 := HB2.out.trans (below_drewN wr.heap.size w2 nn)
        have hs3 := hB3.size
        have hown3 : (w2.drewN nn).ownsRow w1.heap.size 55 2 (.slice A5 j c5) (fnd s sa f j).length (VH (fnd s sa f j)) := by rw [fnd_length]; exact own_below Hown.out hB3
        have HB3 := Lib.hid hB3
        have hlw := World.ownsRow.lt Hown.out
        have Hlw := Lib.hid hlw
        have hszB := HB.out.size
        clear hB3 hlw
        go_wp2_with (at_builtin; refine app_hit rfl _ _ rfl w1.heap.size _ (fnd s sa f j) rfl (World.ownsRow.alloc hown3 _) ⟨(w2.drewN nn).heap.size, 0, none⟩ 1 1 [((d : Int), ((pp - sv : Nat) : Int))] rfl rfl (sl_blk (heap_alloc_new (w2.drewN nn) _)) (by rw [fnd_length]; omega) (by simp at hs3 ⊢; omega) ?_; intro v6 w6 hown6 hg6)
        have Hown6 := Lib.hid hown6
        have Hg6 := Lib.hid hg6
        clear hown6 hg6 hown3
        go_roundw
        case rel =>
          have h9 := Hown6.out
          rw [← Hsu.out, fnd_length] at h9
          refine ⟨j + 1, by omega, congrArg (Value.int .i64) (by omega), h9, ?_⟩
          exact ((HB.out.trans (HB3.out.mono hszB)).alloc (by simp at hs3 ⊢; omega) _).grown Hg6.out (by simp at hs3 ⊢; omega) (fun k hk => (Hlw.out k hk).1)
        case measure =>
          show t - ((i : Int) + 1).toNat < t - ((i : Int)).toNat
          omega
      · have hcf : (stp s s.length).contains pp = false := by simpa using hcn
        have hq1 := hd2 hcf
        rw [hcf] at Hct hd1
        go_wp2_with fail
        go_at_call 57
        refine HP.out.mono ?_
        rintro e w2 ⟨rfl, hB2⟩
        have hc2 := (cell_blk ((hB2.block x (blk_lt HX.out)).trans HX.out) 2).trans rfl
        have HB2 := Lib.hid hB2
        have hcd2 := (hB2.cell (p := ⟨y, d, none⟩) (World.block_lt_of_cell? _ _ hcd)).trans hcd
        have HSr := Lib.hid (search_own (HOw.out w2 hB2) (by rw [NI_length]; omega) HstI.out (pp : Int))
        rw [Hcn.out, Hct.out] at HSr
        clear hB2 hcd
        go_wp2_with fail
        go_at_call 58
        refine HSr.out.mono ?_
        rintro e w3 ⟨rfl, nn, rfl⟩
        obtain rfl : q = d + 1 := by
          simp at hd1
          omega
        have e1 : (0 : Int) ≤ (d : Int) := by omega
        have e2 : (d : Int) < ((stp s s.length).length : Int) := by omega
        have e3 : IntKind.i64.wrap ((pp : Int) - (sv : Int)) = ((pp - sv : Nat) : Int) := by rw [IntWalk.i64_in _ (by omega)]; omega
        clear HSr hd1
        have hB3 := HB2.out.trans (below_drewN wr.heap.size w2 nn)
        have hs3 := hB3.size
        have hown3 : (w2.drewN nn).ownsRow w1.heap.size 55 2 (.slice A5 j c5) (fnd s sa f j).length (VH (fnd s sa f j)) := by rw [fnd_length]; exact own_below Hown.out hB3
        have HB3 := Lib.hid hB3
        have hlw := World.ownsRow.lt Hown.out
        have Hlw := Lib.hid hlw
        have hszB := HB.out.size
        clear hB3 hlw
        go_wp2_with (at_builtin; refine app_hit rfl _ _ rfl w1.heap.size _ (fnd s sa f j) rfl (World.ownsRow.alloc hown3 _) ⟨(w2.drewN nn).heap.size, 0, none⟩ 1 1 [((d : Int), ((pp - sv : Nat) : Int))] rfl rfl (sl_blk (heap_alloc_new (w2.drewN nn) _)) (by rw [fnd_length]; omega) (by simp at hs3 ⊢; omega) ?_; intro v6 w6 hown6 hg6)
        have Hown6 := Lib.hid hown6
        have Hg6 := Lib.hid hg6
        clear hown6 hg6 hown3
        go_roundw
        case rel =>
          have h9 := Hown6.out
          rw [← Hsu.out, fnd_length] at h9
          refine ⟨j + 1, by omega, congrArg (Value.int .i64) (by omega), h9, ?_⟩
          exact ((HB.out.trans (HB3.out.mono hszB)).alloc (by simp at hs3 ⊢; omega) _).grown Hg6.out (by simp at hs3 ⊢; omega) (fun k hk => (Hlw.out k hk).1)
        case measure =>
          show t - ((i : Int) + 1).toNat < t - ((i : Int)).toNat
          omega
    · rw [hi]
      obtain rfl : t = i := by omega
      obtain ⟨w5, rfl⟩ : ∃ w5 : World, w5 = wr := ⟨_, rfl⟩
      obtain ⟨A5, c5, hv5⟩ := own_form2 hown
      subst hv5
      have hj9 : j = t - f := by omega
      have HS := Lib.hid (sortHit_any (v := .slice A5 j c5) (l := fnd s sa f j) (by rw [fnd_length]; exact hown) (by rw [fnd_length]; omega) hB.size)
      have HB := Lib.hid hB
      have Hj := Lib.hid hj9
      have Hi := Lib.hid hi
      clear hown hB hj9 hi
      go_wp2_with fail
      go_at_call 59
      refine HS.out.mono ?_
      rintro e w6 ⟨rfl, ⟨A9, c9, hv9, hS9⟩, hB9⟩
      have HS9 := Lib.hid hS9
      have HB9 := Lib.hid hB9
      have Hv9 := Lib.hid hv9
      clear hS9 hB9 hv9 HS
      go_wp2_with fail
      go_ret
      have hms : ((fnd s sa f (t - f)).mergeSort leHit).length = t - f := by rw [List.length_mergeSort, fnd_length]
      have hjj := Hj.out
      subst hjj
      have h9 := Hv9.out
      rw [fnd_length] at h9
      refine ⟨f, t, Hf.out, A9, c9, ?_, HS9.out, ?_⟩
      · rw [hms]; exact ret_val h9
      · exact below_step HB1.out (HB.out.trans HB9.out)
end Go.Proofs.YtphccomhggnccaaGreat
