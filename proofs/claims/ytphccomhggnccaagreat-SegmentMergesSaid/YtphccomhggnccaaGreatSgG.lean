/- segment.Get; a text that is taken whole. -/
import Derived.Test.YtphccomhggnccaaGreatSgZ
import Derived.Test.YtphccomhggnccaaGreatRfM
import Derived.Test.YtphccomhggnccaaGreatFmX
import Derived.Deep.RegionHeld3
import Derived.Test.YtphccomhggnccaaGreatRfN
import Derived.Test.YtphccomhggnccaaGreatFmF
import Derived.Deep.RegionHeldLaw
import Derived.Test.YtphccomhggnccaaGreatSgB
import Derived.Test.YtphccomhggnccaaGreatRfB
set_option linter.unusedVariables false
set_option linter.unusedSimpArgs false
set_option maxRecDepth 100000
namespace Go.Proofs.YtphccomhggnccaaGreat
open Go.RowKit Sg Fm
theorem extract_len {w : World} {base x : Nat} {ts : List (List Nat)} {sa : List Nat} (h : IdxM w base x (rowT ts) sa) (hlt : ∀ t ∈ ts, ∀ b ∈ t, b < 256) (d : Nat) (hd : d < ts.length) (hn : (ts.getD d []).length ≤ 1099511627776) :
    Calls Tryz.prog 24 #[.pointer (some ⟨x, 0, none⟩), .int .i64 (d : Int), .int .i64 0, .int .i64 (((ts.getD d []).length : Nat) : Int)] w (OwnY w (ts.getD d [])) := by
  by_cases h0 : (ts.getD d []).length = 0
  · have HL := Lib.hid (lenT h d hd)
    have e1 := List.eq_nil_of_length_eq_zero h0
    rw [e1] at HL ⊢
    clear h hlt h0 e1 hn
    go_enter Tryz.func24, Tryz.ntmps24
    go_wp2_with (go_at_call 65; refine HL.out.mono ?_; rintro e w' ⟨rfl, q, rfl⟩)
    go_ret
    exact ⟨_, rfl, World.ownsRow_nil _ _ _ _, below_drewN _ _ _⟩
  · refine (extract_in h hlt d 0 (ts.getD d []).length (((ts.getD d []).length : Nat) : Int) hd (by omega) (by omega) (by omega)).mono ?_
    rintro e w' ⟨g, he, hg, hb, hB⟩
    rw [List.drop_zero, List.take_length] at he hb
    exact ⟨_, he, own_blkY hb hg hn, hB⟩
theorem textsD_lt2 {w : World} {es : List De} (h : ∀ e ∈ es, TxtOk w e) : ∀ t ∈ textsD (sortD (es.map De.dc)), ∀ b ∈ t, b < 256 := by
  intro t ht
  obtain ⟨d, hd, rfl⟩ := List.mem_map.1 ht
  obtain ⟨e, he, rfl⟩ := List.mem_map.1 ((sortD_perm _).mem_iff.1 hd)
  exact (h e he).lt
theorem idx_text {ds : List Dc} (hn : (keysD ds).Nodup) {i : Nat} {k : Key} (hi : i < ds.length) (hk : (keysD ds).getD i [] = k) : (txtOf ds k).getD [] = (textsD ds).getD i [] := by
  have e1 : (keysD ds).getD i [] = ds[i].1 := by simp [keysD, List.getD, hi]
  have e2 : (textsD ds).getD i [] = ds[i].2 := by simp [textsD, List.getD, hi]
  rw [e2, ← hk, e1, txtOf_mem hn (List.getElem_mem hi)]
  rfl
def GetP (w : World) (ds : List Dc) (gs : List Key) (k : Key) (e : Ending) (w' : World) : Prop :=
  ∃ v, e = .returned (.tuple #[v, .bool ((keysD ds).contains k), .bool ((keysD ds).contains k || gs.contains k)]) ∧ w'.ownsRow w.heap.size 5 1 v ((txtOf ds k).getD []).length (VY ((txtOf ds k).getD [])) ∧ Below w.heap.size w w'
structure KeysOk (l : List Key) : Prop where
  s : l.Pairwise (· ≤ ·)
  n : l.Nodup
structure SegOk (ds : List Dc) (gs : List Key) : Prop where
  kd : KeysOk (keysD ds)
  kg : KeysOk gs
  r : Rise (keysD ds ++ gs)
  l : Lite ds gs
  b : ∀ t ∈ textsD ds, ∀ c ∈ t, c < 256
theorem SegOk.nd {ds : List Dc} {gs : List Key} (h : SegOk ds gs) : ds.length ≤ 4000 := by
  have h1 := wtD_len ds
  have h2 := h.l.w
  omega
theorem SegOk.ng {ds : List Dc} {gs : List Key} (h : SegOk ds gs) : gs.length ≤ 4000 := by
  have h1 := wtG_len gs
  have h2 := h.l.w
  omega
theorem SegOk.tl {ds : List Dc} {gs : List Key} (h : SegOk ds gs) : ∀ t ∈ textsD ds, t.length ≤ 4096 := by
  intro t ht
  obtain ⟨d, hd, rfl⟩ := List.mem_map.1 ht
  exact h.l.t d hd
theorem segOk_of {w : World} {es : List De} {gs : List Key} (hr : Rise (keysD (es.map De.dc) ++ gs)) (hl : Lite (es.map De.dc) gs) (ht : ∀ e ∈ es, TxtOk w e) : SegOk (sortD (es.map De.dc)) (srt gs) := by
  have hp : (keysD (sortD (es.map De.dc)) ++ srt gs).Perm (keysD (es.map De.dc) ++ gs) := ((sortD_perm _).map _).append (srt_perm _)
  have hr2 := hr.perm hp
  obtain ⟨n1, n2, n3⟩ := List.nodup_append.1 hr2.2
  refine ⟨⟨?_, n1⟩, ⟨srt_sorted _, n2⟩, hr2, hl.perm (sortD_perm _) (srt_perm _), textsD_lt2 ht⟩
  rw [keysD_sortD]
  exact srt_sorted _
set_option maxHeartbeats 4000000 in
theorem getS_any {w : World} {base x : Nat} {ds : List Dc} {gs : List Key} {sa : List Nat} (h : SegM w base x ds gs sa) (ok : SegOk ds gs) (k : Key) :
    Calls Tryz.prog 29 #[.pointer (some ⟨x, 0, none⟩), .string (ba k)] w (GetP w ds gs k) := by
  have hk := ok.kd
  have hg := ok.kg
  have hlt := ok.b
  have htl : ∀ t ∈ textsD ds, t.length ≤ 1099511627776 := fun t ht => by have := ok.tl t ht; omega
  have hl : ds.length ≤ 1099511627776 := by have := ok.nd; omega
  have hl2 : gs.length ≤ 1099511627776 := by have := ok.ng; omega
  clear ok
  obtain ⟨ix, Ak, Ag, ck, cg, h1, h2, h3, h4, h5, h6, h7, h8⟩ := h.blk
  have hx0 : w.cell? ⟨x, 0, none⟩ = some (.pointer (some ⟨ix, 0, none⟩)) := cell_blk h1 0
  have hx1 : w.cell? ⟨x, 1, none⟩ = some (.slice Ak ds.length ck) := cell_blk h1 1
  have hx2 : w.cell? ⟨x, 2, none⟩ = some (.slice Ag gs.length cg) := cell_blk h1 2
  have HW := Lib.hid (swhole_any hx0)
  have HSK := searchS_any w Ak ds.length ck (keysD ds) k h3 (keysD_length ds) h5.sp hl hk.s hk.n
  have HSG := Lib.hid (fun q => searchS_any (w.drewN q) Ag gs.length cg gs k (h4.drewN q) rfl h6.sp hl2 hg.s hg.n)
  have hcm := countP_mem hk.s hk.n k
  obtain ⟨i, hi⟩ : ∃ i, ((keysD ds).countP fun y => decide (y < k)) = i := ⟨_, rfl⟩
  rw [hi] at hcm HSK
  obtain ⟨b, hb⟩ : ∃ b, (keysD ds).contains k = b := ⟨_, rfl⟩
  have Hb := Lib.hid hb
  rw [hb] at hcm HSK
  have HSK := Lib.hid HSK
  cases b with
  | true =>
    have hcm := of_decide_eq_true hcm
    have hil : i < ds.length := by have := hcm.1; rwa [keysD_length] at this
    have htx := idx_text hk.n hil (ba_inj hcm.2)
    have hil' : i < (textsD ds).length := by rw [textsD_length]; exact hil
    have hmem : (textsD ds).getD i [] ∈ textsD ds := by simp [List.getD, hil']
    have HLe := Lib.hid (fun (W : World) (hW : Below w.heap.size w W) => lenT (h2.below hW) i hil')
    have HEx := Lib.hid (fun (W : World) (hW : Below w.heap.size w W) => extract_len (h2.below hW) hlt i hil' (htl _ hmem))
    rw [← htx] at HLe HEx
    have htb := htl _ hmem
    rw [← htx] at htb
    unfold GetP
    rw [Hb.out, Bool.true_or]
    generalize (txtOf ds k).getD [] = t at *
    obtain ⟨tl, htl'⟩ : ∃ tl, t.length = tl := ⟨_, rfl⟩
    have Htl := Lib.hid htl'
    rw [htl'] at HLe HEx htb
    obtain ⟨dl, hdl⟩ : ∃ dl, ds.length = dl := ⟨_, rfl⟩
    rw [hdl] at hx1 HSK hil hl
    clear h h1 h2 h3 h4 h5 h6 h7 h8 hk hg hlt htl hcm hb hi hdl HSG htx hil' hmem htl'
    go_enter Tryz.func29, Tryz.ntmps29
    go_wp2_with (go_at_call 55; refine HW.out.mono ?_; rintro e w' ⟨rfl, rfl⟩)
    go_at_call 71
    refine HSK.out.mono ?_
    rintro e w1 ⟨rfl, q, rfl⟩
    have hw1 := below_drewN w.heap.size w q
    have HLe1 := Lib.hid (fun (W : World) (hW : W.cell? ⟨x, 0, none⟩ = some (.pointer (some ⟨ix, 0, none⟩)) ∧ Below (w.drewN q).heap.size (w.drewN q) W) => HLe.out W (below_step hw1 hW.2))
    have HEx1 := Lib.hid (fun (W : World) (hW : W.cell? ⟨x, 0, none⟩ = some (.pointer (some ⟨ix, 0, none⟩)) ∧ Below (w.drewN q).heap.size (w.drewN q) W) => HEx.out W (below_step hw1 hW.2))
    have HK0 : Hid ((w.drewN q).cell? ⟨x, 0, none⟩ = some (.pointer (some ⟨ix, 0, none⟩))) := Lib.hid hx0
    have HBw := Lib.hid hw1
    have hx0' := HK0.out
    have hsz : (w.drewN q).heap.size = w.heap.size := rfl
    have Hsz := Lib.hid hsz
    clear hw1 HLe HEx hx0 hx1 hx2 HSK HW hsz
    generalize w.drewN q = w1 at *
    go_upto_region 5 with fail
    go_cut [4, 5, 6] (fun a b c wx => b = .bool true ∧ c = .bool true ∧ ∃ A cc, a = .slice A tl cc ∧ Hid (wx.ownsRow w1.heap.size 5 1 (.slice A tl cc) tl (VY t) ∧ Below w1.heap.size w1 wx))
    case first =>
      go_region_held3 (fun w' => w'.cell? ⟨x, 0, none⟩ = some (.pointer (some ⟨ix, 0, none⟩)) ∧ Below w1.heap.size w1 w')
        (first | assumption | exact keep0 HK0.out _ | exact keepD HK0.out _ | exact keep00 HK0.out | exact keepS (by assumption) (by assumption) | exact keepE HK0.out (by assumption))
        (first | (go_at_call 65; refine (HLe1.out _ (by assumption)).mono ?_; rintro e w5' ⟨rfl, q5, rfl⟩) | (go_at_call 24; refine (HEx1.out _ (by assumption)).mono ?_; rintro e w6' ⟨v6, rfl, ho6, hB6⟩) | fail)
      all_goals go_wp2_with fail
      all_goals go_meet
      all_goals
        rw [Htl.out] at ho6
        obtain ⟨A7, c7, hv7, -, -, -, -, -, -⟩ := own_form ho6
        subst hv7
        refine ⟨rfl, rfl, A7, c7, rfl, Lib.hid ⟨own_mono ho6 (below_drewN w1.heap.size w1 _).size, ?_⟩⟩
        exact (by assumption : _ ∧ _).2
    case rest =>
      obtain ⟨rfl, rfl, A7, c7, rfl, H7⟩ := hcut
      go_wp2_with fail
      go_ret3
      refine ⟨_, rfl, ?_, HBw.out.trans (H7.out.2.mono HBw.out.size)⟩
      rw [Htl.out]
      exact own_mono H7.out.1 HBw.out.size
  | false =>
    have hno : k ∉ keysD ds := fun hm => by
      have := List.contains_iff_mem.2 hm
      rw [hb] at this
      cases this
    unfold GetP
    rw [Hb.out, Bool.false_or, txtOf_none hno]
    obtain ⟨dl, hdl⟩ : ∃ dl, ds.length = dl := ⟨_, rfl⟩
    rw [hdl] at hx1 HSK hl
    obtain ⟨gl, hgl⟩ : ∃ gl, gs.length = gl := ⟨_, rfl⟩
    rw [hgl] at hx2 HSG hl2
    generalize gs.contains k = gb at *
    generalize (gs.countP fun y => decide (y < k)) = gi at *
    clear h h1 h2 h3 h4 h5 h6 h7 h8 hk hg hlt htl hcm hb hi hdl hgl hno
    go_enter Tryz.func29, Tryz.ntmps29
    go_wp2_with (go_at_call 55; refine HW.out.mono ?_; rintro e w' ⟨rfl, rfl⟩)
    go_at_call 71
    refine HSK.out.mono ?_
    rintro e w1 ⟨rfl, q, rfl⟩
    have hx2' : (w.drewN q).cell? ⟨x, 2, none⟩ = some (.slice Ag gl cg) := hx2
    have HG1 := Lib.hid (HSG.out q)
    have HBw := Lib.hid (below_drewN w.heap.size w q)
    clear hx0 hx1 hx2 HSK HW HSG
    generalize w.drewN q = w1 at *
    go_wp2_with fail
    go_at_call 71
    refine HG1.out.mono ?_
    rintro e w2 ⟨rfl, q2, rfl⟩
    have HB2 := Lib.hid (HBw.out.trans (below_drewN _ w1 q2))
    go_wp2_with fail
    go_ret3
    exact ⟨_, rfl, World.ownsRow_nil _ _ _ _, HB2.out⟩
end Go.Proofs.YtphccomhggnccaaGreat
namespace Go.Proofs.YtphccomhggnccaaGreat
open Go.RowKit Sg Fm Rank
set_option maxHeartbeats 4000000 in
theorem spoil9_any (w : World) (base : Nat) (A : Option Addr) (cap : Nat) (p : List Nat) (hown : w.ownsRow base 5 1 (.slice A p.length cap) p.length (VY p)) (hn : p.length ≤ 65536) (hbase : base ≤ w.heap.size) :
    Calls Tryz.prog 26 #[.slice A p.length cap] w fun e w' => e = .returned (.tuple #[]) ∧ w.grownBy w' (Value.slice A p.length cap).ownBlock := by
  obtain ⟨ob, hob⟩ : ∃ ob, (Value.slice A p.length cap).ownBlock = ob := ⟨_, rfl⟩
  have Hob := Lib.hid hob
  clear hob
  go_enter Tryz.func26, Tryz.ntmps26
  go_wp2_with (at_builtin; refine app_u8_mv rfl _ _ rfl base _ p rfl (World.ownsRow.alloc hown _) ⟨w.heap.size, 0, none⟩ 1 1 [99] rfl rfl (sl_blk (heap_alloc_new w _)) (by omega) (by simp; omega) ?_; intro v3 w3 hown3 hg3 hmv3; obtain ⟨g3, cap3, cur3, rfl, hb3, hc3, ho3⟩ := own_blkP hown3 (by simp))
  have hg3 : (w.alloc (.cells #[.int .u8 99] 5)).grownBy w3 ob := (congrArg (fun o => (w.alloc (.cells #[.int .u8 99] 5)).grownBy w3 o) Hob.out).mp hg3
  have hmv3 : some g3 = ob ∨ some g3 = some (w.alloc (.cells #[.int .u8 99] 5)).heap.size := hmv3.imp (fun e => ho3.symm.trans (e.trans Hob.out)) (fun e => ho3.symm.trans e)
  have hgr : w.grownBy w3 ob := by
    refine ⟨hg3.os, hg3.tape, hg3.output, by have := hg3.size; simp at this; omega, fun k hk hne => ?_⟩
    rw [hg3.block k (by simp; omega) hne, Below.heap_alloc _ _ _ hk]
  have hg3' : some g3 = ob ∨ w.heap.size ≤ g3 := by
    rcases hmv3 with e | e
    · exact .inl e
    · have := Option.some.inj e
      simp at this
      exact .inr (by omega)
  have hlen : (p ++ [99]).length = p.length + 1 := by simp
  rw [hlen] at hc3
  try rw [hlen]
  have Hg3 := Lib.hid hg3'
  clear hg3' hown3 hg3 hmv3 ho3 hlen hown
  go_wp2_with fail
  go_loopw [3] (fun q wr => ∃ (j : Nat) (cur : Array Value), j ≤ p.length + 1 ∧ q = .int .i64 (j : Int) ∧ wr.heap[g3]? = some (.cells cur 5 (0, 0)) ∧ p.length + 1 ≤ cur.size ∧ w.grownBy wr ob) (fun q _ => p.length + 1 - (intOf q).toNat)
  case atStart => exact ⟨0, cur3, Nat.zero_le _, rfl, hb3, hc3, hgr⟩
  case round =>
    clear hb3 hc3 hgr
    obtain ⟨j, cur, hj, rfl, hb, hc, hgr⟩ := hrel
    by_cases hjn : j < p.length + 1
    · have hcell := cell_blk hb j
      rw [Array.getElem?_eq_getElem (by omega)] at hcell
      have hfr := frozen_blk hb j
      have j1 : (j : Int) < (p.length : Int) + 1 := by omega
      have j2 : (0 : Int) ≤ (j : Int) := by omega
      have hset := blk_set hb j (.int .u8 98)
      have Hset := Lib.hid hset
      have Hb := Lib.hid hb
      clear hset hb
      generalize cur[j] = y at *
      go_wp2_with fail
      refine ⟨⟨j + 1, _, by omega, by go_num, Hset.out, by simpa using hc, ?_⟩, by simp [intOf]; omega⟩
      rcases Hg3.out with h9 | h9
      · rw [← h9] at hgr ⊢
        exact grown_trans hgr (grown_set _ _ _ _)
      · exact grown_new hgr h9 _ _
    · obtain rfl : j = p.length + 1 := by omega
      go_wp2_with fail
      go_end0
      exact ⟨rfl, by rw [Hob.out]; exact hgr⟩
theorem spoil9_n (w : World) (base : Nat) (A : Option Addr) (n cap : Nat) (p : List Nat) (hl : p.length = n) (hown : w.ownsRow base 5 1 (.slice A n cap) n (VY p)) (hn : n ≤ 65536) (hbase : base ≤ w.heap.size) :
    Calls Tryz.prog 26 #[.slice A n cap] w fun e w' => e = .returned (.tuple #[]) ∧ w.grownBy w' (Value.slice A n cap).ownBlock := by
  subst hl
  exact spoil9_any w base A cap p hown hn hbase
theorem tags_apart {w : World} {b1 b2 : Nat} {e1 e2 : TypeId} {s1 s2 : Nat} {v1 v2 : Value} {n1 n2 : Nat} {x1 x2 : List Value} (h1 : w.ownsRow b1 e1 s1 v1 n1 x1) (h2 : w.ownsRow b2 e2 s2 v2 n2 x2) (he : e1 ≠ e2) : ∀ g, v1.ownBlock = some g → v2.ownBlock ≠ some g := fun g h k => by
  obtain ⟨c1, hc1⟩ := own_tag h1 h
  obtain ⟨c2, hc2⟩ := own_tag h2 k
  rw [hc1] at hc2
  simp at hc2
  exact he hc2.2
theorem k2_alloc {W : World} {p q : Addr} {u v : Value} (h : W.cell? p = some u ∧ W.cell? q = some v) (o : Obj) : (W.alloc o).cell? p = some u ∧ (W.alloc o).cell? q = some v :=
  ⟨(World.cell?_of_block ((below_new W o).block _ (World.block_lt_of_cell? W _ h.1))).trans h.1, (World.cell?_of_block ((below_new W o).block _ (World.block_lt_of_cell? W _ h.2))).trans h.2⟩
theorem k2_drew {W : World} {p q : Addr} {u v : Value} (h : W.cell? p = some u ∧ W.cell? q = some v) : W.drew.cell? p = some u ∧ W.drew.cell? q = some v := h
end Go.Proofs.YtphccomhggnccaaGreat
namespace Go.Proofs.YtphccomhggnccaaGreat
open Go.RowKit Sg Fm
theorem four1_any (w : World) (v : Nat) (hv : v < 4294967296) : Calls Tryz.prog 165 #[.int .u32 (v : Int)] w fun e w' => e = .returned (.slice (some ⟨w.heap.size, 0, none⟩) 4 4) ∧ w'.ownsRow w.heap.size 5 1 (.slice (some ⟨w.heap.size, 0, none⟩) 4 4) 4 (VY (four v)) ∧ Below w.heap.size w w' := by
  have e0 : (v : Int) % 256 = ((v % 256 : Nat) : Int) := by omega
  have e1 : (v : Int) / 256 % 256 = ((v / 256 % 256 : Nat) : Int) := by omega
  have e2 : (v : Int) / 65536 % 256 = ((v / 65536 % 256 : Nat) : Int) := by omega
  have e3 : (v : Int) / 16777216 = ((v / 16777216 % 256 : Nat) : Int) := by omega
  have HF := Lib.hid (show four v = [v % 256, v / 256 % 256, v / 65536 % 256, v / 16777216 % 256] from rfl)
  generalize v % 256 = d0 at *
  generalize v / 256 % 256 = d1 at *
  generalize v / 65536 % 256 = d2 at *
  generalize v / 16777216 % 256 = d3 at *
  go_enter Tryz.func165, Tryz.ntmps165
  go_wp2_with fail
  go_ret
  refine ⟨rfl, ?_, (Below.refl _ w).alloc (Nat.le_refl _) _⟩
  rw [HF.out]
  exact own_blkY (p := [d0, d1, d2, d3]) (heap_alloc_new w _) (Nat.le_refl _) (by show 4 ≤ _; omega)
set_option maxHeartbeats 4000000 in
theorem sum1_any (w : World) (A : Option Addr) (n c : Nat) (p : List Nat) (hA : Sl w A (VY p)) (hl : p.length = n) (hb : ∀ x ∈ p, x < 256) (hn : n ≤ 1099511627776) :
    Calls Tryz.prog 166 #[.slice A n c] w fun e w' => e = .returned (.int .u32 ((crc p : Nat) : Int)) ∧ w = w' := by
  have HA := Lib.hid hA
  have Hl := Lib.hid hl
  have Hb := Lib.hid hb
  clear hA hl hb
  go_enter Tryz.func166, Tryz.ntmps166
  go_wp2_with fail
  go_loopw [3, 4] (fun s3 q wr => ∃ (k v : Nat), k ≤ n ∧ q = .int .i64 (k : Int) ∧ s3 = .int .u32 (v : Int) ∧ v < 4294967296 ∧ Hid (v = crcF 4294967295 (p.take k)) ∧ w = wr) (fun _ q _ => n - (intOf q).toNat)
  case atStart => exact ⟨0, 4294967295, Nat.zero_le _, rfl, by first | rfl | decide, by decide, Lib.hid rfl, rfl⟩
  case round =>
    obtain ⟨k, v, hk, rfl, rfl, hv, HV, rfl⟩ := hrel
    by_cases hkn : k < n
    · obtain ⟨a, rfl, hc1⟩ := HA.out.some (j := k) (by rw [VY_length, Hl.out]; exact hkn)
      rw [VY_get _ _ (by rw [Hl.out]; exact hkn)] at hc1
      have hpb : p.getD k 0 < 256 := Hb.out _ (by rw [getDn (by rw [Hl.out]; exact hkn)]; exact List.getElem_mem _)
      have hsn := crcF_snoc 4294967295 p k (by rw [Hl.out]; exact hkn)
      rw [← HV.out] at hsn
      generalize p.getD k 0 = ch at *
      have hxi := crc_in hv hpb
      have hvx : v ^^^ ch < 4294967296 := xor_lt32 hv (by omega)
      generalize v ^^^ ch = u0 at *
      have Hsn := Lib.hid hsn
      clear hsn
      go_wp2_with fail
      go_loopw [3, 5] (fun s3 q wr => ∃ (j u : Nat), j ≤ 8 ∧ q = .int .i64 (j : Int) ∧ s3 = .int .u32 (u : Int) ∧ u < 4294967296 ∧ Hid (u = crcN j u0) ∧ w = wr) (fun _ q _ => 8 - (intOf q).toNat)
      case atStart => exact ⟨0, u0, by omega, rfl, rfl, hvx, Lib.hid rfl, rfl⟩
      case round =>
        obtain ⟨j, u, hj, rfl, rfl, hu, HU, rfl⟩ := hrel
        by_cases hj8 : j < 8
        · rcases Nat.mod_two_eq_zero_or_one u with hm | hm
          · have h1 := crc_even hu hm
            obtain ⟨u2, hu2⟩ : ∃ x, u / 2 = x := ⟨_, rfl⟩
            have h3 : (u : Int) / 2 = (u2 : Int) := by omega
            have HU2 : Hid (u2 = crcN (j + 1) u0) := Lib.hid (by rw [crcN_succ, ← HU.out, ← hu2]; unfold crcB; rw [if_neg (by omega)])
            have hu3 : u2 < 4294967296 := by omega
            clear hu2 hm
            go_wp2_with fail
            go_roundw
            case rel => exact ⟨j + 1, u2, by omega, by go_num, rfl, hu3, HU2, trivial⟩
            case measure => simp [intOf]; omega
          · have h1 := crc_odd hu hm
            have h3 := crc_x1 hu
            have hu4 := xor_lt32 (a := u / 2) (b := 3988292384) (by omega) (by decide)
            obtain ⟨u2, hu2⟩ : ∃ x, u / 2 ^^^ 3988292384 = x := ⟨_, rfl⟩
            rw [hu2] at h3 hu4
            have HU2 : Hid (u2 = crcN (j + 1) u0) := Lib.hid (by rw [crcN_succ, ← HU.out, ← hu2]; unfold crcB; rw [if_pos hm])
            clear hu2 hm
            go_wp2_with fail
            go_roundw
            case rel => exact ⟨j + 1, u2, by omega, by go_num, rfl, hu4, HU2, trivial⟩
            case measure => simp [intOf]; omega
        · obtain rfl : j = 8 := by omega
          have HV2 : Hid (u = crcF 4294967295 (p.take (k + 1))) := Lib.hid (by rw [Hsn.out]; exact HU.out)
          go_wp2_with fail
          go_roundw
          case rel => exact ⟨k + 1, u, by omega, by go_num, rfl, hu, HV2, trivial⟩
          case measure => simp [intOf]; omega
    · obtain rfl : k = n := by omega
      have HV2 : Hid (v = crcF 4294967295 p) := Lib.hid (by have := HV.out; rwa [← Hl.out, List.take_length] at this)
      have ho := crc_out hv
      have Hcr : Hid (crc p = v ^^^ 4294967295) := Lib.hid (by rw [HV2.out]; rfl)
      generalize v ^^^ 4294967295 = z at *
      go_wp2_with fail
      go_ret
      exact ⟨by rw [Hcr.out]; rfl, rfl⟩
set_option maxHeartbeats 4000000 in
theorem encode8_any (w : World) (A : Option Addr) (n c : Nat) (p : List Nat) (hS : Sl w A (VY p)) (hl : p.length = n) (hnil : A = none → c = 0) (hb : ∀ x ∈ p, x < 256) (hn : n ≤ 1048576) :
    Calls Tryz.prog 120 #[.slice A n c] w fun e w' => ∃ v, e = .returned (.tuple #[v, .int .i64 0]) ∧ w'.ownsRow w.heap.size 5 1 v (frame p).length (VY (frame p)) ∧ Below w.heap.size w w' := by
  have HS := Lib.hid hS
  have Hl := Lib.hid hl
  have Hnil := Lib.hid hnil
  have Hb := Lib.hid hb
  have hnb : ¬ (1048576 : Int) < (n : Int) := by omega
  have hn32 : n < 4294967296 := by omega
  have hm32 : (n : Int) % 4294967296 = (n : Int) := by omega
  have HF0 := Lib.hid (four1_any w n hn32)
  have hH4 := four_lt n
  have hcr := crc_lt hH4
  have Hfr : Hid (frame p = four n ++ four (crc (four n)) ++ p ++ four (crc (four n ++ four (crc (four n)) ++ p))) := Lib.hid (by unfold frame headF; rw [Hl.out])
  clear hS hl hnil hb
  go_enter Tryz.func120, Tryz.ntmps120
  go_wp2_with fail
  go_at_call 165
  refine HF0.out.mono ?_
  rintro e w1 ⟨rfl, hO1, hB1⟩
  obtain ⟨A1, c1, hv1, hS1, -, -, -, -, -⟩ := own_form hO1
  injection hv1 with e1 e2 e3
  subst e1 e3
  have HSm := Lib.hid (sum1_any w1 _ 4 4 (four n) hS1 rfl hH4 (by omega))
  have HF1 := Lib.hid (four1_any w1 (crc (four n)) hcr)
  have HO1 := Lib.hid hO1
  have HB1 := Lib.hid hB1
  have hs1 := hB1.size
  obtain ⟨ws, hws⟩ : ∃ ws, w.heap.size = ws := ⟨_, rfl⟩
  rw [hws] at HSm HO1 ⊢
  clear hO1 hS1 hB1 e2 HF0
  go_wp2_with fail
  go_at_call 166
  refine HSm.out.mono ?_
  rintro e w2 ⟨rfl, rfl⟩
  go_wp2_with fail
  go_at_call 165
  refine HF1.out.mono ?_
  rintro e w2 ⟨rfl, hO2, hB2⟩
  obtain ⟨A2, c2, hv2, hS2, -, -, -, -, -⟩ := own_form hO2
  injection hv2 with e1 e2 e3
  subst e1 e3
  have HS2 := Lib.hid hS2
  have HO12 := Lib.hid (own_below HO1.out hB2)
  have HB2 := Lib.hid (below_step HB1.out hB2)
  obtain ⟨hd, hhd⟩ : ∃ hd, four n ++ four (crc (four n)) = hd := ⟨_, rfl⟩
  have hdl : hd.length = 8 := by rw [← hhd]; rfl
  have hdb : ∀ x ∈ hd, x < 256 := by
    rw [← hhd]
    intro x hx
    rcases List.mem_append.1 hx with h | h <;> exact four_lt _ x h
  rw [hhd] at Hfr
  have hs2 : ws ≤ w2.heap.size := by rw [← hws]; exact HB2.out.size
  have Hhd := Lib.hid hhd
  clear hO2 hS2 hB2 e2 HF1 HSm HO1 hhd
  go_upto_region 5 with (at_builtin; refine appE el_u8 rfl _ _ rfl ws _ 4 (VY (four n)) rfl HO12.out (some ⟨w1.heap.size, 0, none⟩) 4 4 (VY (four (crc (four n)))) rfl (fun h => by cases h) rfl HS2.out (VY_one _) (by omega) hs2 ?_; intro v' w3 hown hg _ _; obtain ⟨A7, c7, hv7, hS3, -, hn3, -, -, -⟩ := own_form hown; subst hv7; rw [← VY_append, Hhd.out] at hown hS3; have H3 := Lib.hid hown; have HS3 := Lib.hid hS3; have Hn3 := Lib.hid hn3; have HB3 := Lib.hid (HB2.out.grown hg (by rw [hws]; exact hs2) (fun k hk => by rw [hws]; exact (World.ownsRow.lt HO12.out k hk).1)); clear hown hg hS3 hn3)
  have hl3 : (hd ++ p).length ≤ 1048584 := by rw [List.length_append, hdl, Hl.out]; omega
  have hb3 : ∀ x ∈ hd ++ p, x < 256 := fun x hx => by
    rcases List.mem_append.1 hx with h | h
    · exact hdb x h
    · exact Hb.out x h
  have HS3' := Lib.hid (HS.out.below HB3.out)
  have hs3 : ws ≤ w3.heap.size := by rw [← hws]; exact HB3.out.size
  go_upto_region 6 with (at_builtin; (refine appE el_u8 rfl _ _ rfl ws _ 8 (VY hd) rfl H3.out A n c (VY p) rfl Hnil.out (by rw [VY_length, Hl.out, Nat.mul_one]) HS3'.out (VY_one _) (by omega) hs3 ?_; intro v' w4 hown hg _ _; obtain ⟨A8, c8, hv8, hS4, -, hn4, -, -, -⟩ := own_form hown; subst hv8; rw [← VY_append] at hown hS4; have H4 := Lib.hid hown; have HS4 := Lib.hid hS4; have HB4 := Lib.hid (HB3.out.grown hg (by rw [hws]; exact hs3) (fun k hk => by rw [hws]; exact (World.ownsRow.lt H3.out k hk).1)); clear hown hg hS4 hn4))
  have hcr2 := crc_lt hb3
  have Hlen : Hid ((hd ++ p).length = 8 + n) := Lib.hid (by rw [List.length_append, hdl, Hl.out])
  have HSm2 := Lib.hid (sum1_any w4 A8 (8 + n) c8 (hd ++ p) HS4.out Hlen.out hb3 (by omega))
  have HF2 := Lib.hid (four1_any w4 (crc (hd ++ p)) hcr2)
  have hs4 : ws ≤ w4.heap.size := by rw [← hws]; exact HB4.out.size
  go_wp2_with fail
  go_at_call 166
  refine HSm2.out.mono ?_
  rintro e w5 ⟨rfl, rfl⟩
  go_wp2_with fail
  go_at_call 165
  refine HF2.out.mono ?_
  rintro e w5 ⟨rfl, hO5, hB5⟩
  obtain ⟨A5, c5, hv5, hS5, -, -, -, -, -⟩ := own_form hO5
  injection hv5 with e1 e2 e3
  subst e1 e3
  have HS5 := Lib.hid hS5
  have HO5 := Lib.hid (own_below H4.out hB5)
  have HB5 := Lib.hid (below_step HB4.out hB5)
  have hs5 : ws ≤ w5.heap.size := by rw [← hws]; exact HB5.out.size
  clear hO5 hS5 hB5 e2 HF2 HSm2
  go_wp2_with (at_builtin; refine appE el_u8 rfl _ _ rfl ws _ (8 + n) (VY (hd ++ p)) rfl HO5.out (some ⟨w4.heap.size, 0, none⟩) 4 4 (VY (four (crc (hd ++ p)))) rfl (fun h => by cases h) rfl HS5.out (VY_one _) (by omega) hs5 ?_; intro v' w6 hown hg _ _; obtain ⟨A9, c9, hv9, -, -, -, -, -, -⟩ := own_form hown; subst hv9; rw [← VY_append] at hown; have H6 := Lib.hid hown; have HB6 := Lib.hid (HB5.out.grown hg (by rw [hws]; exact hs5) (fun k hk => by rw [hws]; exact (World.ownsRow.lt HO5.out k hk).1)); clear hown hg)
  go_ret2
  refine ⟨_, rfl, ?_, HB6.out⟩
  have e9 : (frame p).length = 8 + n + 4 := by rw [Hfr.out, List.length_append, Hlen.out]; rfl
  rw [e9, Hfr.out, hws]
  exact H6.out
theorem encR9_any {w : World} {base x : Nat} {es : List De} {gs : List Key} (h : RefM w base x es gs) (hL : Lite (es.map De.dc) gs) :
    Calls Tryz.prog 70 #[.pointer (some ⟨x, 0, none⟩)] w fun e w' => ∃ sa, IsSA (rowT (textsD (es.map De.dc))) sa ∧ OwnY w (frame (bodyS (keysD (es.map De.dc)) gs (trn (rowT (textsD (es.map De.dc))) sa))) e w' := by
  have HB := Lib.hid (body9_any h hL)
  have hrl := hL.fits.t
  have htl : ∀ t ∈ textsD (es.map De.dc), ∀ b ∈ t, b < 256 := by
    obtain ⟨_, _, _, _, _, q2, _⟩ := h.blk
    intro t ht
    obtain ⟨d, hd, rfl⟩ := List.mem_map.1 ht
    obtain ⟨e, he, rfl⟩ := List.mem_map.1 hd
    exact (q2.txt e he).lt
  have Hbl := Lib.hid (fun (sa : List Nat) (hsa : IsSA (rowT (textsD (es.map De.dc))) sa) => bodyS_len (l := trn (rowT (textsD (es.map De.dc))) sa) hL (by rw [trn_length hsa]; exact hrl) (fun v hv => rowT_lt _ htl v ((trn_perm (rowT_closed _) hsa).mem_iff.1 hv)))
  clear h htl
  go_enter Tryz.func70, Tryz.ntmps70
  go_wp2_with fail
  go_at_call 42
  refine HB.out.mono ?_
  rintro e w1 ⟨sa, hsa, v, rfl, hO, hB⟩
  have hbl := Hbl.out sa hsa
  have hlt := bodyS_lt (keysD (es.map De.dc)) gs (trn (rowT (textsD (es.map De.dc))) sa)
  obtain ⟨bd, hbd⟩ : ∃ bd, bodyS (keysD (es.map De.dc)) gs (trn (rowT (textsD (es.map De.dc))) sa) = bd := ⟨_, rfl⟩
  rw [hbd] at hbl hlt hO
  have Hbd := Lib.hid hbd
  have Hsa := Lib.hid hsa
  obtain ⟨A1, c1, rfl, hS1, -, hn1, -, -, -⟩ := own_form hO
  have HE := Lib.hid (encode8_any w1 A1 bd.length c1 bd hS1 rfl hn1 hlt (by omega))
  have HB1 := Lib.hid hB
  clear hO hS1 hn1 hB hbd hsa hlt Hbl
  go_wp2_with fail
  go_at_call 120
  refine HE.out.mono ?_
  rintro e w2 ⟨v2, rfl, hO2, hB2⟩
  obtain ⟨A2, c2, rfl, -, -, -, -, -, -⟩ := own_form hO2
  have HO2 := Lib.hid (own_mono hO2 HB1.out.size)
  have HB2 := Lib.hid (below_step HB1.out hB2)
  clear hO2 hB2
  go_wp2_with fail
  go_ret
  exact ⟨sa, Hsa.out, _, rfl, by rw [Hbd.out]; exact HO2.out, HB2.out⟩
end Go.Proofs.YtphccomhggnccaaGreat
namespace Go.Proofs.YtphccomhggnccaaGreat
open Go.RowKit Sg Fm
def Get9P (w : World) (ds : List Dc) (gs : List Key) (k : Key) (e : Ending) (w' : World) : Prop :=
  ∃ v, e = .returned (.tuple #[v, .bool ((keysD ds).contains k), .bool ((keysD ds).contains k || gs.contains k)]) ∧ Below w.heap.size w w'
set_option maxHeartbeats 4000000 in
theorem get9_any {w : World} {base x : Nat} {es : List De} {gs : List Key} (h : RefM w base x es gs) (hn : es.length ≤ 1000000) (hg : gs.length ≤ 1000000) (ht : ∀ e ∈ es, e.n ≤ 1000000) (k : Key) :
    Calls Tryz.prog 30 #[.pointer (some ⟨x, 0, none⟩), .string (ba k)] w (Get9P w (es.map De.dc) gs k) := by
  obtain ⟨Ad, Ag, cd, cg, hb, q2, q3, q4, q5, q6⟩ := h.blk
  have hx0 : w.cell? ⟨x, 0, none⟩ = some (.slice Ad es.length cd) := cell_blk hb 0
  have hx1 : w.cell? ⟨x, 1, none⟩ = some (.slice Ag gs.length cg) := cell_blk hb 1
  have Q2 := Lib.hid q2
  have Q3 := Lib.hid q3
  have Ht := Lib.hid ht
  obtain ⟨n, hnn⟩ : ∃ n, es.length = n := ⟨_, rfl⟩
  obtain ⟨m, hmm⟩ : ∃ n, gs.length = n := ⟨_, rfl⟩
  rw [hnn] at hx0 Q2 hn
  rw [hmm] at hx1 Q3 hg
  have Hnn := Lib.hid hnn
  have Hmm := Lib.hid hmm
  have Hkd : Hid (keysD (es.map De.dc) = es.map (·.k)) := Lib.hid (by simp [keysD, De.dc])
  clear h hb q2 q3 q4 q5 q6 ht hnn hmm
  go_enter Tryz.func30, Tryz.ntmps30
  go_wp2_with fail
  go_loopw [7] (fun q wr => ∃ i : Nat, i ≤ n ∧ q = .int .i64 (i : Int) ∧ Hid (∀ j, j < i → (es[j]?.getD default).k ≠ k) ∧ w = wr) (fun q _ => n - (intOf q).toNat)
  case atStart => exact ⟨0, Nat.zero_le _, rfl, Lib.hid (fun j h => absurd h (Nat.not_lt_zero _)), rfl⟩
  case round =>
    obtain ⟨i, hi, rfl, HI, rfl⟩ := hrel
    by_cases hin : i < n
    · obtain ⟨bd, od, rfl, hd0, hd1⟩ := garg_docs0 Q2.out hin
      have hmem : es[i]?.getD default ∈ es := by simp [Hnn.out, hin]
      have hen := Ht.out _ hmem
      have Htx := Lib.hid (Q2.out.txt _ hmem)
      have HI2 : (es[i]?.getD default).k ≠ k → ∀ j, j < i + 1 → (es[j]?.getD default).k ≠ k := fun h1 j hj => by
        rcases Nat.lt_or_ge j i with h2 | h2
        · exact HI.out j h2
        · have : j = i := by omega
          subst this; exact h1
      have HI2 := Lib.hid HI2
      have Hmem := Lib.hid hmem
      clear hmem
      generalize es[i]?.getD default = e at *
      obtain ⟨ek, ea, en, ec, et⟩ := e
      dsimp only at *
      have hbe := beq_key (a := ek) (b := k)
      by_cases hek : ek = k
      · have Hhas : Hid ((keysD (es.map De.dc)).contains k = true) := Lib.hid (by
          rw [Hkd.out, List.contains_iff_mem]
          exact List.mem_map.2 ⟨_, Hmem.out, hek⟩)
        rw [decide_eq_true hek] at hbe
        have hC := below_new w (.cells #[] 5)
        have hO0 : (w.alloc (.cells #[] 5)).ownsRow w.heap.size 5 1 (.slice (some ⟨w.heap.size, 0, none⟩) 0 0) 0 [] := World.ownsRow_made w #[] 0 (Nat.le_refl _) (by decide) (by simp)
        have HO0 := Lib.hid hO0
        have HC := Lib.hid hC
        have HSt := Lib.hid (Htx.out.sl.below hC)
        have ha0 := (World.cell?_of_block (hC.block x (World.block_lt_of_cell? w _ hx0))).trans hx0
        have ha1 := (World.cell?_of_block (hC.block bd (World.block_lt_of_cell? w _ hd1))).trans hd1
        clear hC hO0 hek
        go_wp2_with (at_builtin; refine appE el_u8 rfl _ _ rfl w.heap.size _ 0 [] rfl HO0.out ea en ec (VY et) rfl Htx.out.nil (by rw [VY_length, Nat.mul_one]; exact Htx.out.len) HSt.out (VY_one _) (by omega) HC.out.size ?_; intro v1 w4 hown1 hg1 hz1 hz2; obtain ⟨A4, c4, hv4, -, -, -, -, -, -⟩ := own_form hown1; subst hv4; have HB4 := Lib.hid (HC.out.grown hg1 HC.out.size (fun k hk => (World.ownsRow.lt HO0.out k hk).1)); clear hown1 hg1 hz1 hz2)
        go_ret3
        exact ⟨_, by (rw [Hhas.out, Bool.true_or]; first | done | rfl), HB4.out⟩
      · rw [decide_eq_false hek] at hbe
        have HI3 := Lib.hid (HI2.out hek)
        clear hek HI2
        go_wp2_with fail
        go_roundw
        case rel => exact ⟨i + 1, by omega, by go_num, HI3, trivial⟩
        case measure => simp [intOf]; omega
    · obtain rfl : i = n := by omega
      have Hhas : Hid ((keysD (es.map De.dc)).contains k = false) := Lib.hid (by
        rw [Hkd.out]
        cases hc : (es.map (·.k)).contains k with
        | false => rfl
        | true =>
          obtain ⟨e, he, hek⟩ := List.mem_map.1 (List.contains_iff_mem.1 hc)
          obtain ⟨j, hj, rfl⟩ := List.getElem_of_mem he
          exact absurd (by simpa [hj] using hek) (HI.out j (by rw [← Hnn.out]; exact hj)))
      go_wp2_with fail
      go_loopw [8] (fun q wr => ∃ j : Nat, j ≤ m ∧ q = .int .i64 (j : Int) ∧ Hid (∀ t, t < j → gs.getD t [] ≠ k) ∧ w = wr) (fun q _ => m - (intOf q).toNat)
      case atStart => exact ⟨0, Nat.zero_le _, rfl, Lib.hid (fun j h => absurd h (Nat.not_lt_zero _)), rfl⟩
      case round =>
        obtain ⟨j, hj, rfl, HJ, rfl⟩ := hrel
        by_cases hjm : j < m
        · obtain ⟨bg, og, rfl⟩ := garg_lit Q3.out (Nat.lt_of_le_of_lt (Nat.zero_le _) hjm)
          have hkc := garg_cell Q3.out hjm
          have hgm : gs.getD j [] ∈ gs := getD_memK (by rw [Hmm.out]; exact hjm)
          have HJ2 : gs.getD j [] ≠ k → ∀ t, t < j + 1 → gs.getD t [] ≠ k := fun h1 t ht => by
            rcases Nat.lt_or_ge t j with h2 | h2
            · exact HJ.out t h2
            · have : t = j := by omega
              subst this; exact h1
          have HJ2 := Lib.hid HJ2
          have Hgm := Lib.hid hgm
          clear hgm
          generalize gs.getD j [] = gk at *
          have hbe := beq_key (a := gk) (b := k)
          by_cases hek : gk = k
          · have Hg : Hid (gs.contains k = true) := Lib.hid (by rw [List.contains_iff_mem, ← hek]; exact Hgm.out)
            rw [decide_eq_true hek] at hbe
            clear hek
            go_wp2_with fail
            go_ret3
            exact ⟨_, by (rw [Hhas.out, Hg.out, Bool.false_or]; first | done | rfl), Below.refl _ _⟩
          · rw [decide_eq_false hek] at hbe
            have HJ3 := Lib.hid (HJ2.out hek)
            clear hek HJ2
            go_wp2_with fail
            go_roundw
            case rel => exact ⟨j + 1, by omega, by go_num, HJ3, trivial⟩
            case measure => simp [intOf]; omega
        · obtain rfl : j = m := by omega
          have Hg : Hid (gs.contains k = false) := Lib.hid (by
            cases hc : gs.contains k with
            | false => rfl
            | true =>
              obtain ⟨t, ht, hte⟩ := List.getElem_of_mem (List.contains_iff_mem.1 hc)
              exact absurd (by simpa [List.getD, ht] using hte) (HJ.out t (by rw [← Hmm.out]; exact ht)))
          go_wp2_with fail
          go_ret3
          exact ⟨_, by (rw [Hhas.out, Hg.out, Bool.false_or]; first | done | rfl), Below.refl _ _⟩
end Go.Proofs.YtphccomhggnccaaGreat
namespace Go.Proofs.YtphccomhggnccaaGreat
open Go.RowKit Sg Fm
def matsTo (es : List De) (p : List Nat) (i : Nat) : List (Key × Nat) := (es.take i).flatMap fun e => (atL e.t p).map fun f => (e.k, f)
theorem matsTo_succ (es : List De) (p : List Nat) {i : Nat} (h : i < es.length) : matsTo es p (i + 1) = matsTo es p i ++ (atL (es[i]?.getD default).t p).map fun f => ((es[i]?.getD default).k, f) := by
  unfold matsTo
  rw [List.take_succ_eq_append_getElem h, List.flatMap_append]
  simp [h]
theorem matsTo_fnd (es : List De) (p : List Nat) : ∀ i, i ≤ es.length → matsTo es p i = (fnd7 (textsD (es.map De.dc)) p i).map fun h => ((keysD (es.map De.dc)).getD h.1 [], h.2)
  | 0, _ => by
    unfold matsTo fnd7
    split <;> simp [locF]
  | i + 1, h => by
    have hi : i < es.length := h
    rw [matsTo_succ es p hi, fnd7_succ _ _ _ (by simp [textsD, hi]), List.map_append, matsTo_fnd es p i (Nat.le_of_lt hi), List.map_map]
    have e1 : (textsD (es.map De.dc)).getD i [] = (es[i]?.getD default).t := by simp [textsD, List.getD, hi, De.dc]
    have e2 : (keysD (es.map De.dc)).getD i [] = (es[i]?.getD default).k := by simp [keysD, List.getD, hi, De.dc]
    rw [e1]
    refine congrArg (_ ++ ·) (List.map_congr_left fun f _ => ?_)
    rw [← e2]
    rfl
theorem matsTo_all (es : List De) (p : List Nat) : matsTo es p es.length = matsOf (es.map De.dc) p := by
  rw [matsTo_fnd es p _ (Nat.le_refl _)]
  have : es.length = (textsD (es.map De.dc)).length := by simp [textsD]
  rw [this, fnd7_all]
  rfl
theorem matsTo_len (es : List De) (p : List Nat) (i : Nat) (h : i ≤ es.length) : (matsTo es p i).length ≤ (body (textsD (es.map De.dc))).length := by
  rw [matsTo_fnd es p i h, List.length_map]
  exact Nat.le_trans (fnd7_length _ _ _) (body_take_le _ _)
theorem NI_cell {w : World} {b off : Nat} {l : List Nat} (h : Sl w (some ⟨b, off, none⟩) (VI (NI l))) {i : Nat} (hi : i < l.length) : w.cell? ⟨b, off + i, none⟩ = some (.int .i64 ((l.getD i 0 : Nat) : Int)) := by
  have h1 := h.cell _ rfl i _ (VI_get (NI l) i (by rw [NI_length]; exact hi))
  rw [NI_getD _ _ hi] at h1
  rwa [show (⟨b, off, none⟩ : Addr).add i = ⟨b, off + i, none⟩ by unfold Addr.add; split <;> simp_all] at h1
set_option maxHeartbeats 8000000 in
theorem find9_any (w : World) (A Ap : Option Addr) (n c np cp : Nat) (es : List De) (p : List Nat) (h : DArg w A n c es) (hb : (body (textsD (es.map De.dc))).length ≤ 65535) (hp : Sl w Ap (VY p)) (hl : p.length = np) (hn : np ≤ 65536) (hpb : ∀ x ∈ p, x < 256) :
    Calls Tryz.prog 69 #[.slice A n c, .slice Ap np cp] w (MatsP w (matsOf (es.map De.dc) p)) := by
  have hnb : n ≤ 65535 := by
    have h1 := h.len
    have h2 := len_le_body (textsD (es.map De.dc))
    rw [textsD_length, List.length_map] at h2
    omega
  have H := Lib.hid h
  have HP := Lib.hid hp
  have Hl := Lib.hid hl
  have Hpb := Lib.hid hpb
  have Hbody := Lib.hid hb
  have Hall := Lib.hid (matsTo_all es p)
  clear h hp hl hpb hb
  go_enter Tryz.func69, Tryz.ntmps69
  go_wp2_with fail
  go_loopw [5, 6] (fun t q wr => ∃ (i k : Nat) (At : Option Addr) (ct : Nat), i ≤ n ∧ q = .int .i64 (i : Int) ∧ t = .slice At k ct ∧ Hid ((matsTo es p i).length = k) ∧ Hid (wr.ownsRow w.heap.size 86 2 (.slice At k ct) k (VMt (matsTo es p i))) ∧ Hid (Below w.heap.size w wr)) (fun _ q _ => n - (intOf q).toNat)
  case atStart => exact ⟨0, 0, none, 0, Nat.zero_le _, rfl, rfl, Lib.hid (by simp [matsTo]), Lib.hid (by simpa [matsTo, VMt] using World.ownsRow_nil _ _ _ _), Lib.hid (Below.refl _ _)⟩
  case round =>
    obtain ⟨i, k, At, ct, hi, rfl, rfl, Hk, HO, HB⟩ := hrel
    by_cases hin : i < n
    · obtain ⟨bd, od, rfl, hw0, hw1⟩ := garg_docs0 H.out hin
      have hil : i < es.length := by rw [H.out.len]; exact hin
      have hmem : es[i]?.getD default ∈ es := by simp [hil]
      have htx := (H.out.txt _ hmem).below HB.out
      have hblw := World.block_lt_of_cell? w _ hw0
      have hd0 := (World.cell?_of_block (HB.out.block bd hblw)).trans hw0
      have hd1 := (World.cell?_of_block (HB.out.block bd hblw)).trans hw1
      have Hsu := Lib.hid (matsTo_succ es p hil)
      have Hle := Lib.hid (matsTo_len es p (i + 1) hil)
      have htn : (es[i]?.getD default).n ≤ 65535 := by
        have h1 := htx.len
        have h2 : ((textsD (es.map De.dc)).getD i []).length ≤ (body (textsD (es.map De.dc))).length := by
          have h3 := body_take_succ (textsD (es.map De.dc)) i (by simp [textsD, hil])
          have h4 := body_take_le (textsD (es.map De.dc)) (i + 1)
          rw [h3, List.length_append, txt_length] at h4
          omega
        have e1 : (textsD (es.map De.dc)).getD i [] = (es[i]?.getD default).t := by simp [textsD, List.getD, hil, De.dc]
        rw [e1] at h2
        have := Hbody.out
        omega
      generalize es[i]?.getD default = e0 at *
      obtain ⟨ek, ea, en, ec, et⟩ := e0
      dsimp only at *
      have HA := Lib.hid (at7_any wr ea Ap en np ec cp et p htx.sl (HP.out.below HB.out) htx.len Hl.out (by omega) hn htx.le htx.lt Hpb.out)
      have Hlen := Lib.hid Hle.out
      rw [Hsu.out, List.length_append, List.length_map, Hk.out] at Hlen
      have hkl : k + (atL et p).length ≤ 65535 := Nat.le_trans Hlen.out Hbody.out
      obtain ⟨al, hal⟩ : ∃ al, (atL et p).length = al := ⟨_, rfl⟩
      have Hal := Lib.hid hal
      have hw0' := Lib.hid hw0
      rw [hal] at hkl
      clear htx hmem hil hal Hle Hlen
      go_wp2_with fail
      go_at_call 63
      refine HA.out.mono ?_
      rintro e w1 ⟨A1, c1, rfl, hS1, hg1, hB1⟩
      rw [Hal.out]
      have HS1 := Lib.hid hS1
      have Hap0 : Hid (∀ a, A1 = some a → (Value.slice At k ct).ownBlock ≠ some a.block) := Lib.hid (fun a ha e3 => by have h1 := (World.ownsRow.lt HO.out _ e3).2; have h2 := hg1 a ha; omega)
      have HO1 := Lib.hid (own_below HO.out hB1)
      have HB1 := Lib.hid (below_step HB.out hB1)
      clear hS1 hB1 HA hg1 hd0 hd1
      go_wp2_with fail
      obtain ⟨wo, rfl⟩ : ∃ wo : World, wo = wr := ⟨_, rfl⟩
      go_loopw [5, 8] (fun t q wr => ∃ (j kk : Nat) (At : Option Addr) (ct : Nat), j ≤ al ∧ q = .int .i64 (j : Int) ∧ t = .slice At kk ct ∧ Hid (kk = k + j) ∧ Hid (wr.ownsRow w.heap.size 86 2 (.slice At kk ct) kk (VMt (matsTo es p i ++ ((atL et p).take j).map fun f => (ek, f)))) ∧ Hid (Sl wr A1 (VI (NI (atL et p)))) ∧ Hid (∀ a, A1 = some a → (Value.slice At kk ct).ownBlock ≠ some a.block) ∧ Hid (Below w.heap.size w wr)) (fun _ q _ => al - (intOf q).toNat)
      case atStart => exact ⟨0, k, At, ct, Nat.zero_le _, rfl, rfl, Lib.hid rfl, Lib.hid (by simpa using HO1.out), HS1, Hap0, HB1⟩
      case round =>
        obtain ⟨j, kk, At, ct, hj, rfl, rfl, Hkk, HO, HS, Hap, HBr⟩ := hrel
        by_cases hja : j < al
        · have hjl : j < (atL et p).length := by rw [Hal.out]; exact hja
          obtain ⟨bl, ol, rfl, -⟩ := HS.out.lit (j := j) (by rw [VI_length, NI_length]; exact hjl)
          have hc0 := NI_cell HS.out hjl
          have HSC := fun (W : World) (hW : Sl W (some ⟨bl, ol, none⟩) (VI (NI (atL et p)))) => NI_cell hW hjl
          have hd0 := (World.cell?_of_block (HBr.out.block bd hblw)).trans hw0'.out
          have Hsj := Lib.hid (show ((atL et p).take (j + 1)).map (fun f => (ek, f)) = ((atL et p).take j).map (fun f => (ek, f)) ++ [(ek, (atL et p).getD j 0)] by
            rw [List.take_succ_eq_append_getElem hjl, List.map_append]; simp [List.getD, hjl])
          generalize (atL et p).getD j 0 = f at *
          have hkk9 : kk ≤ 65535 := by have := Hkk.out; omega
          have hkk1 : kk + 1 ≤ 1099511627776 := by omega
          have hCw := below_new wr (.cells #[.string (ba ek), .int .i64 (f : Int)] 86)
          have HOd := Lib.hid (own_keepR (World.ownsRow.alloc HO.out (.cells #[.string (ba ek), .int .i64 (f : Int)] 86)) (grown_drew _ none) (fun _ _ => nofun))
          have HSn : Hid (Sl (wr.alloc (.cells #[.string (ba ek), .int .i64 (f : Int)] 86)).drew (some ⟨wr.heap.size, 0, none⟩) [.string (ba ek), .int .i64 (f : Int)]) := Lib.hid (sl_blk (heap_alloc_new wr _)).drew
          have HBd := Lib.hid ((HBr.out.alloc HBr.out.size (.cells #[.string (ba ek), .int .i64 (f : Int)] 86)).drew)
          have hszd := HBd.out.size
          have hll : bl < wr.heap.size := World.block_lt_of_cell? wr _ hc0
          have HSd := Lib.hid ((HS.out.below hCw).drew)
          have hOm := HO.out
          have Hlt := Lib.hid (fun g h => (World.ownsRow.lt hOm g h).2)
          clear hjl hCw hOm
          go_upto_region 9 with fail
          go_region_held_law (fun W => W.cell? ⟨bd, od + i * 2, none⟩ = some (.string (ba ek)) ∧ W.cell? ⟨bl, ol + j, none⟩ = some (.int .i64 (f : Int)))
            (first | assumption | exact ⟨hd0, hc0⟩ | exact ⟨e0, e1⟩ | exact k2_alloc (by assumption) _ | exact k2_drew (by assumption) | exact k2_drew (k2_alloc (by assumption) _) | exact k2_drew (k2_alloc ⟨hd0, hc0⟩ _))
            ((refine stepE el_mat rfl _ _ rfl w.heap.size _ kk (VMt (matsTo es p i ++ ((atL et p).take j).map fun f => (ek, f))) rfl HOd.out (some ⟨wr.heap.size, 0, none⟩) 1 1 [.string (ba ek), .int .i64 (f : Int)] rfl (fun e => by cases e) rfl HSn.out (fun u hu => by simp at hu; rcases hu with rfl | rfl <;> rfl) hkk1 hszd ?_; intro v7 w7 hown7 hg7 _ hat7; obtain ⟨A7, c7, hv7, -, -, -, -, -, -⟩ := own_form hown7; subst hv7; have HB7 := Lib.hid (HBd.out.grown hg7 hszd (fun k hk => (World.ownsRow.lt HOd.out k hk).1)); have e0 := (World.cell?_of_block (HB7.out.block bd hblw)).trans hw0'.out; have HS7 := Lib.hid (HSd.out.grown hg7 (fun a ha _ e3 => Hap.out a ha e3.symm)); have e1 : w7.cell? ⟨bl, ol + j, none⟩ = some (.int .i64 (f : Int)) := (HSC w7 HS7.out); have H7 := Lib.hid hown7; have Hap7 : Hid (∀ a, some (⟨bl, ol, none⟩ : Addr) = some a → (Value.slice A7 (kk + 1) c7).ownBlock ≠ some a.block) := Lib.hid (fun a ha e3 => by rcases hat7 with e4 | e4; exact Hap.out a ha (e4.symm.trans e3); rw [e3] at e4; have e5 := Option.some.inj e4; cases ha; simp at e5; omega); clear hown7 hg7 hat7))
          go_wp2_with fail
          go_roundw
          case rel => exact ⟨j + 1, kk + 1, A7, c7, by omega, by go_num, rfl, Lib.hid (by rw [Hkk.out]; rfl), Lib.hid (by rw [Hsj.out, ← List.append_assoc, VMt_append]; exact H7.out), HS7, Hap7, HB7⟩
          case measure => simp [intOf]; omega
        · obtain rfl : j = al := by omega
          have HO2 : Hid (wr.ownsRow w.heap.size 86 2 (.slice At kk ct) kk (VMt (matsTo es p (i + 1)))) := Lib.hid (by
            have h := HO.out
            rw [List.take_of_length_le (by rw [Hal.out]; exact Nat.le_refl _)] at h
            rw [Hsu.out]
            exact h)
          have Hk3 : Hid ((matsTo es p (i + 1)).length = kk) := Lib.hid (by rw [Hsu.out, List.length_append, List.length_map, Hk.out, Hal.out, Hkk.out])
          go_wp2_with fail
          go_roundw
          case rel => exact ⟨i + 1, kk, At, ct, by omega, by go_num, rfl, Hk3, HO2, HBr⟩
          case measure => simp [intOf]; omega
    · obtain rfl : i = n := by omega
      have hOo := HO.out
      have Hk2 := Hk.out
      rw [show matsTo es p i = matsOf (es.map De.dc) p by rw [← Hall.out, ← H.out.len]] at hOo Hk2
      obtain ⟨A9, c9, hv9, hS9, -, -, -, -, -⟩ := own_form hOo
      have HS9 := Lib.hid hS9
      have HK2 := Lib.hid Hk2
      injection hv9 with e1 e2 e3
      subst e1
      clear hOo hS9 e2 e3 HO Hk2
      go_wp2_with fail
      go_ret
      exact ⟨_, ct, by rw [HK2.out]; rfl, HS9.out, HB.out⟩
end Go.Proofs.YtphccomhggnccaaGreat
