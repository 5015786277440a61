/- segment.New. -/
import Derived.Test.YtphccomhggnccaaGreatSgX
import Derived.Deep.RegionLaw
import Derived.StillTailTactics
namespace Go.Proofs.YtphccomhggnccaaGreat
set_option maxRecDepth 100000
set_option linter.unusedVariables false
set_option linter.unusedSimpArgs false
set_option maxRecDepth 100000
open Go.RowKit Sg Fm
def NewP (w : World) (ds : List Dc) (gs : List Key) (e : Ending) (w' : World) : Prop :=
  (Rise (keysD ds ++ gs) ∧ ∃ x sa, e = .returned (.tuple #[.pointer (some ⟨x, 0, none⟩), .int .i64 0]) ∧ SegM w' w.heap.size x (sortD ds) (srt gs) sa ∧ Below w.heap.size w w') ∨
  (¬ Rise (keysD ds ++ gs) ∧ e = .returned (.tuple #[.pointer none, .int .i64 1]) ∧ Below w.heap.size w w')
theorem keysM (m : List De) : keysD (m.map De.dc) = m.map (·.k) := by simp [keysD, De.dc]
set_option maxHeartbeats 40000000 in
theorem segnew_any (w : World) (A Ag : Option Addr) (n c ng cg : Nat) (es : List De) (gs : List Key) (hD : DArg w A n c es) (hG : GArg w Ag ng cg gs) (hL : Lite (es.map De.dc) gs) :
    Calls Tryz.prog 16 #[.slice A n c, .slice Ag ng cg] w (NewP w (es.map De.dc) gs) := by
  have hn : n ≤ 4000 := by have h1 := hL.w; have h2 := wtD_len (es.map De.dc); rw [List.length_map, hD.len] at h2; omega
  have hng : ng ≤ 4000 := by have h1 := hL.w; have h2 := wtG_len gs; rw [hG.len] at h2; omega
  have HD := Lib.hid hD
  have HG := Lib.hid hG
  have HL := Lib.hid hL
  clear hD hG hL
  go_enter Tryz.func16, Tryz.ntmps16
  go_wp2_with fail
  go_at_call 46
  refine (SgD.values_any _ _ _ _).mono ?_
  rintro e w1 ⟨rfl, hw1⟩
  subst hw1
  have hB1 := below_new w (.cells #[.slice A n c] 22)
  have hD1 := HD.out.below hB1
  have HS := Lib.hid (sortedStableD_any w.heap.size (w.alloc (.cells #[.slice A n c] 22)).heap.size (.slice A n c) es (by rw [HD.out.len]; omega) _ (by simp) (Nat.le_refl _) ((cell_blk (heap_alloc_new w _) 0).trans rfl) (docs_of_arg hD1))
  have HB1 := Lib.hid hB1
  clear hB1 hD1
  go_wp2_with fail
  go_at_call 45
  refine HS.out.mono ?_
  rintro e w2 ⟨v, m, rfl, hpm, hby, hrow, hB⟩
  obtain ⟨Am, cm, rfl, hmc, hSm, hnm⟩ := hrow
  have hml : m.length = n := by rw [hpm.length_eq, HD.out.len]
  rw [hml] at hmc ⊢
  have HB2 := Lib.hid (HB1.out.trans (hB.mono (by simp)))
  have Hpm := Lib.hid hpm
  have Hby := Lib.hid hby
  have HSm := Lib.hid hSm
  have Hml := Lib.hid hml
  clear hpm hby hB hSm HS HB1 hmc hnm
  go_wp2_with fail
  go_at_call 50
  refine (SgS.values_any _ _ _ _).mono ?_
  rintro e w3 ⟨rfl, hw3⟩
  subst hw3
  have hB3 := below_new w2 (.cells #[.slice Ag ng cg] 23)
  have hG3 := HG.out.below ((HB2.out.trans (hB3.mono HB2.out.size)).mono (Nat.le_refl _))
  have HS := Lib.hid (sortedS_any w2.heap.size (w2.alloc (.cells #[.slice Ag ng cg] 23)).heap.size (.slice Ag ng cg) gs (by rw [HG.out.len]; omega) _ (by simp) (Nat.le_refl _) ((cell_blk (heap_alloc_new w2 _) 0).trans rfl) (ints_of_arg hG3))
  have HB3 := Lib.hid hB3
  clear hB3 hG3
  go_wp2_with fail
  go_at_call 49
  refine HS.out.mono ?_
  rintro e w4 ⟨v4, rfl, hown4, hB4⟩
  obtain ⟨A4, c4, rfl, hS4, hc4, hn4, hl4, ha4, -⟩ := own_form hown4
  have HB4 := Lib.hid (HB2.out.trans ((HB3.out.trans (hB4.mono (by simp))).mono HB2.out.size))
  have HSm4 := Lib.hid (HSm.out.below ((HB3.out.trans (hB4.mono (by simp)))))
  have HS4 := Lib.hid hS4
  have Hn4 := Lib.hid hn4
  have HA4 := Lib.hid ha4
  have hs4 := HB4.out.size
  have HW2 := Lib.hid (Nat.le_trans HB2.out.size (below_new w2 (.cells #[.slice Ag ng cg] 23)).size)
  clear hown4 hB4 hS4 hc4 hn4 hl4 ha4 HS HSm HB3 HB2 hs4
  have HSm := HSm4
  clear HSm4
  go_wp2_with fail
  obtain ⟨x, hx⟩ : ∃ x, w4.heap.size = x := ⟨_, rfl⟩
  obtain ⟨nG, hnG⟩ : ∃ k, (srt gs).length = k := ⟨_, rfl⟩
  rw [hnG]
  have hNS0 : NS w4 (w4.alloc (.cells #[.pointer none, .slice none 0 0, .slice A4 nG c4] 46)) x (.pointer none) (.slice none 0 0) (.slice A4 nG c4) (.slice none 0 0) [] (.slice none 0 0) [] [] := by
    subst hx
    exact ⟨heap_alloc_new w4 _, Nat.le_refl _, World.ownsRow_nil _ _ _ _, World.ownsRow_nil _ _ _ _, (fun p hp => by cases hp), nofun, nofun, (fun g hg => by cases hg), below_new w4 _⟩
  have HNS0 := Lib.hid hNS0
  have Hx := Lib.hid hx
  have HnG := Lib.hid hnG
  rw [hx]
  clear hNS0 hx hnG
  generalize w4.alloc (.cells #[.pointer none, .slice none 0 0, .slice A4 nG c4] 46) = w5 at *
  go_loopw [7, 27] (fun t q wr => ∃ j : Nat, j ≤ n ∧ q = .int .i64 (j : Int) ∧ ∃ At ct Ak ck, t = .slice At j ct ∧ Hid (NS w4 wr x (.pointer none) (.slice Ak j ck) (.slice A4 nG c4) (.slice Ak j ck) ((m.take j).map (·.k)) t (VT (m.take j)) [])) (fun _ q _ => n - (intOf q).toNat)
  case atStart => exact ⟨0, Nat.zero_le _, rfl, none, 0, none, 0, rfl, HNS0⟩
  case round =>
    obtain ⟨j, hj, rfl, At, ct, Ak, ck, rfl, HNS⟩ := hrel
    by_cases hjn : j < n
    · have hjm : j < m.length := by rw [Hml.out]; exact hjn
      have hSr := HSm.out.below (HNS.out.bel)
      obtain ⟨bm, om, rfl, hc0⟩ := hSr.lit (j := j * 2) (by rw [VD_length]; omega)
      have hc1 := hSr.cell _ rfl (j * 2 + 1) _ (VD_get1 m j hjm)
      rw [VD_get0 m j hjm] at hc0
      rw [show (⟨bm, om, none⟩ : Addr).add (j * 2 + 1) = ⟨bm, om + j * 2 + 1, none⟩ by unfold Addr.add; split <;> simp_all; omega] at hc1
      have Hek := Lib.hid (show (m.take (j + 1)).map (·.k) = (m.take j).map (·.k) ++ [(m[j]?.getD default).k] by
        rw [List.take_succ_eq_append_getElem hjm, List.map_append]; simp [hjm])
      have Het := Lib.hid (show VT (m.take (j + 1)) = VT (m.take j) ++ [.slice (m[j]?.getD default).a (m[j]?.getD default).n (m[j]?.getD default).c] by
        unfold VT; rw [List.take_succ_eq_append_getElem hjm, List.map_append]; simp [hjm])
      have Hkl : Hid (((m.take j).map (·.k)).length = j) := Lib.hid (by rw [List.length_map, List.length_take, Nat.min_eq_left (by omega)])
      have Htl : Hid ((VT (m.take j)).length = j) := Lib.hid (by rw [VT_length, List.length_take, Nat.min_eq_left (by omega)])
      generalize m[j]?.getD default = ej at *
      obtain ⟨ks, hks⟩ : ∃ k, (m.take j).map (·.k) = k := ⟨_, rfl⟩
      obtain ⟨ts, hts⟩ : ∃ k, VT (m.take j) = k := ⟨_, rfl⟩
      rw [hks] at HNS Hek Hkl
      rw [hts] at HNS Het Htl
      clear hSr hks hts
      dsimp only [encStr] at hc0
      go_upto_region 7 with fail
      obtain ⟨d, hd⟩ : ∃ d, wr.heap.size = d := ⟨_, rfl⟩
      have hNSa := (HNS.out.alloc (.cells #[.string (ba ej.k), .slice ej.a ej.n ej.c] 36))
      rw [hd] at hNSa
      change NS w4 (wr.alloc (Obj.cells #[Value.string { data := List.toArray ej.k }, Value.slice ej.a ej.n ej.c] 36)) _ _ _ _ _ _ _ _ _ at hNSa
      rw [hd]
      clear hc0 hc1 hd HNS
      generalize wr.alloc (Obj.cells #[Value.string { data := List.toArray ej.k }, Value.slice ej.a ej.n ej.c] 36) = wa at *
      have hNSd := hNSa.drew
      have l0 := hNSd.l0
      have l1 := hNSd.l1
      have l2 := hNSd.l2
      have q1 : ∀ o, (wa.alloc o).drew.cell? ⟨x, 1, none⟩ = some (.slice Ak j ck) := fun o => (hNSa.alloc o).drew.l0
      have q2 : ∀ o o', ((wa.alloc o).alloc o').drew.cell? ⟨x, 1, none⟩ = some (.slice Ak j ck) := fun o o' => ((hNSa.alloc o).alloc o').drew.l0
      have p1 := hNSa.l1
      have p2 := hNSa.l2
      have hj9 : j ≤ 1099511627 := by omega
      have hD0 : wa.cell? ⟨d, 0, none⟩ = some (.string (ba ej.k)) := hNSa.cell (by (first | (refine ⟨_, List.mem_cons_self, rfl, ?_⟩; simp; done) | (refine ⟨_, (List.mem_cons_of_mem _ List.mem_cons_self), rfl, ?_⟩; simp; done) | (refine ⟨_, (List.mem_cons_of_mem _ (List.mem_cons_of_mem _ List.mem_cons_self)), rfl, ?_⟩; simp; done) | (refine ⟨_, (List.mem_cons_of_mem _ (List.mem_cons_of_mem _ (List.mem_cons_of_mem _ List.mem_cons_self))), rfl, ?_⟩; simp; done))) rfl
      have hD1 : wa.cell? ⟨d, 1, none⟩ = some (.slice ej.a ej.n ej.c) := hNSa.cell (by (first | (refine ⟨_, List.mem_cons_self, rfl, ?_⟩; simp; done) | (refine ⟨_, (List.mem_cons_of_mem _ List.mem_cons_self), rfl, ?_⟩; simp; done) | (refine ⟨_, (List.mem_cons_of_mem _ (List.mem_cons_of_mem _ List.mem_cons_self)), rfl, ?_⟩; simp; done) | (refine ⟨_, (List.mem_cons_of_mem _ (List.mem_cons_of_mem _ (List.mem_cons_of_mem _ List.mem_cons_self))), rfl, ?_⟩; simp; done))) rfl
      have Da : ∀ o, (wa.alloc o).cell? ⟨d, 0, none⟩ = some (.string (ba ej.k)) := fun o => (World.cell?_of_block ((below_new wa o).block d (World.block_lt_of_cell? _ _ hD0))).trans hD0
      have Db : ∀ o, (wa.alloc o).cell? ⟨d, 1, none⟩ = some (.slice ej.a ej.n ej.c) := fun o => (World.cell?_of_block ((below_new wa o).block d (World.block_lt_of_cell? _ _ hD1))).trans hD1
      have Dc : ∀ o o', ((wa.alloc o).alloc o').cell? ⟨d, 0, none⟩ = some (.string (ba ej.k)) := fun o o' => (World.cell?_of_block ((below_new _ o').block d (World.block_lt_of_cell? _ _ (Da o)))).trans (Da o)
      have Dd : ∀ o o', ((wa.alloc o).alloc o').cell? ⟨d, 1, none⟩ = some (.slice ej.a ej.n ej.c) := fun o o' => (World.cell?_of_block ((below_new _ o').block d (World.block_lt_of_cell? _ _ (Db o)))).trans (Db o)
      have De' : wa.drew.cell? ⟨d, 0, none⟩ = some (.string (ba ej.k)) := hD0
      have Df : wa.drew.cell? ⟨d, 1, none⟩ = some (.slice ej.a ej.n ej.c) := hD1
      have Dg : ∀ o, (wa.alloc o).drew.cell? ⟨d, 0, none⟩ = some (.string (ba ej.k)) := fun o => Da o
      have Dh : ∀ o, (wa.alloc o).drew.cell? ⟨d, 1, none⟩ = some (.slice ej.a ej.n ej.c) := fun o => Db o
      have Di : ∀ o o', ((wa.alloc o).alloc o').drew.cell? ⟨d, 0, none⟩ = some (.string (ba ej.k)) := fun o o' => Dc o o'
      have Dj : ∀ o o', ((wa.alloc o).alloc o').drew.cell? ⟨d, 1, none⟩ = some (.slice ej.a ej.n ej.c) := fun o o' => Dd o o'
      have Dk : ∀ o, (wa.drew.alloc o).cell? ⟨d, 0, none⟩ = some (.string (ba ej.k)) := fun o => Da o
      have Dl : ∀ o, (wa.drew.alloc o).cell? ⟨d, 1, none⟩ = some (.slice ej.a ej.n ej.c) := fun o => Db o
      have Dm : ∀ o o', ((wa.drew.alloc o).alloc o').cell? ⟨d, 0, none⟩ = some (.string (ba ej.k)) := fun o o' => Dc o o'
      have Dn : ∀ o o', ((wa.drew.alloc o).alloc o').cell? ⟨d, 1, none⟩ = some (.slice ej.a ej.n ej.c) := fun o o' => Dd o o'
      go_region_law (first
        | (refine stepK (k := ej.k) (t := 9) rfl _ _ rfl ((hNSa.alloc _).drew) rfl rfl ?_ Hkl.out hj9 ?_; (focus (first | (refine ⟨_, List.mem_cons_self, rfl, ?_⟩; simp; done) | (refine ⟨_, (List.mem_cons_of_mem _ List.mem_cons_self), rfl, ?_⟩; simp; done) | (refine ⟨_, (List.mem_cons_of_mem _ (List.mem_cons_of_mem _ List.mem_cons_self)), rfl, ?_⟩; simp; done) | (refine ⟨_, (List.mem_cons_of_mem _ (List.mem_cons_of_mem _ (List.mem_cons_of_mem _ List.mem_cons_self))), rfl, ?_⟩; simp; done))); intro A7 c7 w7 hNS7; have m0 := hNS7.l0; have m1 := hNS7.l1; have f0 := hNS7.f0; have f1 := hNS7.f1; have e0 : w7.cell? ⟨d, 0, none⟩ = some (.string (ba ej.k)) := hNS7.cell (by (first | (refine ⟨_, List.mem_cons_self, rfl, ?_⟩; simp; done) | (refine ⟨_, (List.mem_cons_of_mem _ List.mem_cons_self), rfl, ?_⟩; simp; done) | (refine ⟨_, (List.mem_cons_of_mem _ (List.mem_cons_of_mem _ List.mem_cons_self)), rfl, ?_⟩; simp; done) | (refine ⟨_, (List.mem_cons_of_mem _ (List.mem_cons_of_mem _ (List.mem_cons_of_mem _ List.mem_cons_self))), rfl, ?_⟩; simp; done))) rfl; have e1 : w7.cell? ⟨d, 1, none⟩ = some (.slice ej.a ej.n ej.c) := hNS7.cell (by (first | (refine ⟨_, List.mem_cons_self, rfl, ?_⟩; simp; done) | (refine ⟨_, (List.mem_cons_of_mem _ List.mem_cons_self), rfl, ?_⟩; simp; done) | (refine ⟨_, (List.mem_cons_of_mem _ (List.mem_cons_of_mem _ List.mem_cons_self)), rfl, ?_⟩; simp; done) | (refine ⟨_, (List.mem_cons_of_mem _ (List.mem_cons_of_mem _ (List.mem_cons_of_mem _ List.mem_cons_self))), rfl, ?_⟩; simp; done))) rfl; have e2 : ∀ o, (w7.alloc o).cell? ⟨d, 0, none⟩ = some (.string (ba ej.k)) := fun o => (World.cell?_of_block ((below_new w7 o).block d (World.block_lt_of_cell? _ _ e0))).trans e0; have e3 : ∀ o, (w7.alloc o).cell? ⟨d, 1, none⟩ = some (.slice ej.a ej.n ej.c) := fun o => (World.cell?_of_block ((below_new w7 o).block d (World.block_lt_of_cell? _ _ e1))).trans e1)
        | (refine stepT (u := .slice ej.a ej.n ej.c) (t := 34) rfl _ _ rfl ((hNSa.alloc _).drew) rfl rfl rfl ?_ Htl.out hj9 ?_; (focus (first | (refine ⟨_, List.mem_cons_self, rfl, ?_⟩; simp; done) | (refine ⟨_, (List.mem_cons_of_mem _ List.mem_cons_self), rfl, ?_⟩; simp; done) | (refine ⟨_, (List.mem_cons_of_mem _ (List.mem_cons_of_mem _ List.mem_cons_self)), rfl, ?_⟩; simp; done) | (refine ⟨_, (List.mem_cons_of_mem _ (List.mem_cons_of_mem _ (List.mem_cons_of_mem _ List.mem_cons_self))), rfl, ?_⟩; simp; done))); intro A7 c7 w7 hNS7; have m0 := hNS7.l0; have m1 := hNS7.l1; have f0 := hNS7.f0; have f1 := hNS7.f1; have e0 : w7.cell? ⟨d, 0, none⟩ = some (.string (ba ej.k)) := hNS7.cell (by (first | (refine ⟨_, List.mem_cons_self, rfl, ?_⟩; simp; done) | (refine ⟨_, (List.mem_cons_of_mem _ List.mem_cons_self), rfl, ?_⟩; simp; done) | (refine ⟨_, (List.mem_cons_of_mem _ (List.mem_cons_of_mem _ List.mem_cons_self)), rfl, ?_⟩; simp; done) | (refine ⟨_, (List.mem_cons_of_mem _ (List.mem_cons_of_mem _ (List.mem_cons_of_mem _ List.mem_cons_self))), rfl, ?_⟩; simp; done))) rfl; have e1 : w7.cell? ⟨d, 1, none⟩ = some (.slice ej.a ej.n ej.c) := hNS7.cell (by (first | (refine ⟨_, List.mem_cons_self, rfl, ?_⟩; simp; done) | (refine ⟨_, (List.mem_cons_of_mem _ List.mem_cons_self), rfl, ?_⟩; simp; done) | (refine ⟨_, (List.mem_cons_of_mem _ (List.mem_cons_of_mem _ List.mem_cons_self)), rfl, ?_⟩; simp; done) | (refine ⟨_, (List.mem_cons_of_mem _ (List.mem_cons_of_mem _ (List.mem_cons_of_mem _ List.mem_cons_self))), rfl, ?_⟩; simp; done))) rfl; have e2 : ∀ o, (w7.alloc o).cell? ⟨d, 0, none⟩ = some (.string (ba ej.k)) := fun o => (World.cell?_of_block ((below_new w7 o).block d (World.block_lt_of_cell? _ _ e0))).trans e0; have e3 : ∀ o, (w7.alloc o).cell? ⟨d, 1, none⟩ = some (.slice ej.a ej.n ej.c) := fun o => (World.cell?_of_block ((below_new w7 o).block d (World.block_lt_of_cell? _ _ e1))).trans e1)
        | (refine stepK (k := ej.k) (t := 9) rfl _ _ rfl (((hNSa.alloc _).alloc _).drew) rfl rfl ?_ Hkl.out hj9 ?_; (focus (first | (refine ⟨_, List.mem_cons_self, rfl, ?_⟩; simp; done) | (refine ⟨_, (List.mem_cons_of_mem _ List.mem_cons_self), rfl, ?_⟩; simp; done) | (refine ⟨_, (List.mem_cons_of_mem _ (List.mem_cons_of_mem _ List.mem_cons_self)), rfl, ?_⟩; simp; done) | (refine ⟨_, (List.mem_cons_of_mem _ (List.mem_cons_of_mem _ (List.mem_cons_of_mem _ List.mem_cons_self))), rfl, ?_⟩; simp; done))); intro A7 c7 w7 hNS7; have m0 := hNS7.l0; have m1 := hNS7.l1; have f0 := hNS7.f0; have f1 := hNS7.f1; have e0 : w7.cell? ⟨d, 0, none⟩ = some (.string (ba ej.k)) := hNS7.cell (by (first | (refine ⟨_, List.mem_cons_self, rfl, ?_⟩; simp; done) | (refine ⟨_, (List.mem_cons_of_mem _ List.mem_cons_self), rfl, ?_⟩; simp; done) | (refine ⟨_, (List.mem_cons_of_mem _ (List.mem_cons_of_mem _ List.mem_cons_self)), rfl, ?_⟩; simp; done) | (refine ⟨_, (List.mem_cons_of_mem _ (List.mem_cons_of_mem _ (List.mem_cons_of_mem _ List.mem_cons_self))), rfl, ?_⟩; simp; done))) rfl; have e1 : w7.cell? ⟨d, 1, none⟩ = some (.slice ej.a ej.n ej.c) := hNS7.cell (by (first | (refine ⟨_, List.mem_cons_self, rfl, ?_⟩; simp; done) | (refine ⟨_, (List.mem_cons_of_mem _ List.mem_cons_self), rfl, ?_⟩; simp; done) | (refine ⟨_, (List.mem_cons_of_mem _ (List.mem_cons_of_mem _ List.mem_cons_self)), rfl, ?_⟩; simp; done) | (refine ⟨_, (List.mem_cons_of_mem _ (List.mem_cons_of_mem _ (List.mem_cons_of_mem _ List.mem_cons_self))), rfl, ?_⟩; simp; done))) rfl; have e2 : ∀ o, (w7.alloc o).cell? ⟨d, 0, none⟩ = some (.string (ba ej.k)) := fun o => (World.cell?_of_block ((below_new w7 o).block d (World.block_lt_of_cell? _ _ e0))).trans e0; have e3 : ∀ o, (w7.alloc o).cell? ⟨d, 1, none⟩ = some (.slice ej.a ej.n ej.c) := fun o => (World.cell?_of_block ((below_new w7 o).block d (World.block_lt_of_cell? _ _ e1))).trans e1)
        | (refine stepT (u := .slice ej.a ej.n ej.c) (t := 34) rfl _ _ rfl (((hNSa.alloc _).alloc _).drew) rfl rfl rfl ?_ Htl.out hj9 ?_; (focus (first | (refine ⟨_, List.mem_cons_self, rfl, ?_⟩; simp; done) | (refine ⟨_, (List.mem_cons_of_mem _ List.mem_cons_self), rfl, ?_⟩; simp; done) | (refine ⟨_, (List.mem_cons_of_mem _ (List.mem_cons_of_mem _ List.mem_cons_self)), rfl, ?_⟩; simp; done) | (refine ⟨_, (List.mem_cons_of_mem _ (List.mem_cons_of_mem _ (List.mem_cons_of_mem _ List.mem_cons_self))), rfl, ?_⟩; simp; done))); intro A7 c7 w7 hNS7; have m0 := hNS7.l0; have m1 := hNS7.l1; have f0 := hNS7.f0; have f1 := hNS7.f1; have e0 : w7.cell? ⟨d, 0, none⟩ = some (.string (ba ej.k)) := hNS7.cell (by (first | (refine ⟨_, List.mem_cons_self, rfl, ?_⟩; simp; done) | (refine ⟨_, (List.mem_cons_of_mem _ List.mem_cons_self), rfl, ?_⟩; simp; done) | (refine ⟨_, (List.mem_cons_of_mem _ (List.mem_cons_of_mem _ List.mem_cons_self)), rfl, ?_⟩; simp; done) | (refine ⟨_, (List.mem_cons_of_mem _ (List.mem_cons_of_mem _ (List.mem_cons_of_mem _ List.mem_cons_self))), rfl, ?_⟩; simp; done))) rfl; have e1 : w7.cell? ⟨d, 1, none⟩ = some (.slice ej.a ej.n ej.c) := hNS7.cell (by (first | (refine ⟨_, List.mem_cons_self, rfl, ?_⟩; simp; done) | (refine ⟨_, (List.mem_cons_of_mem _ List.mem_cons_self), rfl, ?_⟩; simp; done) | (refine ⟨_, (List.mem_cons_of_mem _ (List.mem_cons_of_mem _ List.mem_cons_self)), rfl, ?_⟩; simp; done) | (refine ⟨_, (List.mem_cons_of_mem _ (List.mem_cons_of_mem _ (List.mem_cons_of_mem _ List.mem_cons_self))), rfl, ?_⟩; simp; done))) rfl; have e2 : ∀ o, (w7.alloc o).cell? ⟨d, 0, none⟩ = some (.string (ba ej.k)) := fun o => (World.cell?_of_block ((below_new w7 o).block d (World.block_lt_of_cell? _ _ e0))).trans e0; have e3 : ∀ o, (w7.alloc o).cell? ⟨d, 1, none⟩ = some (.slice ej.a ej.n ej.c) := fun o => (World.cell?_of_block ((below_new w7 o).block d (World.block_lt_of_cell? _ _ e1))).trans e1)
        | (refine stepK (k := ej.k) (t := 9) rfl _ _ rfl (hNSa.drew.alloc _) rfl rfl ?_ Hkl.out hj9 ?_; (focus (first | (refine ⟨_, List.mem_cons_self, rfl, ?_⟩; simp; done) | (refine ⟨_, (List.mem_cons_of_mem _ List.mem_cons_self), rfl, ?_⟩; simp; done) | (refine ⟨_, (List.mem_cons_of_mem _ (List.mem_cons_of_mem _ List.mem_cons_self)), rfl, ?_⟩; simp; done) | (refine ⟨_, (List.mem_cons_of_mem _ (List.mem_cons_of_mem _ (List.mem_cons_of_mem _ List.mem_cons_self))), rfl, ?_⟩; simp; done))); intro A7 c7 w7 hNS7; have m0 := hNS7.l0; have m1 := hNS7.l1; have f0 := hNS7.f0; have f1 := hNS7.f1; have e0 : w7.cell? ⟨d, 0, none⟩ = some (.string (ba ej.k)) := hNS7.cell (by (first | (refine ⟨_, List.mem_cons_self, rfl, ?_⟩; simp; done) | (refine ⟨_, (List.mem_cons_of_mem _ List.mem_cons_self), rfl, ?_⟩; simp; done) | (refine ⟨_, (List.mem_cons_of_mem _ (List.mem_cons_of_mem _ List.mem_cons_self)), rfl, ?_⟩; simp; done) | (refine ⟨_, (List.mem_cons_of_mem _ (List.mem_cons_of_mem _ (List.mem_cons_of_mem _ List.mem_cons_self))), rfl, ?_⟩; simp; done))) rfl; have e1 : w7.cell? ⟨d, 1, none⟩ = some (.slice ej.a ej.n ej.c) := hNS7.cell (by (first | (refine ⟨_, List.mem_cons_self, rfl, ?_⟩; simp; done) | (refine ⟨_, (List.mem_cons_of_mem _ List.mem_cons_self), rfl, ?_⟩; simp; done) | (refine ⟨_, (List.mem_cons_of_mem _ (List.mem_cons_of_mem _ List.mem_cons_self)), rfl, ?_⟩; simp; done) | (refine ⟨_, (List.mem_cons_of_mem _ (List.mem_cons_of_mem _ (List.mem_cons_of_mem _ List.mem_cons_self))), rfl, ?_⟩; simp; done))) rfl; have e2 : ∀ o, (w7.alloc o).cell? ⟨d, 0, none⟩ = some (.string (ba ej.k)) := fun o => (World.cell?_of_block ((below_new w7 o).block d (World.block_lt_of_cell? _ _ e0))).trans e0; have e3 : ∀ o, (w7.alloc o).cell? ⟨d, 1, none⟩ = some (.slice ej.a ej.n ej.c) := fun o => (World.cell?_of_block ((below_new w7 o).block d (World.block_lt_of_cell? _ _ e1))).trans e1)
        | (refine stepT (u := .slice ej.a ej.n ej.c) (t := 34) rfl _ _ rfl (hNSa.drew.alloc _) rfl rfl rfl ?_ Htl.out hj9 ?_; (focus (first | (refine ⟨_, List.mem_cons_self, rfl, ?_⟩; simp; done) | (refine ⟨_, (List.mem_cons_of_mem _ List.mem_cons_self), rfl, ?_⟩; simp; done) | (refine ⟨_, (List.mem_cons_of_mem _ (List.mem_cons_of_mem _ List.mem_cons_self)), rfl, ?_⟩; simp; done) | (refine ⟨_, (List.mem_cons_of_mem _ (List.mem_cons_of_mem _ (List.mem_cons_of_mem _ List.mem_cons_self))), rfl, ?_⟩; simp; done))); intro A7 c7 w7 hNS7; have m0 := hNS7.l0; have m1 := hNS7.l1; have f0 := hNS7.f0; have f1 := hNS7.f1; have e0 : w7.cell? ⟨d, 0, none⟩ = some (.string (ba ej.k)) := hNS7.cell (by (first | (refine ⟨_, List.mem_cons_self, rfl, ?_⟩; simp; done) | (refine ⟨_, (List.mem_cons_of_mem _ List.mem_cons_self), rfl, ?_⟩; simp; done) | (refine ⟨_, (List.mem_cons_of_mem _ (List.mem_cons_of_mem _ List.mem_cons_self)), rfl, ?_⟩; simp; done) | (refine ⟨_, (List.mem_cons_of_mem _ (List.mem_cons_of_mem _ (List.mem_cons_of_mem _ List.mem_cons_self))), rfl, ?_⟩; simp; done))) rfl; have e1 : w7.cell? ⟨d, 1, none⟩ = some (.slice ej.a ej.n ej.c) := hNS7.cell (by (first | (refine ⟨_, List.mem_cons_self, rfl, ?_⟩; simp; done) | (refine ⟨_, (List.mem_cons_of_mem _ List.mem_cons_self), rfl, ?_⟩; simp; done) | (refine ⟨_, (List.mem_cons_of_mem _ (List.mem_cons_of_mem _ List.mem_cons_self)), rfl, ?_⟩; simp; done) | (refine ⟨_, (List.mem_cons_of_mem _ (List.mem_cons_of_mem _ (List.mem_cons_of_mem _ List.mem_cons_self))), rfl, ?_⟩; simp; done))) rfl; have e2 : ∀ o, (w7.alloc o).cell? ⟨d, 0, none⟩ = some (.string (ba ej.k)) := fun o => (World.cell?_of_block ((below_new w7 o).block d (World.block_lt_of_cell? _ _ e0))).trans e0; have e3 : ∀ o, (w7.alloc o).cell? ⟨d, 1, none⟩ = some (.slice ej.a ej.n ej.c) := fun o => (World.cell?_of_block ((below_new w7 o).block d (World.block_lt_of_cell? _ _ e1))).trans e1)
        | (refine stepK (k := ej.k) (t := 9) rfl _ _ rfl ((hNSa.drew.alloc _).alloc _) rfl rfl ?_ Hkl.out hj9 ?_; (focus (first | (refine ⟨_, List.mem_cons_self, rfl, ?_⟩; simp; done) | (refine ⟨_, (List.mem_cons_of_mem _ List.mem_cons_self), rfl, ?_⟩; simp; done) | (refine ⟨_, (List.mem_cons_of_mem _ (List.mem_cons_of_mem _ List.mem_cons_self)), rfl, ?_⟩; simp; done) | (refine ⟨_, (List.mem_cons_of_mem _ (List.mem_cons_of_mem _ (List.mem_cons_of_mem _ List.mem_cons_self))), rfl, ?_⟩; simp; done))); intro A7 c7 w7 hNS7; have m0 := hNS7.l0; have m1 := hNS7.l1; have f0 := hNS7.f0; have f1 := hNS7.f1; have e0 : w7.cell? ⟨d, 0, none⟩ = some (.string (ba ej.k)) := hNS7.cell (by (first | (refine ⟨_, List.mem_cons_self, rfl, ?_⟩; simp; done) | (refine ⟨_, (List.mem_cons_of_mem _ List.mem_cons_self), rfl, ?_⟩; simp; done) | (refine ⟨_, (List.mem_cons_of_mem _ (List.mem_cons_of_mem _ List.mem_cons_self)), rfl, ?_⟩; simp; done) | (refine ⟨_, (List.mem_cons_of_mem _ (List.mem_cons_of_mem _ (List.mem_cons_of_mem _ List.mem_cons_self))), rfl, ?_⟩; simp; done))) rfl; have e1 : w7.cell? ⟨d, 1, none⟩ = some (.slice ej.a ej.n ej.c) := hNS7.cell (by (first | (refine ⟨_, List.mem_cons_self, rfl, ?_⟩; simp; done) | (refine ⟨_, (List.mem_cons_of_mem _ List.mem_cons_self), rfl, ?_⟩; simp; done) | (refine ⟨_, (List.mem_cons_of_mem _ (List.mem_cons_of_mem _ List.mem_cons_self)), rfl, ?_⟩; simp; done) | (refine ⟨_, (List.mem_cons_of_mem _ (List.mem_cons_of_mem _ (List.mem_cons_of_mem _ List.mem_cons_self))), rfl, ?_⟩; simp; done))) rfl; have e2 : ∀ o, (w7.alloc o).cell? ⟨d, 0, none⟩ = some (.string (ba ej.k)) := fun o => (World.cell?_of_block ((below_new w7 o).block d (World.block_lt_of_cell? _ _ e0))).trans e0; have e3 : ∀ o, (w7.alloc o).cell? ⟨d, 1, none⟩ = some (.slice ej.a ej.n ej.c) := fun o => (World.cell?_of_block ((below_new w7 o).block d (World.block_lt_of_cell? _ _ e1))).trans e1)
        | (refine stepT (u := .slice ej.a ej.n ej.c) (t := 34) rfl _ _ rfl ((hNSa.drew.alloc _).alloc _) rfl rfl rfl ?_ Htl.out hj9 ?_; (focus (first | (refine ⟨_, List.mem_cons_self, rfl, ?_⟩; simp; done) | (refine ⟨_, (List.mem_cons_of_mem _ List.mem_cons_self), rfl, ?_⟩; simp; done) | (refine ⟨_, (List.mem_cons_of_mem _ (List.mem_cons_of_mem _ List.mem_cons_self)), rfl, ?_⟩; simp; done) | (refine ⟨_, (List.mem_cons_of_mem _ (List.mem_cons_of_mem _ (List.mem_cons_of_mem _ List.mem_cons_self))), rfl, ?_⟩; simp; done))); intro A7 c7 w7 hNS7; have m0 := hNS7.l0; have m1 := hNS7.l1; have f0 := hNS7.f0; have f1 := hNS7.f1; have e0 : w7.cell? ⟨d, 0, none⟩ = some (.string (ba ej.k)) := hNS7.cell (by (first | (refine ⟨_, List.mem_cons_self, rfl, ?_⟩; simp; done) | (refine ⟨_, (List.mem_cons_of_mem _ List.mem_cons_self), rfl, ?_⟩; simp; done) | (refine ⟨_, (List.mem_cons_of_mem _ (List.mem_cons_of_mem _ List.mem_cons_self)), rfl, ?_⟩; simp; done) | (refine ⟨_, (List.mem_cons_of_mem _ (List.mem_cons_of_mem _ (List.mem_cons_of_mem _ List.mem_cons_self))), rfl, ?_⟩; simp; done))) rfl; have e1 : w7.cell? ⟨d, 1, none⟩ = some (.slice ej.a ej.n ej.c) := hNS7.cell (by (first | (refine ⟨_, List.mem_cons_self, rfl, ?_⟩; simp; done) | (refine ⟨_, (List.mem_cons_of_mem _ List.mem_cons_self), rfl, ?_⟩; simp; done) | (refine ⟨_, (List.mem_cons_of_mem _ (List.mem_cons_of_mem _ List.mem_cons_self)), rfl, ?_⟩; simp; done) | (refine ⟨_, (List.mem_cons_of_mem _ (List.mem_cons_of_mem _ (List.mem_cons_of_mem _ List.mem_cons_self))), rfl, ?_⟩; simp; done))) rfl; have e2 : ∀ o, (w7.alloc o).cell? ⟨d, 0, none⟩ = some (.string (ba ej.k)) := fun o => (World.cell?_of_block ((below_new w7 o).block d (World.block_lt_of_cell? _ _ e0))).trans e0; have e3 : ∀ o, (w7.alloc o).cell? ⟨d, 1, none⟩ = some (.slice ej.a ej.n ej.c) := fun o => (World.cell?_of_block ((below_new w7 o).block d (World.block_lt_of_cell? _ _ e1))).trans e1)
        | (refine stepK (k := ej.k) (t := 9) rfl _ _ rfl hNS7 rfl rfl ?_ Hkl.out hj9 ?_; (focus (first | (refine ⟨_, List.mem_cons_self, rfl, ?_⟩; simp; done) | (refine ⟨_, (List.mem_cons_of_mem _ List.mem_cons_self), rfl, ?_⟩; simp; done) | (refine ⟨_, (List.mem_cons_of_mem _ (List.mem_cons_of_mem _ List.mem_cons_self)), rfl, ?_⟩; simp; done) | (refine ⟨_, (List.mem_cons_of_mem _ (List.mem_cons_of_mem _ (List.mem_cons_of_mem _ List.mem_cons_self))), rfl, ?_⟩; simp; done))); intro A7 c7 w7 hNS7; have m0 := hNS7.l0; have m1 := hNS7.l1; have f0 := hNS7.f0; have f1 := hNS7.f1; have e0 : w7.cell? ⟨d, 0, none⟩ = some (.string (ba ej.k)) := hNS7.cell (by (first | (refine ⟨_, List.mem_cons_self, rfl, ?_⟩; simp; done) | (refine ⟨_, (List.mem_cons_of_mem _ List.mem_cons_self), rfl, ?_⟩; simp; done) | (refine ⟨_, (List.mem_cons_of_mem _ (List.mem_cons_of_mem _ List.mem_cons_self)), rfl, ?_⟩; simp; done) | (refine ⟨_, (List.mem_cons_of_mem _ (List.mem_cons_of_mem _ (List.mem_cons_of_mem _ List.mem_cons_self))), rfl, ?_⟩; simp; done))) rfl; have e1 : w7.cell? ⟨d, 1, none⟩ = some (.slice ej.a ej.n ej.c) := hNS7.cell (by (first | (refine ⟨_, List.mem_cons_self, rfl, ?_⟩; simp; done) | (refine ⟨_, (List.mem_cons_of_mem _ List.mem_cons_self), rfl, ?_⟩; simp; done) | (refine ⟨_, (List.mem_cons_of_mem _ (List.mem_cons_of_mem _ List.mem_cons_self)), rfl, ?_⟩; simp; done) | (refine ⟨_, (List.mem_cons_of_mem _ (List.mem_cons_of_mem _ (List.mem_cons_of_mem _ List.mem_cons_self))), rfl, ?_⟩; simp; done))) rfl; have e2 : ∀ o, (w7.alloc o).cell? ⟨d, 0, none⟩ = some (.string (ba ej.k)) := fun o => (World.cell?_of_block ((below_new w7 o).block d (World.block_lt_of_cell? _ _ e0))).trans e0; have e3 : ∀ o, (w7.alloc o).cell? ⟨d, 1, none⟩ = some (.slice ej.a ej.n ej.c) := fun o => (World.cell?_of_block ((below_new w7 o).block d (World.block_lt_of_cell? _ _ e1))).trans e1)
        | (refine stepT (u := .slice ej.a ej.n ej.c) (t := 34) rfl _ _ rfl hNS7 rfl rfl rfl ?_ Htl.out hj9 ?_; (focus (first | (refine ⟨_, List.mem_cons_self, rfl, ?_⟩; simp; done) | (refine ⟨_, (List.mem_cons_of_mem _ List.mem_cons_self), rfl, ?_⟩; simp; done) | (refine ⟨_, (List.mem_cons_of_mem _ (List.mem_cons_of_mem _ List.mem_cons_self)), rfl, ?_⟩; simp; done) | (refine ⟨_, (List.mem_cons_of_mem _ (List.mem_cons_of_mem _ (List.mem_cons_of_mem _ List.mem_cons_self))), rfl, ?_⟩; simp; done))); intro A7 c7 w7 hNS7; have m0 := hNS7.l0; have m1 := hNS7.l1; have f0 := hNS7.f0; have f1 := hNS7.f1; have e0 : w7.cell? ⟨d, 0, none⟩ = some (.string (ba ej.k)) := hNS7.cell (by (first | (refine ⟨_, List.mem_cons_self, rfl, ?_⟩; simp; done) | (refine ⟨_, (List.mem_cons_of_mem _ List.mem_cons_self), rfl, ?_⟩; simp; done) | (refine ⟨_, (List.mem_cons_of_mem _ (List.mem_cons_of_mem _ List.mem_cons_self)), rfl, ?_⟩; simp; done) | (refine ⟨_, (List.mem_cons_of_mem _ (List.mem_cons_of_mem _ (List.mem_cons_of_mem _ List.mem_cons_self))), rfl, ?_⟩; simp; done))) rfl; have e1 : w7.cell? ⟨d, 1, none⟩ = some (.slice ej.a ej.n ej.c) := hNS7.cell (by (first | (refine ⟨_, List.mem_cons_self, rfl, ?_⟩; simp; done) | (refine ⟨_, (List.mem_cons_of_mem _ List.mem_cons_self), rfl, ?_⟩; simp; done) | (refine ⟨_, (List.mem_cons_of_mem _ (List.mem_cons_of_mem _ List.mem_cons_self)), rfl, ?_⟩; simp; done) | (refine ⟨_, (List.mem_cons_of_mem _ (List.mem_cons_of_mem _ (List.mem_cons_of_mem _ List.mem_cons_self))), rfl, ?_⟩; simp; done))) rfl; have e2 : ∀ o, (w7.alloc o).cell? ⟨d, 0, none⟩ = some (.string (ba ej.k)) := fun o => (World.cell?_of_block ((below_new w7 o).block d (World.block_lt_of_cell? _ _ e0))).trans e0; have e3 : ∀ o, (w7.alloc o).cell? ⟨d, 1, none⟩ = some (.slice ej.a ej.n ej.c) := fun o => (World.cell?_of_block ((below_new w7 o).block d (World.block_lt_of_cell? _ _ e1))).trans e1)
        | (refine stepK (k := ej.k) (t := 9) rfl _ _ rfl (hNS7.alloc _) rfl rfl ?_ Hkl.out hj9 ?_; (focus (first | (refine ⟨_, List.mem_cons_self, rfl, ?_⟩; simp; done) | (refine ⟨_, (List.mem_cons_of_mem _ List.mem_cons_self), rfl, ?_⟩; simp; done) | (refine ⟨_, (List.mem_cons_of_mem _ (List.mem_cons_of_mem _ List.mem_cons_self)), rfl, ?_⟩; simp; done) | (refine ⟨_, (List.mem_cons_of_mem _ (List.mem_cons_of_mem _ (List.mem_cons_of_mem _ List.mem_cons_self))), rfl, ?_⟩; simp; done))); intro A7 c7 w7 hNS7; have m0 := hNS7.l0; have m1 := hNS7.l1; have f0 := hNS7.f0; have f1 := hNS7.f1; have e0 : w7.cell? ⟨d, 0, none⟩ = some (.string (ba ej.k)) := hNS7.cell (by (first | (refine ⟨_, List.mem_cons_self, rfl, ?_⟩; simp; done) | (refine ⟨_, (List.mem_cons_of_mem _ List.mem_cons_self), rfl, ?_⟩; simp; done) | (refine ⟨_, (List.mem_cons_of_mem _ (List.mem_cons_of_mem _ List.mem_cons_self)), rfl, ?_⟩; simp; done) | (refine ⟨_, (List.mem_cons_of_mem _ (List.mem_cons_of_mem _ (List.mem_cons_of_mem _ List.mem_cons_self))), rfl, ?_⟩; simp; done))) rfl; have e1 : w7.cell? ⟨d, 1, none⟩ = some (.slice ej.a ej.n ej.c) := hNS7.cell (by (first | (refine ⟨_, List.mem_cons_self, rfl, ?_⟩; simp; done) | (refine ⟨_, (List.mem_cons_of_mem _ List.mem_cons_self), rfl, ?_⟩; simp; done) | (refine ⟨_, (List.mem_cons_of_mem _ (List.mem_cons_of_mem _ List.mem_cons_self)), rfl, ?_⟩; simp; done) | (refine ⟨_, (List.mem_cons_of_mem _ (List.mem_cons_of_mem _ (List.mem_cons_of_mem _ List.mem_cons_self))), rfl, ?_⟩; simp; done))) rfl; have e2 : ∀ o, (w7.alloc o).cell? ⟨d, 0, none⟩ = some (.string (ba ej.k)) := fun o => (World.cell?_of_block ((below_new w7 o).block d (World.block_lt_of_cell? _ _ e0))).trans e0; have e3 : ∀ o, (w7.alloc o).cell? ⟨d, 1, none⟩ = some (.slice ej.a ej.n ej.c) := fun o => (World.cell?_of_block ((below_new w7 o).block d (World.block_lt_of_cell? _ _ e1))).trans e1)
        | (refine stepT (u := .slice ej.a ej.n ej.c) (t := 34) rfl _ _ rfl (hNS7.alloc _) rfl rfl rfl ?_ Htl.out hj9 ?_; (focus (first | (refine ⟨_, List.mem_cons_self, rfl, ?_⟩; simp; done) | (refine ⟨_, (List.mem_cons_of_mem _ List.mem_cons_self), rfl, ?_⟩; simp; done) | (refine ⟨_, (List.mem_cons_of_mem _ (List.mem_cons_of_mem _ List.mem_cons_self)), rfl, ?_⟩; simp; done) | (refine ⟨_, (List.mem_cons_of_mem _ (List.mem_cons_of_mem _ (List.mem_cons_of_mem _ List.mem_cons_self))), rfl, ?_⟩; simp; done))); intro A7 c7 w7 hNS7; have m0 := hNS7.l0; have m1 := hNS7.l1; have f0 := hNS7.f0; have f1 := hNS7.f1; have e0 : w7.cell? ⟨d, 0, none⟩ = some (.string (ba ej.k)) := hNS7.cell (by (first | (refine ⟨_, List.mem_cons_self, rfl, ?_⟩; simp; done) | (refine ⟨_, (List.mem_cons_of_mem _ List.mem_cons_self), rfl, ?_⟩; simp; done) | (refine ⟨_, (List.mem_cons_of_mem _ (List.mem_cons_of_mem _ List.mem_cons_self)), rfl, ?_⟩; simp; done) | (refine ⟨_, (List.mem_cons_of_mem _ (List.mem_cons_of_mem _ (List.mem_cons_of_mem _ List.mem_cons_self))), rfl, ?_⟩; simp; done))) rfl; have e1 : w7.cell? ⟨d, 1, none⟩ = some (.slice ej.a ej.n ej.c) := hNS7.cell (by (first | (refine ⟨_, List.mem_cons_self, rfl, ?_⟩; simp; done) | (refine ⟨_, (List.mem_cons_of_mem _ List.mem_cons_self), rfl, ?_⟩; simp; done) | (refine ⟨_, (List.mem_cons_of_mem _ (List.mem_cons_of_mem _ List.mem_cons_self)), rfl, ?_⟩; simp; done) | (refine ⟨_, (List.mem_cons_of_mem _ (List.mem_cons_of_mem _ (List.mem_cons_of_mem _ List.mem_cons_self))), rfl, ?_⟩; simp; done))) rfl; have e2 : ∀ o, (w7.alloc o).cell? ⟨d, 0, none⟩ = some (.string (ba ej.k)) := fun o => (World.cell?_of_block ((below_new w7 o).block d (World.block_lt_of_cell? _ _ e0))).trans e0; have e3 : ∀ o, (w7.alloc o).cell? ⟨d, 1, none⟩ = some (.slice ej.a ej.n ej.c) := fun o => (World.cell?_of_block ((below_new w7 o).block d (World.block_lt_of_cell? _ _ e1))).trans e1))
      all_goals go_wp2_with fail
      all_goals go_roundw
      all_goals first | (refine ⟨j + 1, by omega, by go_num, ?_⟩; rw [Hek.out, Het.out]; apply ns_end; (repeat (first | (with_reducible assumption) | with_reducible apply NS.alloc | with_reducible apply NS.store | with_reducible apply NS.drew))) | (simp [intOf]; omega)
    · obtain rfl : j = n := by omega
      clear HNS0
      have HN := HNS.out
      rw [List.take_of_length_le (by rw [Hml.out]; exact Nat.le_refl _)] at HN
      have HN0 := Lib.hid HN
      have hx1 : wr.cell? ⟨x, 1, none⟩ = some (.slice Ak j ck) := cell_blk HN.xb 1
      have hx2 : wr.cell? ⟨x, 2, none⟩ = some (.slice A4 nG c4) := cell_blk HN.xb 2
      clear HN HNS
      go_wp2_with fail
      go_still_tail 8, (by kernel_rfl)
      change wpList _ _ _ _ _ wr.drew
      have HNd := Lib.hid HN0.out.drew
      generalize wr.drew = wd at *
      have hKo := HNd.out.hk
      have hTo := HNd.out.ht
      have hkl : (m.map (·.k)).length = j := by rw [List.length_map, Hml.out]
      obtain ⟨Ak', ck', hv, hSk, -, hnk, -, hak, -⟩ := own_form hKo
      rw [hkl] at hv
      injection hv with hv1 hv2 hv3
      subst hv1 hv3
      clear hv2
      obtain ⟨At', ct', hv, hSt, -, hnt, -, hat, -⟩ := own_form hTo
      rw [VT_length, Hml.out] at hv
      injection hv with hv1 hv2 hv3
      subst hv1 hv3
      clear hv2
      have hwd := HNd.out.bel
      have hC1 := below_new wd (.cells #[.slice Ak j ck, .slice A4 nG c4] 23)
      have hb1 : (wd.alloc (.cells #[.slice Ak j ck, .slice A4 nG c4] 23)).heap[wd.heap.size]? = some (.cells #[.slice Ak j ck, .slice A4 nG c4] 23 (0, 0)) := heap_alloc_new wd _
      have hG4 := Lib.hid (fun (W : World) (h : Below w4.heap.size w4 W) => HS4.out.below h)
      have hng2 : nG ≤ 4000 := by rw [← HnG.out, srt_length, HG.out.len]; exact hng
      have HCt := Lib.hid (concat_any (wd.alloc (.cells #[.slice Ak j ck, .slice A4 nG c4] 23)) wd.heap.size 0 2 Ak A4 j nG ck c4 (m.map (·.k)) (srt gs) (cell_blk hb1 0) (cell_blk hb1 1) (hSk.below hC1) (hG4.out _ (hwd.trans (hC1.mono hwd.size))) hkl HnG.out hnk Hn4.out (by omega) (by omega))
      have HC1 := Lib.hid hC1
      have HSk := Lib.hid hSk
      have HSt := Lib.hid hSt
      have Hnk := Lib.hid hnk
      have Hnt := Lib.hid hnt
      have Hak := Lib.hid hak
      have Hat := Lib.hid hat
      have Hkl := Lib.hid hkl
      have Hwd := Lib.hid hwd
      clear hKo hTo hSk hSt hnk hnt hak hat hwd hC1 hb1 hkl hml
      go_wp2_with fail
      go_at_call 51
      refine HCt.out.mono ?_
      rintro e w6 ⟨v6, rfl, hown6, hB6⟩
      obtain ⟨A6, c6, rfl, hS6, hc6, hn6, -, ha6, -⟩ := own_form hown6
      clear hown6 HCt
      obtain ⟨n6, hn6l⟩ : ∃ k, (m.map (·.k) ++ srt gs).length = k := ⟨_, rfl⟩
      have hn6b : n6 ≤ 8000 := by rw [← hn6l, List.length_append, Hkl.out, HnG.out]; omega
      rw [hn6l] at hc6 ⊢
      have hCv := below_new w6 (.cells #[.slice A6 n6 c6] 23)
      have hI6 : SgS.Ints (w6.alloc (.cells #[.slice A6 n6 c6] 23)).heap.size (w6.alloc (.cells #[.slice A6 n6 c6] 23)) (.slice A6 n6 c6) (m.map (·.k) ++ srt gs) :=
        ints_of_sl (hS6.below hCv) hn6l hn6 (fun a ha => ⟨Nat.lt_of_lt_of_le (ha6 a ha).2.1 hCv.size, by rw [(ha6 a ha).2.2.1]⟩)
      have HSo := Lib.hid (sortedS_any w6.heap.size _ (.slice A6 n6 c6) _ (by rw [hn6l]; omega) _ (by simp) (Nat.le_refl _) ((cell_blk (heap_alloc_new w6 _) 0).trans rfl) hI6)
      have HB6 := Lib.hid (((HC1.out.trans (hB6.mono HC1.out.size)).trans (hCv.mono (Nat.le_trans HC1.out.size hB6.size))))
      clear hS6 hc6 hn6 ha6 hI6 hCv hB6
      go_wp2_with fail
      go_at_call 50
      refine (SgS.values_any _ _ _ _).mono ?_
      rintro e w3 ⟨rfl, hw3⟩
      subst hw3
      go_wp2_with fail
      go_at_call 49
      refine HSo.out.mono ?_
      rintro e w7 ⟨v7, rfl, hown7, hB7⟩
      obtain ⟨A7, c7, rfl, hS7, hc7, hn7, -, ha7, -⟩ := own_form hown7
      have HB7 := Lib.hid (HB6.out.trans (hB7.mono HB6.out.size))
      have hpk : (m.map (·.k)).Perm (keysD (es.map De.dc)) := by rw [← keysM]; exact keysD_perm (Hpm.out.map _)
      have hal : (m.map (·.k) ++ srt gs).Perm (keysD (es.map De.dc) ++ gs) := hpk.append (srt_perm gs)
      rw [srt_same hal] at hS7 hown7 ⊢
      obtain ⟨n7, hn7l⟩ : ∃ k, (srt (keysD (es.map De.dc) ++ gs)).length = k := ⟨_, rfl⟩
      have hn7b : n7 ≤ 8000 := by rw [← hn7l, srt_length, ← hal.length_eq, hn6l]; exact hn6b
      have hkk : ∀ k ∈ srt (keysD (es.map De.dc) ++ gs), k.length ≤ 1099511627776 := fun k hk => by
        have h1 := ((srt_perm _).mem_iff.1 hk)
        have h2 := HL.out.w
        rcases List.mem_append.1 h1 with h1 | h1
        · have := wtG_mem h1; have := wtG_keysD (es.map De.dc); omega
        · have := wtG_mem h1; omega
      have HRi := Lib.hid (rise_any w7 A7 n7 c7 _ hS7 hn7l (fun a ha => by rw [(ha7 a ha).2.2.1]) (by omega) hkk (srt_sorted _))
      rw [hn7l]
      have HRp : Hid (decide (Rise (srt (keysD (es.map De.dc) ++ gs))) = decide (Rise (keysD (es.map De.dc) ++ gs))) := Lib.hid (decide_eq_decide.2 (rise_perm (srt_perm _)))
      rw [HRp.out] at HRi
      clear hS7 hown7 hc7 hn7 ha7 hpk hal hkk hn7l hB7 HSo
      go_wp2_with fail
      go_at_call 52
      refine HRi.out.mono ?_
      rintro e w8 ⟨rfl, hw8⟩
      subst hw8
      have HBw := Lib.hid (HB4.out.trans ((Hwd.out.trans (HB7.out.mono Hwd.out.size)).mono HB4.out.size))
      clear HRi HRp
      by_cases hR : Rise (keysD (es.map De.dc) ++ gs)
      · have HR := Lib.hid hR
        rw [decide_eq_true hR]
        clear hR
        have hwx : x < wd.heap.size := by rw [← Hx.out]; exact blk_lt HNd.out.xb |> fun h => by rw [Hx.out]; exact h
        have hxw7 := (HB7.out.block x hwx).trans HNd.out.xb
        have HSt7 := Lib.hid (HSt.out.below HB7.out)
        have HSk7 := Lib.hid (HSk.out.below HB7.out)
        have HS47 := Lib.hid (HS4.out.below (Hwd.out.trans (HB7.out.mono Hwd.out.size)))
        have Hxw7 := Lib.hid hxw7
        clear hxw7 HSt HSk
        go_wp2_with fail
        go_loopw [65] (fun q wr => ∃ i : Nat, i ≤ j ∧ q = .int .i64 (i : Int) ∧ w7 = wr) (fun q _ => j - (intOf q).toNat)
        case atStart => exact ⟨0, Nat.zero_le _, rfl, rfl⟩
        case round =>
          obtain ⟨i, hi, rfl, rfl⟩ := hrel
          by_cases hij : i < j
          · have him : i < m.length := by rw [Hml.out]; exact hij
            obtain ⟨bt, ot, rfl, hc⟩ := HSt7.out.lit (j := i) (by rw [VT_length]; exact him)
            rw [VT_get m i him] at hc
            have hle : ((m[i]?.getD default).n : Int) ≤ 4096 := by
              have h1 : m[i]?.getD default = m[i] := by simp [him]
              have h2 : m[i] ∈ es := Hpm.out.mem_iff.1 (List.getElem_mem him)
              have h3 := (HD.out.txt _ h2).len
              have h4 := HL.out.t _ (List.mem_map_of_mem (f := De.dc) h2)
              have h5 : m[i].t.length ≤ 4096 := h4
              rw [h1, ← h3]; omega
            have hle2 : ¬ (4096 : Int) < ((m[i]?.getD default).n : Int) := by omega
            generalize m[i]?.getD default = ei at *
            go_wp2_with fail
            go_roundw
            case rel => exact ⟨i + 1, by omega, by go_num, trivial⟩
            case measure => simp [intOf]; omega
          · obtain rfl : i = j := by omega
            have hm3 : m.map De.dc = sortD (es.map De.dc) := by
              refine sortD_eq (HR.out.2.sublist (List.sublist_append_left _ _)) (Hpm.out.map _) ?_
              rw [List.pairwise_map]
              exact Hby.out
            have hts : m.map (·.t) = textsD (sortD (es.map De.dc)) := by rw [← hm3]; simp [textsD, De.dc]
            have htx : ∀ e ∈ m, TxtOk w7 e := fun e he => (HD.out.txt e (Hpm.out.mem_iff.1 he)).below HBw.out
            have hRA : RArg w7 At i ct (m.map (·.t)) := rarg_of_row HSt7.out Hml.out (by omega) htx (fun e he => by
              have h3 := (htx e he).len
              have h4 := HL.out.t _ (List.mem_map_of_mem (f := De.dc) (Hpm.out.mem_iff.1 he))
              have h5 : e.t.length ≤ 4096 := h4
              rw [← h3]; omega)
            have hLs : Lite (sortD (es.map De.dc)) (srt gs) := HL.out.perm (sortD_perm _) (srt_perm _)
            have hFs := hLs.fits
            rw [hts] at hRA
            have HBu := Lib.hid (buildS_ok w7 At i ct _ hRA (by omega) hFs.t)
            have Hm3 := Lib.hid hm3
            have HFs := Lib.hid hFs
            clear hm3 hts htx hRA hLs hFs
            go_wp2_with fail
            go_at_call 53
            refine HBu.out.mono ?_
            rintro e w9 ⟨ix, sa, rfl, hI9, hB9⟩
            have hx9 := (hB9.block x (blk_lt Hxw7.out)).trans Hxw7.out
            have hxc : w9.cell? ⟨x, 0, none⟩ = some (.pointer none) := cell_blk hx9 0
            have hxf : w9.frozen? ⟨x, 0, none⟩ = false := frozen_blk hx9 0
            have hg10 := grown_set w9 x 0 (.pointer (some ⟨ix, 0, none⟩))
            have hne : ∀ k, k ≠ x → (w9.setCell ⟨x, 0, none⟩ (.pointer (some ⟨ix, 0, none⟩))).heap[k]? = w9.heap[k]? := fun k hk => Below.heap_setCell w9 ⟨x, 0, none⟩ _ k hk
            have hx7 : x < w7.heap.size := blk_lt Hxw7.out
            have h4x : w4.heap.size = x := Hx.out
            have hw4 := HB4.out.size
            have hsz10 : (w9.setCell ⟨x, 0, none⟩ (.pointer (some ⟨ix, 0, none⟩))).heap.size = w9.heap.size := by simp [World.setCell]
            have hI10 := (hI9.keep (fun k hk _ => hne k (by omega))).mono HBw.out.size
            have hSeg : SegM (w9.setCell ⟨x, 0, none⟩ (.pointer (some ⟨ix, 0, none⟩))) w.heap.size x (sortD (es.map De.dc)) (srt gs) sa := by
              refine ⟨by omega, ix, Ak, A4, ck, c4, ?_, hI10, ?_, ?_, ?_, ?_, Hnk.out, Hn4.out⟩
              · rw [← Hm3.out, List.length_map, Hml.out, HnG.out]
                exact blk_set hx9 0 _
              · rw [← Hm3.out, keysM]
                refine (HSk7.out.below hB9).grown hg10 (fun a ha _ e => ?_)
                have h1 := (Hak.out a ha).2.2.2
                rw [Option.some.inj e] at h1
                exact HNd.out.xk h1
              · refine (HS47.out.below hB9).grown hg10 (fun a ha _ e => ?_)
                have h1 := (HA4.out a ha).2.1
                have := Option.some.inj e
                omega
              · exact ⟨fun a ha => by rw [(Hak.out a ha).2.2.1], fun a ha => by
                  have h1 := Hak.out a ha
                  have h2 := HB7.out.size
                  have h3 := hB9.size
                  rw [hsz10]
                  omega⟩
              · exact ⟨fun a ha => by rw [(HA4.out a ha).2.2.1], fun a ha => by
                  have h1 := HA4.out a ha
                  have h2 := HW2.out
                  have h3 := hB9.size
                  rw [hsz10]
                  omega⟩
            have HSeg := Lib.hid hSeg
            have HRec := Lib.hid (record_any hSeg HFs.out)
            have HB10 := Lib.hid ((HBw.out.trans (hB9.mono HBw.out.size)).grown hg10 (by have := HBw.out.size; have := hB9.size; omega) (fun k hk => by have := Option.some.inj hk; omega))
            clear hI9 hB9 hx9 hg10 hne hsz10 hI10 hSeg h4x hw4
            go_wp2_with fail
            generalize w9.setCell ⟨x, 0, none⟩ (.pointer (some ⟨ix, 0, none⟩)) = w10 at *
            go_at_call 54
            refine HRec.out.mono ?_
            rintro e w11 ⟨g11, cap11, rfl, -, -, -, hB11⟩
            have HSe := Lib.hid (HSeg.out.below hB11)
            have HBe := Lib.hid (HB10.out.trans (hB11.mono HB10.out.size))
            clear hB11 HRec
            go_wp2_with fail
            go_ret2
            exact .inl ⟨HR.out, x, sa, rfl, HSe.out, HBe.out⟩
      · rw [decide_eq_false hR]
        go_wp2_with fail
        go_ret2
        exact .inr ⟨hR, rfl, HBw.out⟩
end Go.Proofs.YtphccomhggnccaaGreat
