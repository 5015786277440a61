/- fm: find. -/
import Derived.Test.YtphccomhggnccaaGreatFmD
namespace Go.Proofs.YtphccomhggnccaaGreat
set_option maxRecDepth 100000
set_option linter.unusedVariables false
set_option linter.unusedSimpArgs false
set_option maxRecDepth 100000
open Go.RowKit Go.Shelf Fm Rank
attribute [local go_sem] Oper.semAt_some
def patB (pre : List (Nat × Fin 256)) : List Nat := (pre.map fun x => x.2.val + 2).reverse
theorem patB_snoc (pre : List (Nat × Fin 256)) (x : Nat × Fin 256) : patB (pre ++ [x]) = (x.2.val + 2) :: patB pre := by simp [patB]
theorem patB_all (zs : List Nat) (hz : ∀ c ∈ zs, c < 256) (k : Nat) (hk : k ≤ zs.length) : patB (bks zs k) = (zs.map (· + 2)).drop (zs.length - k) := by
  induction k with
  | zero => rw [Nat.sub_zero, List.drop_eq_nil_of_le (by simp)]; rfl
  | succ k ih =>
    rw [bks_succ, patB_snoc, ih (by omega)]
    have hi : zs.length - (k + 1) < zs.length := by omega
    have e : (bkf zs k).2.val + 2 = zs[zs.length - (k + 1)] + 2 := by
      unfold bkf
      simp only
      rw [show zs.length - 1 - k = zs.length - (k + 1) by omega, getD_at hi, Nat.mod_eq_of_lt (hz _ (List.getElem_mem _))]
    rw [e, List.drop_eq_getElem_cons (i := zs.length - (k + 1)) (by simp; omega), List.getElem_map, show zs.length - (k + 1) + 1 = zs.length - k by omega]

theorem keep4K {w2 W W' : World} {a1 a2 a3 a4 : Addr} {v1 v2 v3 v4 : Value} {B : Nat} (h : W.cell? a1 = some v1 ∧ W.cell? a2 = some v2 ∧ W.cell? a3 = some v3 ∧ W.cell? a4 = some v4 ∧ Below B w2 W) (k : Below W.heap.size W W') (hB : B ≤ w2.heap.size) : W'.cell? a1 = some v1 ∧ W'.cell? a2 = some v2 ∧ W'.cell? a3 = some v3 ∧ W'.cell? a4 = some v4 ∧ Below B w2 W' :=
  ⟨by rw [World.cell?_of_block (w := W) (k.block _ (World.block_lt_of_cell? W _ h.1))]; exact h.1, by rw [World.cell?_of_block (w := W) (k.block _ (World.block_lt_of_cell? W _ h.2.1))]; exact h.2.1, by rw [World.cell?_of_block (w := W) (k.block _ (World.block_lt_of_cell? W _ h.2.2.1))]; exact h.2.2.1,
    by rw [World.cell?_of_block (w := W) (k.block _ (World.block_lt_of_cell? W _ h.2.2.2.1))]; exact h.2.2.2.1, h.2.2.2.2.trans (k.mono (by have := h.2.2.2.2.size; omega))⟩
theorem keep4S {w2 W : World} {a1 a2 a3 a4 : Addr} {v1 v2 v3 v4 : Value} {B : Nat} (h : W.cell? a1 = some v1 ∧ W.cell? a2 = some v2 ∧ W.cell? a3 = some v3 ∧ W.cell? a4 = some v4 ∧ Below B w2 W) (k j : Nat) (v : Value) (hB : w2.heap.size = B) (hk : B ≤ k) (h1 : a1.block ≠ k) (h2 : a2.block ≠ k) (h3 : a3.block ≠ k) (h4 : a4.block ≠ k) :
    (W.setCell ⟨k, j, none⟩ v).cell? a1 = some v1 ∧ (W.setCell ⟨k, j, none⟩ v).cell? a2 = some v2 ∧ (W.setCell ⟨k, j, none⟩ v).cell? a3 = some v3 ∧ (W.setCell ⟨k, j, none⟩ v).cell? a4 = some v4 ∧ Below B w2 (W.setCell ⟨k, j, none⟩ v) :=
  ⟨by rw [World.cell?_of_block (w := W) (Below.heap_setCell _ _ _ _ h1)]; exact h.1, by rw [World.cell?_of_block (w := W) (Below.heap_setCell _ _ _ _ h2)]; exact h.2.1, by rw [World.cell?_of_block (w := W) (Below.heap_setCell _ _ _ _ h3)]; exact h.2.2.1, by rw [World.cell?_of_block (w := W) (Below.heap_setCell _ _ _ _ h4)]; exact h.2.2.2.1, below_cell h.2.2.2.2 hk _ _ hB⟩
def FindPost (w : World) (s P : List Nat) (e : Ending) (w' : World) : Prop :=
  ∃ f t : Nat, e = .returned (.tuple #[.int .i64 (f : Int), .int .i64 (t : Int)]) ∧ ((f < t ∧ f = cnt s (cut false · P) ∧ t = cnt s (cut true · P)) ∨ (f = 0 ∧ t = 0 ∧ occ s P = [])) ∧ Below w.heap.size w w'

def FInv (w : World) (x f t : Nat) (W : World) : Prop :=
  W.heap[w.heap.size]? = some (.cells #[.pointer (some ⟨x, 0, none⟩)] 44 (0, 0)) ∧ W.heap[w.heap.size + 1]? = some (.cells #[.int .i64 (f : Int)] 3 (0, 0)) ∧
  W.heap[w.heap.size + 1 + 1]? = some (.cells #[.int .i64 (t : Int)] 3 (0, 0)) ∧ Below w.heap.size w W
theorem FInv.own {w : World} {x f t B : Nat} {W W' : World} {row : Option Nat} (h : FInv w x f t W) (hB : w.heap.size + 3 ≤ B) (hg : W.grownBy W' row) (hr : ∀ r, row = some r → B ≤ r) : FInv w x f t W' := by
  obtain ⟨h1, h2, h3, h4⟩ := h
  refine ⟨grown_blk hg h1 ?_, grown_blk hg h2 ?_, grown_blk hg h3 ?_, h4.grown hg h4.size (fun k hk => by have := hr k hk; omega)⟩
  all_goals (intro e; have := hr _ e.symm; omega)
theorem FInv.below {w : World} {x f t : Nat} {W W' : World} (h : FInv w x f t W) (hb : Below W.heap.size W W') : FInv w x f t W' := by
  obtain ⟨h1, h2, h3, h4⟩ := h
  exact ⟨(hb.block _ (blk_lt h1)).trans h1, (hb.block _ (blk_lt h2)).trans h2, (hb.block _ (blk_lt h3)).trans h3, below_step h4 hb⟩
theorem FInv.set1 {w : World} {x f t : Nat} {W : World} (h : FInv w x f t W) (u : Nat) : FInv w x u t (W.setCell ⟨w.heap.size + 1, 0, none⟩ (.int .i64 (u : Int))) := by
  obtain ⟨h1, h2, h3, h4⟩ := h
  exact ⟨blk_other h1 (by omega) _ _, blk_set h2 0 _, blk_other h3 (by omega) _ _, below_cell h4 (by omega) _ _ rfl⟩
theorem FInv.set2 {w : World} {x f t : Nat} {W : World} (h : FInv w x f t W) (u : Nat) : FInv w x f u (W.setCell ⟨w.heap.size + 1 + 1, 0, none⟩ (.int .i64 (u : Int))) := by
  obtain ⟨h1, h2, h3, h4⟩ := h
  exact ⟨blk_other h1 (by omega) _ _, blk_other h2 (by omega) _ _, blk_set h3 0 _, below_cell h4 (by omega) _ _ rfl⟩

theorem FInv.facts {w : World} {x f t : Nat} {W : World} (h : FInv w x f t W) : W.cell? ⟨w.heap.size, 0, none⟩ = some (.pointer (some ⟨x, 0, none⟩)) ∧ W.cell? ⟨w.heap.size + 1, 0, none⟩ = some (.int .i64 (f : Int)) ∧ W.cell? ⟨w.heap.size + 1 + 1, 0, none⟩ = some (.int .i64 (t : Int)) ∧
    W.frozen? ⟨w.heap.size + 1, 0, none⟩ = false ∧ W.frozen? ⟨w.heap.size + 1 + 1, 0, none⟩ = false :=
  ⟨(cell_blk h.1 0).trans rfl, (cell_blk h.2.1 0).trans rfl, (cell_blk h.2.2.1 0).trans rfl, frozen_blk h.2.1 0, frozen_blk h.2.2.1 0⟩
def Pg (B p q : Nat) (W W' : World) : Prop := KeepsFrom B W W' ∧ Kp2 p q W W'
theorem Pg.refl (B p q : Nat) (W : World) : Pg B p q W W := ⟨KeepsFrom.refl B W, rfl, rfl⟩
theorem Pg.below {B p q : Nat} {W W1 W2 : World} (h : Pg B p q W W1) (hb : Below W1.heap.size W1 W2) (hp : p < W.heap.size) (hq : q < W.heap.size) : Pg B p q W W2 := by
  have hs := h.1.size
  exact ⟨h.1.trans (KeepsFrom.of_grownBy (below_grown hb (Nat.le_refl _) none) (fun _ e => by cases e)), h.2.t ⟨hb.block p (by omega), hb.block q (by omega)⟩⟩
theorem Pg.set {B p q : Nat} {W W1 : World} (h : Pg B p q W W1) (k j : Nat) (v : Value) (hk : k < B) (hkp : k ≠ p) (hkq : k ≠ q) : Pg B p q W (W1.setCell ⟨k, j, none⟩ v) :=
  ⟨h.1.trans (KeepsFrom.of_grownBy (grown_set W1 k j v) (fun i e => by cases e; exact hk)), h.2.t ⟨Below.heap_setCell _ _ _ _ (by show p ≠ k; omega), Below.heap_setCell _ _ _ _ (by show q ≠ k; omega)⟩⟩
theorem NoOut.normal {Q : Exit → Act → World → Prop} {a : Act} {w : World} (h : Q .normal a w) : NoOut Q .normal a w := h
theorem rk_le' (l : List Nat) (c i : Nat) : rk l c i ≤ l.length := by
  unfold rk
  exact Nat.le_trans List.count_le_length (by rw [List.length_take]; omega)

set_option maxHeartbeats 8000000 in
theorem find_any {w : World} {base x : Nat} {s sa : List Nat} (h : IdxM w base x s sa) (A : Option Addr) (n cap : Nat) (p : List Nat) (hA : Sl w A (VY p)) (hl : p.length = n) (hn : n ≤ 1099511627776) (hp : p ≠ []) (hb : ∀ c ∈ p, c < 256) :
    Calls Tryz.prog 56 #[.pointer (some ⟨x, 0, none⟩), .slice A n cap] w (FindPost w s (p.map (· + 2))) := by
  have hn0 : 0 < n := by rw [← hl]; exact List.length_pos_iff.2 hp
  obtain ⟨a, rfl, _⟩ := hA.some (j := 0) (by rw [VY_length, hl]; exact hn0)
  have hsl := h.len
  have H := Lib.hid h
  obtain ⟨h1, h2, h3, h4, h5, tr, g3, y, yc, mb, pb, pg, kk, rb, r, b1, b2, b3, b4, b5, c0, c1, c2, c3, c4, c5, c6, c7, c8⟩ := h
  have htl := trn_length h5
  have hc0 := (cell_blk c0 0).trans rfl
  have hc1 := (cell_blk c0 1).trans rfl
  have HT := Lib.hid c1
  have HL := Lib.hid c2
  have HC := Lib.hid h4
  have HO := Lib.hid h5
  have HA := Lib.hid hA
  have Hl := Lib.hid hl
  have Hb := Lib.hid hb
  have Hp := Lib.hid hp
  have Hhd := Lib.hid c0
  clear c1 c2 c3 c4 c5 c6 c7 c8 h1 h2 h3 h4 h5 b1 b2 b3 b4 b5 hA hl hb hp c0
  obtain ⟨w1, hw1⟩ : ∃ w1, ((w.alloc (.cells #[.pointer (some ⟨x, 0, none⟩)] 44)).alloc (.cells #[.int .i64 0] 3)).alloc (.cells #[.int .i64 0] 3) = w1 := ⟨_, rfl⟩
  have hbx := World.block_lt_of_cell? w _ hc0
  have hX1 : w1.heap[w.heap.size]? = some (.cells #[.pointer (some ⟨x, 0, none⟩)] 44 (0, 0)) := by
    rw [← hw1]; exact blk_alloc (blk_alloc (heap_alloc_new w _) _) _
  have hF1 : w1.heap[w.heap.size + 1]? = some (.cells #[.int .i64 0] 3 (0, 0)) := by
    rw [← hw1]
    have := heap_alloc_new (w.alloc (.cells #[.pointer (some ⟨x, 0, none⟩)] 44)) (.cells #[.int .i64 0] 3)
    rw [World.size_alloc] at this
    exact blk_alloc this _
  have hT1 : w1.heap[w.heap.size + 1 + 1]? = some (.cells #[.int .i64 0] 3 (0, 0)) := by
    rw [← hw1]
    have := heap_alloc_new ((w.alloc (.cells #[.pointer (some ⟨x, 0, none⟩)] 44)).alloc (.cells #[.int .i64 0] 3)) (.cells #[.int .i64 0] 3)
    rw [World.size_alloc, World.size_alloc] at this
    exact this
  have hB1 : Below w.heap.size w w1 := by rw [← hw1]; exact ((((Below.refl _ w).alloc (Nat.le_refl _) _).alloc (by simp) _).alloc (by simp; omega) _)
  have hs1 : w1.heap.size = w.heap.size + 3 := by rw [← hw1]; simp
  have hc01 : w1.cell? ⟨x, 0, none⟩ = some (.pointer (some ⟨tr, 0, none⟩)) := (hB1.cell (p := ⟨x, 0, none⟩) hbx).trans hc0
  have HW := Lib.hid (whole_any x tr w1 hc01)
  have htr : tr < w.heap.size := by
    have := HT.out.c0
    exact World.block_lt_of_cell? w _ this
  have HLen := Lib.hid (tlen_cell tr ((trn s sa).length : Int) w1 ((HT.out.below hB1).c0))
  rw [htl] at HLen
  have Htl := Lib.hid htl
  clear htl
  have hcX := (cell_blk hX1 0).trans rfl
  have hcF := (cell_blk hF1 0).trans rfl
  have hcT := (cell_blk hT1 0).trans rfl
  have hfF := frozen_blk hF1 0
  have hfT := frozen_blk hT1 0
  have HX1 := Lib.hid hX1
  have HF1 := Lib.hid hF1
  have HT1 := Lib.hid hT1
  have HB1 := Lib.hid hB1
  clear hX1 hF1 hT1 hB1 hc0 hc1
  refine (callsIn_wide (n := 3)).1 ?_
  refine callsIn_of_wp_marks Tryz.func56 rfl trivial ?_ rfl
  simp only [Tryz.ntmps56, List.size_toArray, List.length_cons, List.length_nil, Nat.reduceAdd, Nat.reduceSub, Array.replicate_succ, Array.replicate_zero, List.push_toArray, List.append_toArray, List.nil_append, List.cons_append]
  gi_wp2_with fail
  clear hw1
  refine ⟨trivial, (callsIn_wide.2 HW.out).mono ?_⟩
  rintro e w' ⟨rfl, rfl⟩
  have hn1 : (n == 0) = false := by rw [beq_eq_false_iff_ne]; omega
  have hn2 : ((n : Int) == 0) = false := by rw [beq_eq_false_iff_ne]; omega
  gi_wp2_with fail
  refine ⟨trivial, (callsIn_wide.2 HLen.out).mono ?_⟩
  rintro e w' ⟨rfl, rfl⟩
  gi_wp2_with fail
  refine ⟨trivial, (callsIn_wide.2 (backw_any (some a) n cap _)).mono ?_⟩
  rintro e w' ⟨rfl, rfl⟩
  gi_wp2_with fail
  have hI0 : FInv w x 0 s.length ((w1.setCell ⟨w.heap.size + 1 + 1, 0, none⟩ (.int .i64 (s.length : Int))).alloc (.cells #[.slice (some a) n cap] 34)) :=
    (FInv.set2 ⟨HX1.out, HF1.out, HT1.out, HB1.out⟩ _).below ((Below.refl _ _).alloc (Nat.le_refl _) _)
  have hs2 : ((w1.setCell ⟨w.heap.size + 1 + 1, 0, none⟩ (.int .i64 (s.length : Int))).alloc (.cells #[.slice (some a) n cap] 34)).heap.size = w.heap.size + 4 := by simp [World.setCell]; omega
  have hbs : ((w1.setCell ⟨w.heap.size + 1 + 1, 0, none⟩ (.int .i64 (s.length : Int))).alloc (.cells #[.slice (some a) n cap] 34)).cell? ⟨w.heap.size + 3, 0, none⟩ = some (.slice (some a) n cap) := by
    have h9 := heap_alloc_new (w1.setCell ⟨w.heap.size + 1 + 1, 0, none⟩ (.int .i64 (s.length : Int))) (.cells #[.slice (some a) n cap] 34)
    rw [show (w1.setCell ⟨w.heap.size + 1 + 1, 0, none⟩ (.int .i64 (s.length : Int))).heap.size = w.heap.size + 3 by simp [World.setCell]; omega] at h9
    exact (cell_blk h9 0).trans rfl
  obtain ⟨w2, hw2⟩ : ∃ w2, ((w1.setCell ⟨w.heap.size + 1 + 1, 0, none⟩ (.int .i64 (s.length : Int))).alloc (.cells #[.slice (some a) n cap] 34)) = w2 := ⟨_, rfl⟩
  rw [hw2] at hI0 hs2 hbs ⊢
  have HS2 : Sl w2 (some a) (VY p) := by
    refine HA.out.kept fun a' ha' hne => ?_
    have hlt := HA.out.lt a' ha' hne
    exact hI0.2.2.2.block _ hlt
  have hca := HA.out.lt a rfl (by intro e; have := congrArg List.length e; rw [VY_length, Hl.out] at this; simp at this; omega)
  have Hw2 := Lib.hid hw2
  have HI0 := Lib.hid hI0
  have HS2' := Lib.hid HS2
  clear hw2 hI0 HS2 hcX hcF hcT hfF hfT hn1 hn2
  refine wpIn_rangeFunc_ownG rfl (by omega) (gf := 147) (lb := #[.pointer (some ⟨w.heap.size + 3, 0, none⟩)]) rfl trivial (enters_of Tryz.func147 (by kernel_rfl) rfl)
    (backw_stops Fence.wide (3 - 1) trivial rfl (by omega) (w.heap.size + 3) a n cap p Hl.out Hb.out hn w2 hbs HS2'.out) Kp2.t (Kp2.b (by omega) (by omega)) (Below.refl _ _) (fun _ => rfl)
    (fun pre W => FInv w x (cnt s (cut false · (patB pre))) (cnt s (cut true · (patB pre))) W ∧ (pre = [] ∨ cnt s (cut false · (patB pre)) < cnt s (cut true · (patB pre))) ∧ w.heap.size + 4 ≤ W.heap.size)
    (fun c pre W => c = .ret ∧ FInv w x 0 0 W ∧ cnt s (cut true · (patB pre)) ≤ cnt s (cut false · (patB pre)))
    (fun pre A B row hs hg hr => ⟨hs.1.own (B := w2.heap.size) (by omega) hg (fun r e => (hr r e).1), hs.2.1, Nat.le_trans hs.2.2 hg.size⟩)
    (fun c pre A B row hs hg hr => ⟨hs.1, hs.2.1.own (B := w2.heap.size) (by omega) hg (fun r e => (hr r e).1), hs.2.2⟩)
    ⟨by show FInv w x (cnt s (cut false · [])) (cnt s (cut true · [])) w2; rw [cnt_nil, cnt_nil]; exact HI0.out, .inl rfl, by omega⟩
    (fun x' => { tmps := #[.pointer (some ⟨x, 0, none⟩), .slice (some a) n cap, .pointer (some ⟨w.heap.size, 0, none⟩), undef, .pointer (some ⟨w.heap.size + 1, 0, none⟩), .pointer (some ⟨w.heap.size + 1 + 1, 0, none⟩), undef, .int .u8 ((x'.2.val : Nat) : Int), undef, .pointer (some ⟨x, 0, none⟩), .bool true, .bool false, .bool false, .slice (some a) n cap, .int .i64 (n : Int), .bool false, .bool false, .pointer (some ⟨x, 0, none⟩), .pointer (some ⟨x, 0, none⟩), .pointer (some ⟨x, 0, none⟩), .pointer (some ⟨tr, 0, none⟩), .int .i64 (s.length : Int), .slice (some a) n cap, .func (.func 147) #[] #[.pointer (some ⟨w.heap.size + 3, 0, none⟩)], .int .i64 (x'.1 : Int), .int .u8 ((x'.2.val : Nat) : Int), undef, undef, undef, undef, undef, undef, undef, undef, undef, undef, undef, undef, undef, undef, undef, undef, undef, undef, undef, undef, undef, undef, undef, undef, undef, undef, undef, undef, undef, undef, undef, undef, undef, undef, undef, undef, undef, undef], defers := [] }) ?assign ?body ?done ?stop
  case assign =>
    intro l x' W K hK
    gi_wp2
    exact hK
  case body =>
    rintro l pre x' W ⟨hI, hor, hWs⟩ hlt
    have HFI := Lib.hid hI
    obtain ⟨hxb, hfb, htb, hBW⟩ := hI
    have hcx := (cell_blk hxb 0).trans rfl
    have hc0' : W.cell? ⟨x, 0, none⟩ = some (.pointer (some ⟨tr, 0, none⟩)) := (World.cell?_of_block (hBW.block x hbx)).trans ((cell_blk Hhd.out 0).trans rfl)
    have hc1' : W.cell? ⟨x, 1, none⟩ = some (.slice (some ⟨g3, 0, none⟩) 513 513) := (World.cell?_of_block (hBW.block x hbx)).trans ((cell_blk Hhd.out 1).trans rfl)
    have hc256 := x'.2.isLt
    have Hpb := Lib.hid (patB_snoc pre x')
    have hcF := (cell_blk hfb 0).trans rfl
    have hcT := (cell_blk htb 0).trans rfl
    have hll : x'.2.val + 2 < ((List.range 513).map (lessN s)).length := by rw [List.length_map, List.length_range]; omega
    have hless := HL.out.cell (i := x'.2.val + 2) (by rw [NI_length]; exact hll)
    rw [NI_getD _ _ hll, getD_at hll, List.getElem_map, List.getElem_range] at hless
    have hle := cnt_le s (cut false · (patB pre))
    have hle2 := cnt_le s (cut true · (patB pre))
    have hlm : lessN s (x'.2.val + 2) ≤ s.length := by unfold lessN; exact List.length_filter_le _ _
    have HstF := Lib.hid (cnt_step HC.out HO.out false (x'.2.val + 2) (by omega) (patB pre))
    have HstT := Lib.hid (cnt_step HC.out HO.out true (x'.2.val + 2) (by omega) (patB pre))
    have HR := Lib.hid (fun (W' : World) (hb : Below w.heap.size w W') (i : Nat) => trankZ (HT.out.below hb) ((x'.2.val + 2 : Nat) : Int) (i : Int))
    simp only [rk_IL, Int.toNat_natCast] at HR
    have Hxb := Lib.hid hxb
    have Hfb := Lib.hid hfb
    have Htb := Lib.hid htb
    have HBW := Lib.hid hBW
    have hle3 : W.cell? ⟨g3, x'.2.val + 2, none⟩ = some (.int .i64 ((lessN s (x'.2.val + 2) : Nat) : Int)) := (World.cell?_of_block (hBW.block g3 (World.block_lt_of_cell? w _ hless))).trans hless
    clear hxb hfb htb hBW hless hll
    obtain ⟨bc, hbc⟩ : ∃ bc, x'.2.val = bc := ⟨_, rfl⟩
    rw [hbc] at HR hle3 hc256 HstF HstT hlm Hpb ⊢
    obtain ⟨c, hc⟩ : ∃ c, bc + 2 = c := ⟨_, rfl⟩
    rw [hc] at HR hle3 HstF HstT hlm Hpb
    have Hbc := Lib.hid hbc
    have e0 : (bc : Int) + 2 = (c : Int) := by omega
    have e00 : (2 : Int) + (bc : Int) = (c : Int) := by omega
    have e1 : (0 : Int) ≤ (c : Int) := by omega
    have e2 : (c : Int) < 513 := by omega
    clear hbc hc
    have hq1 := rk_le' (trn s sa) c (cnt s (cut false · (patB pre)))
    have hq2 := rk_le' (trn s sa) c (cnt s (cut true · (patB pre)))
    rw [Htl.out] at hq1 hq2
    have HR1 := Lib.hid (fun (W' : World) (hb : Below w.heap.size w W') => HR.out W' hb (cnt s (cut false · (patB pre))))
    have HR2 := Lib.hid (fun (W' : World) (hb : Below w.heap.size w W') => HR.out W' hb (cnt s (cut true · (patB pre))))
    clear HR
    generalize rk (trn s sa) c (cnt s (cut false · (patB pre))) = q1 at *
    generalize rk (trn s sa) c (cnt s (cut true · (patB pre))) = q2 at *
    generalize lessN s c = m at *
    generalize cnt s (cut false · (patB pre)) = f at *
    generalize cnt s (cut true · (patB pre)) = t at *
    obtain ⟨f2, hf2⟩ : ∃ f2, m + q1 = f2 := ⟨_, rfl⟩
    obtain ⟨t2, ht2⟩ : ∃ t2, m + q2 = t2 := ⟨_, rfl⟩
    have e3 : IntKind.i64.wrap ((m : Int) + (q1 : Int)) = (f2 : Int) := by rw [IntWalk.i64_in _ (by omega)]; omega
    have e4 : IntKind.i64.wrap ((m : Int) + (q2 : Int)) = (t2 : Int) := by rw [IntWalk.i64_in _ (by omega)]; omega
    have Hf2 := Lib.hid hf2
    have Ht2 := Lib.hid ht2
    have hg3l : g3 < w.heap.size := HL.out.lt
    clear hf2 ht2
    gi_wp2_with fail
    refine round_held (fun W' => W'.cell? ⟨w.heap.size, 0, none⟩ = some (.pointer (some ⟨x, 0, none⟩)) ∧ W'.cell? ⟨x, 0, none⟩ = some (.pointer (some ⟨tr, 0, none⟩)) ∧ W'.cell? ⟨x, 1, none⟩ = some (.slice (some ⟨g3, 0, none⟩) 513 513) ∧ W'.cell? ⟨g3, c, none⟩ = some (.int .i64 (m : Int)) ∧ Below w.heap.size w W') (by kernel_rfl) (by kernel_rfl) ⟨hcx, hc0', hc1', hle3, HBW.out.drew⟩ ?_
    intro hHeld
    refine wpAnyH_take (i := 0) (v := ?v0) rfl (by kernel_rfl) (by kernel_rfl) (by kernel_rfl) (fun _ _ _ h => h) (Or.inl ⟨by rfl, ?y0⟩) hHeld ?r0
    case y0 => (intro W9 hW9; (try dsimp only at hW9); go_simp <;> (with_reducible rfl))
    simp only [Act.put, List.getElem_toArray, List.getElem_cons_succ, List.getElem_cons_zero, List.setIfInBounds_toArray, List.set_cons_zero, List.set_cons_succ]
    refine wpAnyH_take (i := 1) (v := ?v1) rfl (by kernel_rfl) (by kernel_rfl) (by kernel_rfl) (fun _ _ _ h => h) (Or.inl ⟨by rfl, ?y1⟩) hHeld ?r1
    case y1 => (intro W9 hW9; (try dsimp only at hW9); go_simp <;> (with_reducible rfl))
    simp only [Act.put, List.getElem_toArray, List.getElem_cons_succ, List.getElem_cons_zero, List.setIfInBounds_toArray, List.set_cons_zero, List.set_cons_succ]
    refine wpAnyH_take (i := 2) (v := ?v2) rfl (by kernel_rfl) (by kernel_rfl) (by kernel_rfl) (fun _ _ _ h => h) (Or.inl ⟨by rfl, ?y2⟩) hHeld ?r2
    case y2 => (intro W9 hW9; (try dsimp only at hW9); go_simp <;> (with_reducible rfl))
    simp only [Act.put, List.getElem_toArray, List.getElem_cons_succ, List.getElem_cons_zero, List.setIfInBounds_toArray, List.set_cons_zero, List.set_cons_succ]
    refine wpAnyH_take (i := 3) (v := ?v3) rfl (by kernel_rfl) (by kernel_rfl) (by kernel_rfl) (fun _ _ _ h => h) (Or.inl ⟨by rfl, ?y3⟩) hHeld ?r3
    case y3 => (intro W9 hW9; (try dsimp only at hW9); go_simp <;> (with_reducible rfl))
    simp only [Act.put, List.getElem_toArray, List.getElem_cons_succ, List.getElem_cons_zero, List.setIfInBounds_toArray, List.set_cons_zero, List.set_cons_succ]
    refine wpAnyH_take (i := 4) (v := ?v4) rfl (by kernel_rfl) (by kernel_rfl) (by kernel_rfl) (fun _ _ _ h => h) (Or.inl ⟨by rfl, ?y4⟩) hHeld ?r4
    case y4 => (intro W9 hW9; (try dsimp only at hW9); go_simp <;> (with_reducible rfl))
    simp only [Act.put, List.getElem_toArray, List.getElem_cons_succ, List.getElem_cons_zero, List.setIfInBounds_toArray, List.set_cons_zero, List.set_cons_succ]
    refine wpAnyH_take (i := 5) (v := ?v5) rfl (by kernel_rfl) (by kernel_rfl) (by kernel_rfl) (fun _ _ _ h => h) (Or.inl ⟨by rfl, ?y5⟩) hHeld ?r5
    case y5 => (intro W9 hW9; (try dsimp only at hW9); go_simp <;> (with_reducible rfl))
    simp only [Act.put, List.getElem_toArray, List.getElem_cons_succ, List.getElem_cons_zero, List.setIfInBounds_toArray, List.set_cons_zero, List.set_cons_succ]
    refine wpAnyH_take (i := 6) (v := ?v6) rfl (by kernel_rfl) (by kernel_rfl) (by kernel_rfl) (fun _ _ _ h => h) (Or.inl ⟨by rfl, ?y6⟩) hHeld ?r6
    case y6 => (intro W9 hW9; (try dsimp only at hW9); go_simp <;> (with_reducible rfl))
    simp only [Act.put, List.getElem_toArray, List.getElem_cons_succ, List.getElem_cons_zero, List.setIfInBounds_toArray, List.set_cons_zero, List.set_cons_succ]
    refine wpAnyH_take (i := 7) (v := ?v7) rfl (by kernel_rfl) (by kernel_rfl) (by kernel_rfl) (fun _ _ _ h => h) (Or.inl ⟨by rfl, ?y7⟩) hHeld ?r7
    case y7 => (intro W9 hW9; (try dsimp only at hW9); go_simp <;> (with_reducible rfl))
    simp only [Act.put, List.getElem_toArray, List.getElem_cons_succ, List.getElem_cons_zero, List.setIfInBounds_toArray, List.set_cons_zero, List.set_cons_succ]
    refine wpAnyH_take (i := 8) (v := ?v8) rfl (by kernel_rfl) (by kernel_rfl) (by kernel_rfl) (fun _ _ _ h => h) (Or.inl ⟨by rfl, ?y8⟩) hHeld ?r8
    case y8 => (intro W9 hW9; (try dsimp only at hW9); go_simp <;> (with_reducible rfl))
    simp only [Act.put, List.getElem_toArray, List.getElem_cons_succ, List.getElem_cons_zero, List.setIfInBounds_toArray, List.set_cons_zero, List.set_cons_succ]
    refine wpAnyH_take (i := 9) (v := ?v9) rfl (by kernel_rfl) (by kernel_rfl) (by kernel_rfl) (fun _ _ _ h => h) (Or.inl ⟨by rfl, ?y9⟩) hHeld ?r9
    case y9 => (intro W9 hW9; (try dsimp only at hW9); go_simp <;> (with_reducible rfl))
    simp only [Act.put, List.getElem_toArray, List.getElem_cons_succ, List.getElem_cons_zero, List.setIfInBounds_toArray, List.set_cons_zero, List.set_cons_succ]
    refine wpAnyH_take (i := 10) (v := ?v10) rfl (by kernel_rfl) (by kernel_rfl) (by kernel_rfl) (fun _ _ _ h => h) (Or.inl ⟨by rfl, ?y10⟩) hHeld ?r10
    case y10 => (intro W9 hW9; (try dsimp only at hW9); go_simp <;> (with_reducible rfl))
    simp only [Act.put, List.getElem_toArray, List.getElem_cons_succ, List.getElem_cons_zero, List.setIfInBounds_toArray, List.set_cons_zero, List.set_cons_succ]
    refine wpAnyH_take (i := 11) (v := ?v11) rfl (by kernel_rfl) (by kernel_rfl) (by kernel_rfl) (fun _ _ _ h => h) (Or.inl ⟨by rfl, ?y11⟩) hHeld ?r11
    case y11 => (intro W9 hW9; (try dsimp only at hW9); go_simp <;> (with_reducible rfl))
    simp only [Act.put, List.getElem_toArray, List.getElem_cons_succ, List.getElem_cons_zero, List.setIfInBounds_toArray, List.set_cons_zero, List.set_cons_succ]
    refine wpAnyH_take (i := 15) (v := ?v15) rfl (by kernel_rfl) (by kernel_rfl) (by kernel_rfl) (fun _ _ _ h => h) (Or.inl ⟨by rfl, ?y15⟩) hHeld ?r15
    case y15 => (intro W9 hW9; (try dsimp only at hW9); go_simp <;> (with_reducible rfl))
    simp only [Act.put, List.getElem_toArray, List.getElem_cons_succ, List.getElem_cons_zero, List.setIfInBounds_toArray, List.set_cons_zero, List.set_cons_succ]
    refine wpAnyH_take (i := 16) (v := ?v16) rfl (by kernel_rfl) (by kernel_rfl) (by kernel_rfl) (fun _ _ _ h => h) (Or.inl ⟨by rfl, ?y16⟩) hHeld ?r16
    case y16 => (intro W9 hW9; (try dsimp only at hW9); go_simp <;> (with_reducible rfl))
    simp only [Act.put, List.getElem_toArray, List.getElem_cons_succ, List.getElem_cons_zero, List.setIfInBounds_toArray, List.set_cons_zero, List.set_cons_succ]
    refine wpAnyH_take (i := 17) (v := ?v17) rfl (by kernel_rfl) (by kernel_rfl) (by kernel_rfl) (fun _ _ _ h => h) (Or.inl ⟨by rfl, ?y17⟩) hHeld ?r17
    case y17 => (intro W9 hW9; (try dsimp only at hW9); go_simp <;> (with_reducible rfl))
    simp only [Act.put, List.getElem_toArray, List.getElem_cons_succ, List.getElem_cons_zero, List.setIfInBounds_toArray, List.set_cons_zero, List.set_cons_succ]
    refine wpAnyH_take (i := 18) (v := ?v18) rfl (by kernel_rfl) (by kernel_rfl) (by kernel_rfl) (fun _ _ _ h => h) (Or.inl ⟨by rfl, ?y18⟩) hHeld ?r18
    case y18 => (intro W9 hW9; (try dsimp only at hW9); go_simp <;> (with_reducible rfl))
    simp only [Act.put, List.getElem_toArray, List.getElem_cons_succ, List.getElem_cons_zero, List.setIfInBounds_toArray, List.set_cons_zero, List.set_cons_succ]
    refine wpAnyH_take (i := 19) (v := ?v19) rfl (by kernel_rfl) (by kernel_rfl) (by kernel_rfl) (fun _ _ _ h => h) (Or.inl ⟨by rfl, ?y19⟩) hHeld ?r19
    case y19 => (intro W9 hW9; (try dsimp only at hW9); go_simp <;> (with_reducible rfl))
    simp only [Act.put, List.getElem_toArray, List.getElem_cons_succ, List.getElem_cons_zero, List.setIfInBounds_toArray, List.set_cons_zero, List.set_cons_succ]
    refine wpAnyH_take (i := 20) (v := ?v20) rfl (by kernel_rfl) (by kernel_rfl) (by kernel_rfl) (fun _ _ _ h => h) (Or.inl ⟨by rfl, ?y20⟩) hHeld ?r20
    case y20 => (intro W9 hW9; (try dsimp only at hW9); go_simp <;> (with_reducible rfl))
    simp only [Act.put, List.getElem_toArray, List.getElem_cons_succ, List.getElem_cons_zero, List.setIfInBounds_toArray, List.set_cons_zero, List.set_cons_succ]
    refine wpAnyH_take (i := 21) (v := ?v21) rfl (by kernel_rfl) (by kernel_rfl) (by kernel_rfl) (fun _ _ _ h => h) (Or.inl ⟨by rfl, ?y21⟩) hHeld ?r21
    case y21 => (intro W9 hW9; (try dsimp only at hW9); go_simp <;> (with_reducible rfl))
    simp only [Act.put, List.getElem_toArray, List.getElem_cons_succ, List.getElem_cons_zero, List.setIfInBounds_toArray, List.set_cons_zero, List.set_cons_succ]
    refine wpAnyH_take (i := 22) (v := ?v22) rfl (by kernel_rfl) (by kernel_rfl) (by kernel_rfl) (fun _ _ _ h => h) (Or.inl ⟨by rfl, ?y22⟩) hHeld ?r22
    case y22 => (intro W9 hW9; (try dsimp only at hW9); go_simp <;> (with_reducible rfl))
    simp only [Act.put, List.getElem_toArray, List.getElem_cons_succ, List.getElem_cons_zero, List.setIfInBounds_toArray, List.set_cons_zero, List.set_cons_succ]
    refine wpAnyH_take (i := 23) (v := ?v23) rfl (by kernel_rfl) (by kernel_rfl) (by kernel_rfl) (fun _ _ _ h => h) (Or.inl ⟨by rfl, ?y23⟩) hHeld ?r23
    case y23 => (intro W9 hW9; (try dsimp only at hW9); go_simp <;> (with_reducible rfl))
    simp only [Act.put, List.getElem_toArray, List.getElem_cons_succ, List.getElem_cons_zero, List.setIfInBounds_toArray, List.set_cons_zero, List.set_cons_succ]
    refine wpAnyH_take (i := 24) (v := ?v24) rfl (by kernel_rfl) (by kernel_rfl) (by kernel_rfl) (fun _ _ _ h => h) (Or.inl ⟨by rfl, ?y24⟩) hHeld ?r24
    case y24 => (intro W9 hW9; (try dsimp only at hW9); go_simp <;> (with_reducible rfl))
    simp only [Act.put, List.getElem_toArray, List.getElem_cons_succ, List.getElem_cons_zero, List.setIfInBounds_toArray, List.set_cons_zero, List.set_cons_succ]
    refine wpAnyH_take (i := 25) (v := ?v25) rfl (by kernel_rfl) (by kernel_rfl) (by kernel_rfl) (fun _ _ _ h => h) (Or.inl ⟨by rfl, ?y25⟩) hHeld ?r25
    case y25 => (intro W9 hW9; (try dsimp only at hW9); go_simp <;> (with_reducible rfl))
    simp only [Act.put, List.getElem_toArray, List.getElem_cons_succ, List.getElem_cons_zero, List.setIfInBounds_toArray, List.set_cons_zero, List.set_cons_succ]
    refine wpAnyH_take (i := 26) (v := ?v26) rfl (by kernel_rfl) (by kernel_rfl) (by kernel_rfl) (fun _ _ _ h => h) (Or.inl ⟨by rfl, ?y26⟩) hHeld ?r26
    case y26 => (intro W9 hW9; (try dsimp only at hW9); go_simp <;> (with_reducible rfl))
    simp only [Act.put, List.getElem_toArray, List.getElem_cons_succ, List.getElem_cons_zero, List.setIfInBounds_toArray, List.set_cons_zero, List.set_cons_succ]
    have hbsW : w.heap.size + 3 < W.heap.size := by omega
    have haW : a.block < W.heap.size := by omega
    have HFI0 := Lib.hid (HFI.out.below (below_drewN _ W 1))
    have HPg0 := Lib.hid ((Pg.refl w2.heap.size (w.heap.size + 3) a.block W).below (below_drewN _ W 1) hbsW haW)
    refine wpAnyH_ready (rs := [12, 27]) (by kernel_rfl) (by simp) ?_
    refine AllReadyH.cons rfl (fun K hK => ?_) (AllReadyH.cons rfl (fun K hK => ?_) AllReadyH.nil)
    · go_simp
      refine hK.out _ _ hHeld (fun hHeldA => ?_)
      clear hK K
      try simp only [Act.put, List.getElem_toArray, List.getElem_cons_succ, List.getElem_cons_zero, List.setIfInBounds_toArray, List.set_cons_zero, List.set_cons_succ]
      refine wpAnyH_ready (rs := [13, 27]) (by kernel_rfl) (by simp) ?_
      refine AllReadyH.cons rfl (fun K hK => ?_) (AllReadyH.cons rfl (fun K hK => ?_) AllReadyH.nil)
      · go_simp
        refine (HR1.out _ hHeldA.2.2.2.2).mono ?_
        rintro e W3 ⟨rfl, hB3⟩
        have hH3 := keep4K hHeldA hB3 (Nat.le_refl _)
        have HFI3 := Lib.hid (HFI0.out.below hB3)
        have HPg3 := Lib.hid (HPg0.out.below hB3 hbsW haW)
        obtain ⟨_, hcF3, hcT3, hfF3, hfT3⟩ := HFI3.out.facts
        clear hB3
        refine hK.out _ _ hH3 (fun hHeld3 => ?_)
        clear hK K hH3
        try simp only [Act.put, List.getElem_toArray, List.getElem_cons_succ, List.getElem_cons_zero, List.setIfInBounds_toArray, List.set_cons_zero, List.set_cons_succ]
        refine wpAnyH_take (i := 14) (v := ?v14_1) rfl (by kernel_rfl) (by kernel_rfl) (by kernel_rfl) (fun _ _ _ h => h) (Or.inl ⟨by rfl, ?y14_1⟩) hHeld3 ?r14_1
        case y14_1 => (intro W9 hW9; (try dsimp only at hW9); go_simp <;> (with_reducible rfl))
        try simp only [Act.put, List.getElem_toArray, List.getElem_cons_succ, List.getElem_cons_zero, List.setIfInBounds_toArray, List.set_cons_zero, List.set_cons_succ]
        refine wpAnyH_ready (rs := [27]) (by kernel_rfl) (by simp) ?_
        refine AllReadyH.cons rfl (fun K hK => ?_) AllReadyH.nil
        go_simp
        refine hK.out _ _ hHeld3 (fun hHeld3' => ?_)
        clear hK K
        try simp only [Act.put, List.getElem_toArray, List.getElem_cons_succ, List.getElem_cons_zero, List.setIfInBounds_toArray, List.set_cons_zero, List.set_cons_succ]
        refine wpAnyH_ready (rs := [28]) (by kernel_rfl) (by simp) ?_
        refine AllReadyH.cons rfl (fun K hK => ?_) AllReadyH.nil
        go_simp
        refine (HR2.out _ hHeld3.2.2.2.2).mono ?_
        rintro e W4 ⟨rfl, hB4⟩
        have hH4 := keep4K hHeld3 hB4 (Nat.le_refl _)
        have HFI4 := Lib.hid (HFI3.out.below hB4)
        have HPg4 := Lib.hid (HPg3.out.below hB4 hbsW haW)
        obtain ⟨_, hcF4, hcT4, hfF4, hfT4⟩ := HFI4.out.facts
        clear hB4
        refine hK.out _ _ hH4 (fun hHeld4 => ?_)
        clear hK K hH4
        try simp only [Act.put, List.getElem_toArray, List.getElem_cons_succ, List.getElem_cons_zero, List.setIfInBounds_toArray, List.set_cons_zero, List.set_cons_succ]
        refine wpAnyH_take (i := 29) (v := ?v29_2) rfl (by kernel_rfl) (by kernel_rfl) (by kernel_rfl) (fun _ _ _ h => h) (Or.inl ⟨by rfl, ?y29_2⟩) hHeld4 ?r29_2
        case y29_2 => (intro W9 hW9; (try dsimp only at hW9); go_simp <;> (with_reducible rfl))
        try simp only [Act.put, List.getElem_toArray, List.getElem_cons_succ, List.getElem_cons_zero, List.setIfInBounds_toArray, List.set_cons_zero, List.set_cons_succ]
        refine wpAnyH_ready (rs := [30]) (by kernel_rfl) (by simp) ?_
        refine AllReadyH.cons rfl (fun K hK => ?_) AllReadyH.nil
        go_simp
        have hH5 := keep4S hHeld4 (w.heap.size + 1) 0 (.int .i64 (f2 : Int)) rfl (by omega) (by show w.heap.size ≠ _; omega) (by show x ≠ _; omega) (by show x ≠ _; omega) (by show g3 ≠ _; omega)
        have HFI5 := Lib.hid (HFI4.out.set1 f2)
        have HPg5 := Lib.hid (HPg4.out.set (w.heap.size + 1) 0 (.int .i64 (f2 : Int)) (by omega) (by omega) (by omega))
        refine hK.out _ _ hH5 (fun hHeld5 => ?_)
        clear hK K hH5
        try simp only [Act.put, List.getElem_toArray, List.getElem_cons_succ, List.getElem_cons_zero, List.setIfInBounds_toArray, List.set_cons_zero, List.set_cons_succ]
        obtain ⟨W5, hW5⟩ : ∃ W5, W4.setCell ⟨w.heap.size + 1, 0, none⟩ (.int .i64 (f2 : Int)) = W5 := ⟨_, rfl⟩
        rw [hW5] at HFI5 HPg5 hHeld5 ⊢
        clear hW5
        obtain ⟨_, hcF5, hcT5, hfF5, hfT5⟩ := HFI5.out.facts
        refine wpAnyH_ready (rs := [31]) (by kernel_rfl) (by simp) ?_
        refine AllReadyH.cons rfl (fun K hK => ?_) AllReadyH.nil
        go_simp
        have hH6 := keep4S hHeld5 (w.heap.size + 1 + 1) 0 (.int .i64 (t2 : Int)) rfl (by omega) (by show w.heap.size ≠ _; omega) (by show x ≠ _; omega) (by show x ≠ _; omega) (by show g3 ≠ _; omega)
        have HFI6 := Lib.hid (HFI5.out.set2 t2)
        have HPg6 := Lib.hid (HPg5.out.set (w.heap.size + 1 + 1) 0 (.int .i64 (t2 : Int)) (by omega) (by omega) (by omega))
        refine hK.out _ _ hH6 (fun hHeld6 => ?_)
        clear hK K hH6
        try simp only [Act.put, List.getElem_toArray, List.getElem_cons_succ, List.getElem_cons_zero, List.setIfInBounds_toArray, List.set_cons_zero, List.set_cons_succ]
        obtain ⟨W6, hW6⟩ : ∃ W6, W5.setCell ⟨w.heap.size + 1 + 1, 0, none⟩ (.int .i64 (t2 : Int)) = W6 := ⟨_, rfl⟩
        rw [hW6] at HFI6 HPg6 hHeld6 ⊢
        clear hW6
        refine wpAnyH_done (by kernel_rfl) (NoOut.normal ?_) _
        obtain ⟨_, hcF6, hcT6, hfF6, hfT6⟩ := HFI6.out.facts
        clear hHeld hHeld5 hHeld6 hcF5 hcT5 hfF5 hfT5
        by_cases hft : f2 < t2
        · gi_wp2_with fail
          refine ⟨HPg6.out.1, HPg6.out.2, ?_, ?_, by have := HPg6.out.1.size; omega⟩
          · rw [Hpb.out, HstF.out, HstT.out, Hf2.out, Ht2.out]; exact HFI6.out
          · rw [Hpb.out, HstF.out, HstT.out, Hf2.out, Ht2.out]; exact .inr hft
        · have hft2 : (t2 : Int) ≤ (f2 : Int) := by omega
          have hcT7 := (HFI6.out.set1 0).facts
          gi_wp2_with fail
          refine ⟨((HPg6.out.set (w.heap.size + 1) 0 (.int .i64 0) (by omega) (by omega) (by omega)).set (w.heap.size + 1 + 1) 0 (.int .i64 0) (by omega) (by omega) (by omega)).1, rfl, (HFI6.out.set1 0).set2 0, ?_⟩
          rw [Hpb.out, HstF.out, HstT.out, Hf2.out, Ht2.out]; omega
      · go_simp
        refine hK.out _ _ hHeldA (fun hHeldB => ?_)
        clear hK K
        try simp only [Act.put, List.getElem_toArray, List.getElem_cons_succ, List.getElem_cons_zero, List.setIfInBounds_toArray, List.set_cons_zero, List.set_cons_succ]
        refine wpAnyH_ready (rs := [13]) (by kernel_rfl) (by simp) ?_
        refine AllReadyH.cons rfl (fun K hK => ?_) AllReadyH.nil
        go_simp
        refine (HR1.out _ hHeldA.2.2.2.2).mono ?_
        rintro e W3 ⟨rfl, hB3⟩
        have hH3 := keep4K hHeldA hB3 (Nat.le_refl _)
        have HFI3 := Lib.hid (HFI0.out.below hB3)
        have HPg3 := Lib.hid (HPg0.out.below hB3 hbsW haW)
        obtain ⟨_, hcF3, hcT3, hfF3, hfT3⟩ := HFI3.out.facts
        clear hB3
        refine hK.out _ _ hH3 (fun hHeld3 => ?_)
        clear hK K hH3
        try simp only [Act.put, List.getElem_toArray, List.getElem_cons_succ, List.getElem_cons_zero, List.setIfInBounds_toArray, List.set_cons_zero, List.set_cons_succ]
        refine wpAnyH_take (i := 14) (v := ?v14_3) rfl (by kernel_rfl) (by kernel_rfl) (by kernel_rfl) (fun _ _ _ h => h) (Or.inl ⟨by rfl, ?y14_3⟩) hHeld3 ?r14_3
        case y14_3 => (intro W9 hW9; (try dsimp only at hW9); go_simp <;> (with_reducible rfl))
        try simp only [Act.put, List.getElem_toArray, List.getElem_cons_succ, List.getElem_cons_zero, List.setIfInBounds_toArray, List.set_cons_zero, List.set_cons_succ]
        refine wpAnyH_ready (rs := [28]) (by kernel_rfl) (by simp) ?_
        refine AllReadyH.cons rfl (fun K hK => ?_) AllReadyH.nil
        go_simp
        refine (HR2.out _ hHeld3.2.2.2.2).mono ?_
        rintro e W4 ⟨rfl, hB4⟩
        have hH4 := keep4K hHeld3 hB4 (Nat.le_refl _)
        have HFI4 := Lib.hid (HFI3.out.below hB4)
        have HPg4 := Lib.hid (HPg3.out.below hB4 hbsW haW)
        obtain ⟨_, hcF4, hcT4, hfF4, hfT4⟩ := HFI4.out.facts
        clear hB4
        refine hK.out _ _ hH4 (fun hHeld4 => ?_)
        clear hK K hH4
        try simp only [Act.put, List.getElem_toArray, List.getElem_cons_succ, List.getElem_cons_zero, List.setIfInBounds_toArray, List.set_cons_zero, List.set_cons_succ]
        refine wpAnyH_take (i := 29) (v := ?v29_4) rfl (by kernel_rfl) (by kernel_rfl) (by kernel_rfl) (fun _ _ _ h => h) (Or.inl ⟨by rfl, ?y29_4⟩) hHeld4 ?r29_4
        case y29_4 => (intro W9 hW9; (try dsimp only at hW9); go_simp <;> (with_reducible rfl))
        try simp only [Act.put, List.getElem_toArray, List.getElem_cons_succ, List.getElem_cons_zero, List.setIfInBounds_toArray, List.set_cons_zero, List.set_cons_succ]
        refine wpAnyH_ready (rs := [30]) (by kernel_rfl) (by simp) ?_
        refine AllReadyH.cons rfl (fun K hK => ?_) AllReadyH.nil
        go_simp
        have hH5 := keep4S hHeld4 (w.heap.size + 1) 0 (.int .i64 (f2 : Int)) rfl (by omega) (by show w.heap.size ≠ _; omega) (by show x ≠ _; omega) (by show x ≠ _; omega) (by show g3 ≠ _; omega)
        have HFI5 := Lib.hid (HFI4.out.set1 f2)
        have HPg5 := Lib.hid (HPg4.out.set (w.heap.size + 1) 0 (.int .i64 (f2 : Int)) (by omega) (by omega) (by omega))
        refine hK.out _ _ hH5 (fun hHeld5 => ?_)
        clear hK K hH5
        try simp only [Act.put, List.getElem_toArray, List.getElem_cons_succ, List.getElem_cons_zero, List.setIfInBounds_toArray, List.set_cons_zero, List.set_cons_succ]
        obtain ⟨W5, hW5⟩ : ∃ W5, W4.setCell ⟨w.heap.size + 1, 0, none⟩ (.int .i64 (f2 : Int)) = W5 := ⟨_, rfl⟩
        rw [hW5] at HFI5 HPg5 hHeld5 ⊢
        clear hW5
        obtain ⟨_, hcF5, hcT5, hfF5, hfT5⟩ := HFI5.out.facts
        refine wpAnyH_ready (rs := [31]) (by kernel_rfl) (by simp) ?_
        refine AllReadyH.cons rfl (fun K hK => ?_) AllReadyH.nil
        go_simp
        have hH6 := keep4S hHeld5 (w.heap.size + 1 + 1) 0 (.int .i64 (t2 : Int)) rfl (by omega) (by show w.heap.size ≠ _; omega) (by show x ≠ _; omega) (by show x ≠ _; omega) (by show g3 ≠ _; omega)
        have HFI6 := Lib.hid (HFI5.out.set2 t2)
        have HPg6 := Lib.hid (HPg5.out.set (w.heap.size + 1 + 1) 0 (.int .i64 (t2 : Int)) (by omega) (by omega) (by omega))
        refine hK.out _ _ hH6 (fun hHeld6 => ?_)
        clear hK K hH6
        try simp only [Act.put, List.getElem_toArray, List.getElem_cons_succ, List.getElem_cons_zero, List.setIfInBounds_toArray, List.set_cons_zero, List.set_cons_succ]
        obtain ⟨W6, hW6⟩ : ∃ W6, W5.setCell ⟨w.heap.size + 1 + 1, 0, none⟩ (.int .i64 (t2 : Int)) = W6 := ⟨_, rfl⟩
        rw [hW6] at HFI6 HPg6 hHeld6 ⊢
        clear hW6
        refine wpAnyH_done (by kernel_rfl) (NoOut.normal ?_) _
        obtain ⟨_, hcF6, hcT6, hfF6, hfT6⟩ := HFI6.out.facts
        clear hHeld hHeld5 hHeld6 hcF5 hcT5 hfF5 hfT5
        by_cases hft : f2 < t2
        · gi_wp2_with fail
          refine ⟨HPg6.out.1, HPg6.out.2, ?_, ?_, by have := HPg6.out.1.size; omega⟩
          · rw [Hpb.out, HstF.out, HstT.out, Hf2.out, Ht2.out]; exact HFI6.out
          · rw [Hpb.out, HstF.out, HstT.out, Hf2.out, Ht2.out]; exact .inr hft
        · have hft2 : (t2 : Int) ≤ (f2 : Int) := by omega
          have hcT7 := (HFI6.out.set1 0).facts
          gi_wp2_with fail
          refine ⟨((HPg6.out.set (w.heap.size + 1) 0 (.int .i64 0) (by omega) (by omega) (by omega)).set (w.heap.size + 1 + 1) 0 (.int .i64 0) (by omega) (by omega) (by omega)).1, rfl, (HFI6.out.set1 0).set2 0, ?_⟩
          rw [Hpb.out, HstF.out, HstT.out, Hf2.out, Ht2.out]; omega
    · go_simp
      refine hK.out _ _ hHeld (fun hHeldA => ?_)
      clear hK K
      try simp only [Act.put, List.getElem_toArray, List.getElem_cons_succ, List.getElem_cons_zero, List.setIfInBounds_toArray, List.set_cons_zero, List.set_cons_succ]
      refine wpAnyH_ready (rs := [12]) (by kernel_rfl) (by simp) ?_
      refine AllReadyH.cons rfl (fun K hK => ?_) AllReadyH.nil
      go_simp
      refine hK.out _ _ hHeldA (fun hHeldB => ?_)
      clear hK K
      try simp only [Act.put, List.getElem_toArray, List.getElem_cons_succ, List.getElem_cons_zero, List.setIfInBounds_toArray, List.set_cons_zero, List.set_cons_succ]
      refine wpAnyH_ready (rs := [13]) (by kernel_rfl) (by simp) ?_
      refine AllReadyH.cons rfl (fun K hK => ?_) AllReadyH.nil
      go_simp
      refine (HR1.out _ hHeldB.2.2.2.2).mono ?_
      rintro e W3 ⟨rfl, hB3⟩
      have hH3 := keep4K hHeldB hB3 (Nat.le_refl _)
      have HFI3 := Lib.hid (HFI0.out.below hB3)
      have HPg3 := Lib.hid (HPg0.out.below hB3 hbsW haW)
      obtain ⟨_, hcF3, hcT3, hfF3, hfT3⟩ := HFI3.out.facts
      clear hB3
      refine hK.out _ _ hH3 (fun hHeld3 => ?_)
      clear hK K hH3
      try simp only [Act.put, List.getElem_toArray, List.getElem_cons_succ, List.getElem_cons_zero, List.setIfInBounds_toArray, List.set_cons_zero, List.set_cons_succ]
      refine wpAnyH_take (i := 14) (v := ?v14_5) rfl (by kernel_rfl) (by kernel_rfl) (by kernel_rfl) (fun _ _ _ h => h) (Or.inl ⟨by rfl, ?y14_5⟩) hHeld3 ?r14_5
      case y14_5 => (intro W9 hW9; (try dsimp only at hW9); go_simp <;> (with_reducible rfl))
      try simp only [Act.put, List.getElem_toArray, List.getElem_cons_succ, List.getElem_cons_zero, List.setIfInBounds_toArray, List.set_cons_zero, List.set_cons_succ]
      refine wpAnyH_ready (rs := [28]) (by kernel_rfl) (by simp) ?_
      refine AllReadyH.cons rfl (fun K hK => ?_) AllReadyH.nil
      go_simp
      refine (HR2.out _ hHeld3.2.2.2.2).mono ?_
      rintro e W4 ⟨rfl, hB4⟩
      have hH4 := keep4K hHeld3 hB4 (Nat.le_refl _)
      have HFI4 := Lib.hid (HFI3.out.below hB4)
      have HPg4 := Lib.hid (HPg3.out.below hB4 hbsW haW)
      obtain ⟨_, hcF4, hcT4, hfF4, hfT4⟩ := HFI4.out.facts
      clear hB4
      refine hK.out _ _ hH4 (fun hHeld4 => ?_)
      clear hK K hH4
      try simp only [Act.put, List.getElem_toArray, List.getElem_cons_succ, List.getElem_cons_zero, List.setIfInBounds_toArray, List.set_cons_zero, List.set_cons_succ]
      refine wpAnyH_take (i := 29) (v := ?v29_6) rfl (by kernel_rfl) (by kernel_rfl) (by kernel_rfl) (fun _ _ _ h => h) (Or.inl ⟨by rfl, ?y29_6⟩) hHeld4 ?r29_6
      case y29_6 => (intro W9 hW9; (try dsimp only at hW9); go_simp <;> (with_reducible rfl))
      try simp only [Act.put, List.getElem_toArray, List.getElem_cons_succ, List.getElem_cons_zero, List.setIfInBounds_toArray, List.set_cons_zero, List.set_cons_succ]
      refine wpAnyH_ready (rs := [30]) (by kernel_rfl) (by simp) ?_
      refine AllReadyH.cons rfl (fun K hK => ?_) AllReadyH.nil
      go_simp
      have hH5 := keep4S hHeld4 (w.heap.size + 1) 0 (.int .i64 (f2 : Int)) rfl (by omega) (by show w.heap.size ≠ _; omega) (by show x ≠ _; omega) (by show x ≠ _; omega) (by show g3 ≠ _; omega)
      have HFI5 := Lib.hid (HFI4.out.set1 f2)
      have HPg5 := Lib.hid (HPg4.out.set (w.heap.size + 1) 0 (.int .i64 (f2 : Int)) (by omega) (by omega) (by omega))
      refine hK.out _ _ hH5 (fun hHeld5 => ?_)
      clear hK K hH5
      try simp only [Act.put, List.getElem_toArray, List.getElem_cons_succ, List.getElem_cons_zero, List.setIfInBounds_toArray, List.set_cons_zero, List.set_cons_succ]
      obtain ⟨W5, hW5⟩ : ∃ W5, W4.setCell ⟨w.heap.size + 1, 0, none⟩ (.int .i64 (f2 : Int)) = W5 := ⟨_, rfl⟩
      rw [hW5] at HFI5 HPg5 hHeld5 ⊢
      clear hW5
      obtain ⟨_, hcF5, hcT5, hfF5, hfT5⟩ := HFI5.out.facts
      refine wpAnyH_ready (rs := [31]) (by kernel_rfl) (by simp) ?_
      refine AllReadyH.cons rfl (fun K hK => ?_) AllReadyH.nil
      go_simp
      have hH6 := keep4S hHeld5 (w.heap.size + 1 + 1) 0 (.int .i64 (t2 : Int)) rfl (by omega) (by show w.heap.size ≠ _; omega) (by show x ≠ _; omega) (by show x ≠ _; omega) (by show g3 ≠ _; omega)
      have HFI6 := Lib.hid (HFI5.out.set2 t2)
      have HPg6 := Lib.hid (HPg5.out.set (w.heap.size + 1 + 1) 0 (.int .i64 (t2 : Int)) (by omega) (by omega) (by omega))
      refine hK.out _ _ hH6 (fun hHeld6 => ?_)
      clear hK K hH6
      try simp only [Act.put, List.getElem_toArray, List.getElem_cons_succ, List.getElem_cons_zero, List.setIfInBounds_toArray, List.set_cons_zero, List.set_cons_succ]
      obtain ⟨W6, hW6⟩ : ∃ W6, W5.setCell ⟨w.heap.size + 1 + 1, 0, none⟩ (.int .i64 (t2 : Int)) = W6 := ⟨_, rfl⟩
      rw [hW6] at HFI6 HPg6 hHeld6 ⊢
      clear hW6
      refine wpAnyH_done (by kernel_rfl) (NoOut.normal ?_) _
      obtain ⟨_, hcF6, hcT6, hfF6, hfT6⟩ := HFI6.out.facts
      clear hHeld hHeld5 hHeld6 hcF5 hcT5 hfF5 hfT5
      by_cases hft : f2 < t2
      · gi_wp2_with fail
        refine ⟨HPg6.out.1, HPg6.out.2, ?_, ?_, by have := HPg6.out.1.size; omega⟩
        · rw [Hpb.out, HstF.out, HstT.out, Hf2.out, Ht2.out]; exact HFI6.out
        · rw [Hpb.out, HstF.out, HstT.out, Hf2.out, Ht2.out]; exact .inr hft
      · have hft2 : (t2 : Int) ≤ (f2 : Int) := by omega
        have hcT7 := (HFI6.out.set1 0).facts
        gi_wp2_with fail
        refine ⟨((HPg6.out.set (w.heap.size + 1) 0 (.int .i64 0) (by omega) (by omega) (by omega)).set (w.heap.size + 1 + 1) 0 (.int .i64 0) (by omega) (by omega) (by omega)).1, rfl, (HFI6.out.set1 0).set2 0, ?_⟩
        rw [Hpb.out, HstF.out, HstT.out, Hf2.out, Ht2.out]; omega
  case done =>
    rintro D ys W hD rfl ⟨hI, hor, hWs⟩ hK
    obtain ⟨_, hcF, hcT, hfF, hfT⟩ := hI.facts
    have HK := Lib.hid hK
    have HFI := Lib.hid hI
    have Hor := Lib.hid hor
    clear hI hor hK
    rw [patB_all p Hb.out n (by rw [Hl.out]; exact Nat.le_refl _), Hl.out, Nat.sub_self, List.drop_zero] at HFI Hor hcF hcT
    have hft : cnt s (cut false · (p.map (· + 2))) < cnt s (cut true · (p.map (· + 2))) := by
      rcases Hor.out with h | h
      · exfalso
        have := congrArg List.length h
        rw [bks_length] at this
        simp at this
        omega
      · exact h
    clear Hor
    obtain ⟨f, hf⟩ : ∃ f, cnt s (cut false · (p.map (· + 2))) = f := ⟨_, rfl⟩
    obtain ⟨t, ht⟩ : ∃ t, cnt s (cut true · (p.map (· + 2))) = t := ⟨_, rfl⟩
    rw [hf, ht] at HFI hft
    rw [hf] at hcF
    rw [ht] at hcT
    have Hf := Lib.hid hf
    have Ht := Lib.hid ht
    clear hf ht
    gi_wp2_with fail
    refine wpIn_wide.2 ?_
    go_region
    all_goals gi_wp2_with fail
    all_goals
      have hF8 : FInv w x f t ((W.setCell ⟨w.heap.size + 1, 0, none⟩ (.int .i64 (f : Int))).setCell ⟨w.heap.size + 1 + 1, 0, none⟩ (.int .i64 (t : Int))).drew := ((HFI.out.set1 f).set2 t).below (below_drewN _ _ 1)
      have hK8 : ((W.setCell ⟨w.heap.size + 1, 0, none⟩ (.int .i64 (f : Int))).setCell ⟨w.heap.size + 1 + 1, 0, none⟩ (.int .i64 (t : Int))).drew.heap[D]? = some (.deferred (some [])) := by
        show ((W.setCell ⟨w.heap.size + 1, 0, none⟩ (.int .i64 (f : Int))).setCell ⟨w.heap.size + 1 + 1, 0, none⟩ (.int .i64 (t : Int))).heap[D]? = _
        rw [Below.heap_setCell _ _ _ D (by show D ≠ w.heap.size + 1 + 1; omega), Below.heap_setCell _ _ _ D (by show D ≠ w.heap.size + 1; omega)]
        exact HK.out
      refine ⟨by simp, .inl ⟨_, _, rfl, run_takeDeferred hK8, ?_⟩⟩
      have hF9 := hF8.own (B := w2.heap.size) (by omega) (grownBy_putObj' _ D (.deferred none)) (fun r e => by cases e; exact hD)
      obtain ⟨_, hcF9, hcT9, hfF9, hfT9⟩ := hF9.facts
      refine ⟨.tuple #[.int .i64 (f : Int), .int .i64 (t : Int)], by simp [results, Tryz.results56, go_sem, hcF9, hcT9], f, t, rfl, .inl ⟨hft, Hf.out.symm, Ht.out.symm⟩, hF9.2.2.2⟩
  case stop =>
    rintro D c pre W hD ⟨k, hk, rfl⟩ ⟨rfl, hI, hle⟩ hK
    obtain ⟨_, hcF, hcT, hfF, hfT⟩ := hI.facts
    gi_wp2_with fail
    refine ⟨by simp, .inl ⟨_, _, rfl, run_takeDeferred hK, ?_⟩⟩
    have hF9 : FInv w x 0 0 (W.putObj D (.deferred none)) := hI.own (B := w2.heap.size) (by omega) (grownBy_putObj' W D (.deferred none)) (fun r e => by cases e; exact hD)
    obtain ⟨_, hcF9, hcT9, hfF9, hfT9⟩ := hF9.facts
    refine ⟨.tuple #[.int .i64 0, .int .i64 0], by simp [results, Tryz.results56, go_sem, hcF9, hcT9], 0, 0, rfl, .inr ⟨rfl, rfl, ?_⟩, hF9.2.2.2⟩
    have h0 : occ s (patB (bks p k)) = [] := by
      have h1 := occ_count s (patB (bks p k))
      exact List.eq_nil_of_length_eq_zero (by omega)
    rw [patB_all p Hb.out k (by rw [Hl.out]; exact hk)] at h0
    have h1 := occ_ext ((p.map (· + 2)).take (p.length - k)) h0
    rw [List.take_append_drop] at h1
    exact h1
end Go.Proofs.YtphccomhggnccaaGreat
