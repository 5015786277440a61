/- bits: made, whole. -/
import Derived.Test.YtfgkkffgcgjhfaaBtMade
namespace Go.Proofs.Ytfgkkffgcgjhfaa
set_option linter.unusedVariables false
set_option linter.unusedSimpArgs false
open Go.RowKit PkMath Pop Rank BtMath

def MadeVec (w : World) (l : List Bool) (e : Ending) (w' : World) : Prop :=
  ∃ b, e = .returned (.pointer (some ⟨b, 0, none⟩)) ∧ BVec w' w.heap.size b l ∧ Below w.heap.size w w'

theorem at4 (w : World) (o1 o2 o3 o4 : Obj) : (((((w.alloc o1).alloc o2).alloc o3).alloc o4).heap[w.heap.size]? = some o1 ∧ ((((w.alloc o1).alloc o2).alloc o3).alloc o4).heap[w.heap.size + 1]? = some o2 ∧
    ((((w.alloc o1).alloc o2).alloc o3).alloc o4).heap[w.heap.size + 1 + 1]? = some o3 ∧ ((((w.alloc o1).alloc o2).alloc o3).alloc o4).heap[w.heap.size + 1 + 1 + 1]? = some o4) ∧ Below w.heap.size w ((((w.alloc o1).alloc o2).alloc o3).alloc o4) := by
  refine ⟨⟨blk_alloc (new1 w o1 o2 o3) o4, blk_alloc (new2 w o1 o2 o3) o4, blk_alloc (new3 w o1 o2 o3) o4, ?_⟩, (below3 w o1 o2 o3 0).alloc (by simp [World.drewN]; omega) o4⟩
  have := heap_alloc_new (((w.alloc o1).alloc o2).alloc o3) o4
  simpa using this
theorem own_ne {w : World} {base : Nat} {e : TypeId} {v : Value} {n : Nat} {xs : List Value} (h : w.ownsRow base e 1 v n xs) {b : Nat} {cs : Array Value} {t : TypeId} {fr : Nat × Nat} (hb : w.heap[b]? = some (.cells cs t fr)) (ht : t ≠ e) : some b ≠ v.ownBlock := by
  intro he
  rcases h.2 with ⟨rfl, _⟩ | ⟨g, cap, cur, rfl, _, hg, _⟩
  · cases he
  · injection he with he
    subst he
    rw [hb] at hg
    injection hg with hg
    injection hg with _ h2 _
    exact ht h2
/-- a Vector of which the counts ahead of the first j words are laid -/
def Ah (w : World) (base vb bs bw : Nat) (l : List Bool) (j : Nat) : Prop :=
  w.heap[vb]? = some (.cells #[.pointer (some ⟨bs, 0, none⟩)] 24 (0, 0)) ∧
  (∃ va, w.heap[bs]? = some (.cells #[.int .i64 (l.length : Int), .slice (some ⟨bw, 0, none⟩) (bwords l).length (bwords l).length, va] 65 (0, 0)) ∧ w.ownsRow base 3 1 va j (VI (aheads l j))) ∧
  w.heap[bw]? = some (.cells (U (bwords l)) 67 (0, 0))
theorem ah_step {w2 : World} {base vb bs bw : Nat} {L : List Bool} {j : Nat} {va : Value} {A2 : Option Addr} {c2 : Nat}
    (hv2 : w2.heap[vb]? = some (.cells #[.pointer (some ⟨bs, 0, none⟩)] 24 (0, 0)))
    (hs2 : w2.heap[bs]? = some (.cells #[.int .i64 (L.length : Int), .slice (some ⟨bw, 0, none⟩) (bwords L).length (bwords L).length, va] 65 (0, 0)))
    (hw2 : w2.heap[bw]? = some (.cells (U (bwords L)) 67 (0, 0)))
    (hown : w2.ownsRow base 3 1 (.slice A2 (aheads L j ++ [((aheadN L j : Nat) : Int)]).length c2) (aheads L j ++ [((aheadN L j : Nat) : Int)]).length (VI (aheads L j ++ [((aheadN L j : Nat) : Int)])))
    (hvs : ¬ vb = bs) (hbs2 : ¬ bw = bs) :
    Ah (w2.setCell ⟨bs, 2, none⟩ (.slice A2 ((aheads L j).length + 1) c2)) base vb bs bw L (j + 1) := by
  have hne : some bs ≠ (Value.slice A2 (aheads L j ++ [((aheadN L j : Nat) : Int)]).length c2).ownBlock := own_ne hown hs2 (by decide)
  refine ⟨blk_other hv2 hvs _ _, ⟨_, blk_set hs2 2 _, ?_⟩, blk_other hw2 hbs2 _ _⟩
  have hk := World.ownsRow.kept hown (grown_set w2 bs 2 (.slice A2 ((aheads L j).length + 1) c2)) (.inr (fun e => hne e.symm))
  rw [← aheads_succ] at hk
  simp only [aheads_length] at hk ⊢
  exact hk
theorem below_cell {w w2 : World} {B bs : Nat} (h : Below B w w2) (hb : B ≤ bs) (j : Nat) (v : Value) (hB : w.heap.size = B) : Below B w (w2.setCell ⟨bs, j, none⟩ v) :=
  h.grown (grown_set w2 bs j v) (by have := h.size; omega) (fun q hq => by injection hq with hq; omega)
theorem ah_bvec {w : World} {base vb bs bw : Nat} {L : List Bool} (h : Ah w base vb bs bw L ((bwords L).length + 1)) (hlen : L.length ≤ 1048576) (hb : base ≤ bs) (hbw : base ≤ bw) : BVec w base bs L := by
  obtain ⟨hv, ⟨va, hs, hown⟩, hw⟩ := h
  rcases hown.2 with ⟨_, h0⟩ | ⟨g, cap, cur, rfl, hg, hgb, hn, hm, hsz, ht⟩
  · omega
  · exact ⟨hlen, hb, bw, g, cap, cur, hbw, hg, hs, hw, hgb, by rw [Nat.mul_one] at ht; exact ht⟩
/-- what the statement leaves, in whatever order the two blocks were laid -/
def MkPost (w : World) (n : Nat) (s5 : Value) (wx : World) : Prop :=
  ∃ vb bs bw : Nat, s5 = .pointer (some ⟨vb, 0, none⟩) ∧ w.heap.size < vb ∧ w.heap.size < bs ∧ w.heap.size < bw ∧ Mk wx w.heap.size vb bs bw (List.replicate n false) ∧ Below w.heap.size w wx
set_option maxRecDepth 100000 in
set_option maxHeartbeats 2000000 in
theorem made_any (w : World) (n0 : Int) (n : Nat) (g cb : Nat) (hent : ∀ (args : Array Value) (wx : World), (callFunc g args).run Try.prog wx = .ok (.enter g args) wx) (L : List Bool) (hLn : L.length = n) (hn : n < 1048576) (hn0 : (n0 < 0 ∧ n = 0) ∨ n0 = (n : Int))
    (hlay : ∀ (W : World) (nb vb bs bw : Nat), w.heap.size ≤ nb → w.heap.size ≤ vb → w.heap.size ≤ bs → w.heap.size ≤ bw → Mk W nb vb bs bw (List.replicate n false) → Below w.heap.size w W →
      Calls Try.prog g #[.func (.func 53) #[] #[.pointer (some ⟨nb, 0, none⟩), .pointer (some ⟨vb, 0, none⟩)], .pointer (some ⟨cb, 0, none⟩)] W (Laid W nb vb bs bw L)) :
    Calls Try.prog 40 #[.int .i64 n0, .func (.func g) #[] #[.pointer (some ⟨cb, 0, none⟩)]] w (MadeVec w L) := by
  have HL := Lib.hid hlay
  have HLn := Lib.hid hLn
  obtain ⟨M, hM⟩ : ∃ M, (n + 63) / 64 = M := ⟨_, rfl⟩
  have hMb : M ≤ 16384 := by omega
  have hdiv : ((n : Int) + 64 - 1) / 64 = (M : Int) := by omega
  have hdiv2 : ((n : Int) + 63) / 64 = (M : Int) := by omega
  have hmk := make_u64 M (by omega)
  have HM := Lib.hid hM
  clear hlay hLn hM
  have hN : Hid ((List.replicate n false).length = n) := List.length_replicate
  have hW0 : Hid (bwords (List.replicate n false) = List.replicate M 0) := by
    have := bwords_none n
    rw [HM.out] at this
    exact this
  go_enter Try.func40, Try.ntmps40
  go_upto_region 1 with fail
  go_cut [2] (fun s2 wx => s2 = .pointer (some ⟨w.heap.size, 0, none⟩) ∧ wx = w.alloc (.cells #[.int .i64 (n : Int)] 3))
  case first =>
    rcases hn0 with ⟨h1, rfl⟩ | rfl
    · go_wp2_with fail
      go_meet
      case rel => exact ⟨rfl, rfl⟩
    · by_cases hz : n = 0
      · subst hz
        go_wp2_with fail
        go_meet
        case rel => exact ⟨rfl, rfl⟩
      · have hz2 : 0 < n := by omega
        clear hz
        go_wp2_with fail
        go_meet
        case rel => exact ⟨rfl, rfl⟩
  case rest =>
    clear hn0
    obtain ⟨rfl, rfl⟩ := hcut
    go_upto_region 2 with fail
    go_cut [5] (fun s5 wx => MkPost w n s5 wx)
    case first =>
      go_region
      all_goals
        go_wp2_with fail
        go_meet
      case rel =>
        obtain ⟨⟨a1, a2, a3, a4⟩, hB⟩ := at4 w (.cells #[.int .i64 (n : Int)] 3) (.cells (U (List.replicate M 0)) 67) (.cells #[.int .i64 (n : Int), .slice (some ⟨w.heap.size + 1, 0, none⟩) M M, .slice none 0 0] 65) (.cells #[.pointer (some ⟨w.heap.size + 1 + 1, 0, none⟩)] 24)
        refine ⟨_, w.heap.size + 1 + 1, w.heap.size + 1, rfl, by omega, by omega, by omega, ⟨by rw [hN.out]; exact a1, a4, by rw [hN.out, hW0.out, List.length_replicate]; exact a3, by rw [hW0.out]; exact a2, by rw [hN.out]; omega, by omega, by omega, by omega⟩, hB.drew⟩
      case rel =>
        obtain ⟨⟨a1, a2, a3, a4⟩, hB⟩ := at4 w (.cells #[.int .i64 (n : Int)] 3) (.cells (U (List.replicate M 0)) 67) (.cells #[.pointer (some ⟨w.heap.size + 1 + 1 + 1, 0, none⟩)] 24) (.cells #[.int .i64 (n : Int), .slice (some ⟨w.heap.size + 1, 0, none⟩) M M, .slice none 0 0] 65)
        refine ⟨_, w.heap.size + 1 + 1 + 1, w.heap.size + 1, rfl, by omega, by omega, by omega, ⟨by rw [hN.out]; exact a1, a3, by rw [hN.out, hW0.out, List.length_replicate]; exact a4, by rw [hW0.out]; exact a2, by rw [hN.out]; omega, by omega, by omega, by omega⟩, hB.drew⟩
      case rel =>
        obtain ⟨⟨a1, a2, a3, a4⟩, hB⟩ := at4 w (.cells #[.int .i64 (n : Int)] 3) (.cells #[.pointer (some ⟨w.heap.size + 1 + 1 + 1, 0, none⟩)] 24) (.cells (U (List.replicate M 0)) 67) (.cells #[.int .i64 (n : Int), .slice (some ⟨w.heap.size + 1 + 1, 0, none⟩) M M, .slice none 0 0] 65)
        refine ⟨_, w.heap.size + 1 + 1 + 1, w.heap.size + 1 + 1, rfl, by omega, by omega, by omega, ⟨by rw [hN.out]; exact a1, a2, by rw [hN.out, hW0.out, List.length_replicate]; exact a4, by rw [hW0.out]; exact a3, by rw [hN.out]; omega, by omega, by omega, by omega⟩, hB.drew⟩
    case rest =>
      obtain ⟨vb, bs, bw, rfl, hvb, hbs, hbw, hMk, hB⟩ := hcut
      go_upto_region 3 with fail
      go_wp2_with fail
      refine (HL.out _ w.heap.size vb bs bw (Nat.le_refl _) (by omega) (by omega) (by omega) hMk hB).mono ?_
      rintro e w1 ⟨rfl, hMk1, hg1⟩
      have hAh : Ah w1 w.heap.size vb bs bw L 0 := ⟨hMk1.v, ⟨_, (by
        have := hMk1.s
        exact this), by have : aheads L 0 = [] := by simp [aheads]
                        rw [this]; exact World.ownsRow_nil _ _ _ _⟩, hMk1.ws⟩
      have hB1 : Below w.heap.size w w1 := hB.grown hg1 hB.size (fun q hq => by injection hq with hq; omega)
      have hWL := bwords_length L
      rw [HLn.out, HM.out] at hWL
      have HWL := Lib.hid hWL
      clear hMk hB hMk1 hg1 hWL hmk hN hW0
      obtain ⟨hv, ⟨va, hs, hown⟩, hw⟩ := hAh
      have hcv : w1.cell? ⟨vb, 0, none⟩ = some (.pointer (some ⟨bs, 0, none⟩)) := (cell_blk hv 0).trans rfl
      have hcs : w1.cell? ⟨bs, 1, none⟩ = some (.slice (some ⟨bw, 0, none⟩) M M) := by rw [cell_blk hs, ← HWL.out]; rfl
      go_wp2_with fail
      go_loopw [6, 28] (fun o i wr => ∃ j : Nat, j ≤ M ∧ i = .int .i64 (j : Int) ∧ o = .int .i64 ((aheadN L j : Nat) : Int) ∧ Ah wr w.heap.size vb bs bw L j ∧ Below w.heap.size w wr) (fun _ i _ => M - (intOf i).toNat)
      case atStart => exact ⟨0, Nat.zero_le _, rfl, by rw [aheadN_zero]; rfl, ⟨hv, ⟨va, hs, hown⟩, hw⟩, hB1⟩
      case round =>
        clear hv hs hown hw hcv hcs hB1
        obtain ⟨j, hj, rfl, rfl, ⟨hv, ⟨va, hs, hown⟩, hw⟩, hB⟩ := hrel
        by_cases hlt : j < M
        · have hcw : wr.cell? ⟨bw, j, none⟩ = some (.int .u64 (((bwords L).getD j 0 : Nat) : Int)) := by rw [cell_blk hw, U_get _ _ (by rw [HWL.out]; exact hlt)]
          have hcv : wr.cell? ⟨vb, 0, none⟩ = some (.pointer (some ⟨bs, 0, none⟩)) := (cell_blk hv 0).trans rfl
          have hca : wr.cell? ⟨bs, 2, none⟩ = some va := (cell_blk hs 2).trans rfl
          have hnew : (wr.drew.alloc (.cells #[.int .i64 ((aheadN L j : Nat) : Int)] 3)).heap[wr.heap.size]? = some (.cells (VI [((aheadN L j : Nat) : Int)]).toArray 3 (0, 0)) := heap_alloc_new wr.drew _
          have hdr : (wr.drew.alloc (.cells #[.int .i64 ((aheadN L j : Nat) : Int)] 3)).ownsRow w.heap.size 3 1 va (aheads L j).length (VI (aheads L j)) := by
            rw [aheads_length]; exact (World.ownsRow.alloc (World.ownsRow.drew hown) _)
          have hv0 : (wr.drew.alloc (.cells #[.int .i64 ((aheadN L j : Nat) : Int)] 3)).heap[vb]? = _ := blk_alloc (w := wr.drew) hv _
          have hs0 : (wr.drew.alloc (.cells #[.int .i64 ((aheadN L j : Nat) : Int)] 3)).heap[bs]? = _ := blk_alloc (w := wr.drew) hs _
          have hw0 : (wr.drew.alloc (.cells #[.int .i64 ((aheadN L j : Nat) : Int)] 3)).heap[bw]? = _ := blk_alloc (w := wr.drew) hw _
          have hcv0 : (wr.drew.alloc (.cells #[.int .i64 ((aheadN L j : Nat) : Int)] 3)).cell? ⟨vb, 0, none⟩ = some (.pointer (some ⟨bs, 0, none⟩)) := (cell_blk hv0 0).trans rfl
          have hca0 : (wr.drew.alloc (.cells #[.int .i64 ((aheadN L j : Nat) : Int)] 3)).cell? ⟨bs, 2, none⟩ = some va := (cell_blk hs0 2).trans rfl
          have hcv1 : (wr.alloc (.cells #[.int .i64 ((aheadN L j : Nat) : Int)] 3)).cell? ⟨vb, 0, none⟩ = some (.pointer (some ⟨bs, 0, none⟩)) := hcv0
          have hca1 : (wr.alloc (.cells #[.int .i64 ((aheadN L j : Nat) : Int)] 3)).cell? ⟨bs, 2, none⟩ = some va := hca0
          have hwn := World.new_ne wr ⟨vb,0,none⟩ hcv
          have hsn := World.new_ne wr ⟨bs,2,none⟩ hca
          have nv : some vb ≠ va.ownBlock := own_ne hown hv (by decide)
          have ns : some bs ≠ va.ownBlock := own_ne hown hs (by decide)
          have nw : some bw ≠ va.ownBlock := own_ne hown hw (by decide)
          have hvs : ¬ vb = bs := fun e => by rw [e, hs] at hv; simp at hv
          have hbs2 : ¬ bw = bs := fun e => by rw [e, hs] at hw; simp at hw
          have hB0 : Below w.heap.size w (wr.drew.alloc (.cells #[.int .i64 ((aheadN L j : Nat) : Int)] 3)) := hB.drew.alloc hB.size _
          have Hsucc := Lib.hid (aheadN_succ L j (by rw [HLn.out, HM.out]; exact hlt))
          have Hx := Lib.hid (getD_lt (bwords_ok L) j)
          have hpc := pc_le ((bwords L).getD j 0) 64
          have hal : aheadN L j ≤ 64 * j := rk_le L true (64 * j)
          generalize (bwords L).getD j 0 = x at *
          go_upto_region 8 with fail
          go_cut [6] (fun s6 wx => s6 = .int .i64 ((aheadN L j : Nat) : Int) ∧ Ah wx w.heap.size vb bs bw L (j + 1) ∧ Below w.heap.size w wx)
          case first =>
            go_region_law (first | (refine wp_app_int rfl _ _ rfl w.heap.size va (aheads L j) rfl hdr ⟨wr.heap.size, 0, none⟩ 1 1 [((aheadN L j : Nat) : Int)] rfl rfl (sl_blk hnew) (by rw [aheads_length]; omega) (by have := hB.size; simp; omega) ?_; intro v2 w2 hown2 hg2 hnil2; obtain ⟨A2, c2, rfl, hsl2, hl2, hA2⟩ := own_sl hown2; have hv2 := grown_blk hg2 hv0 nv; have hs2 := grown_blk hg2 hs0 ns; have hw2 := grown_blk hg2 hw0 nw; have hB2 := hB0.grown hg2 hB0.size (fun q hq => (World.ownsRow.lt hdr q hq).1); have hcs2 : w2.cell? ⟨bs, 2, none⟩ = some va := (cell_blk hs2 2).trans rfl; have hfr2 : w2.frozen? ⟨bs, 2, none⟩ = false := frozen_blk hs2 2; have hcv2 : w2.cell? ⟨vb, 0, none⟩ = some (.pointer (some ⟨bs, 0, none⟩)) := (cell_blk hv2 0).trans rfl; clear hnil2 hsl2 hl2))
            all_goals go_wp2_with fail
            all_goals go_meet
            all_goals exact ⟨rfl, ah_step hv2 hs2 hw2 hown2 hvs hbs2, below_cell hB2 (by omega) _ _ rfl⟩
          case rest =>
            clear hcv hca hnew hdr hv0 hs0 hw0 hcv0 hca0 hcv1 hca1 hwn hsn nv ns nw hvs hbs2 hB0 hv hs hown hw hcw hB
            obtain ⟨rfl, hAh, hB⟩ := hcut
            go_wp2_with (go_at_call 44; refine (ones_any x _ Hx.out).mono ?_; rintro e w' ⟨rfl, rfl⟩)
            refine ⟨⟨j + 1, by omega, rfl, by rw [Hsucc.out]; rfl, hAh, hB⟩, ?_⟩
            show M - ((j : Int) + 1).toNat < M - ((j : Int)).toNat
            omega
        · obtain rfl : j = M := by omega
          have hcv : wr.cell? ⟨vb, 0, none⟩ = some (.pointer (some ⟨bs, 0, none⟩)) := (cell_blk hv 0).trans rfl
          have hca : wr.cell? ⟨bs, 2, none⟩ = some va := (cell_blk hs 2).trans rfl
          have hnew : (wr.drew.alloc (.cells #[.int .i64 ((aheadN L j : Nat) : Int)] 3)).heap[wr.heap.size]? = some (.cells (VI [((aheadN L j : Nat) : Int)]).toArray 3 (0, 0)) := heap_alloc_new wr.drew _
          have hdr : (wr.drew.alloc (.cells #[.int .i64 ((aheadN L j : Nat) : Int)] 3)).ownsRow w.heap.size 3 1 va (aheads L j).length (VI (aheads L j)) := by
            rw [aheads_length]; exact (World.ownsRow.alloc (World.ownsRow.drew hown) _)
          have hv0 : (wr.drew.alloc (.cells #[.int .i64 ((aheadN L j : Nat) : Int)] 3)).heap[vb]? = _ := blk_alloc (w := wr.drew) hv _
          have hs0 : (wr.drew.alloc (.cells #[.int .i64 ((aheadN L j : Nat) : Int)] 3)).heap[bs]? = _ := blk_alloc (w := wr.drew) hs _
          have hw0 : (wr.drew.alloc (.cells #[.int .i64 ((aheadN L j : Nat) : Int)] 3)).heap[bw]? = _ := blk_alloc (w := wr.drew) hw _
          have hcv0 : (wr.drew.alloc (.cells #[.int .i64 ((aheadN L j : Nat) : Int)] 3)).cell? ⟨vb, 0, none⟩ = some (.pointer (some ⟨bs, 0, none⟩)) := (cell_blk hv0 0).trans rfl
          have hca0 : (wr.drew.alloc (.cells #[.int .i64 ((aheadN L j : Nat) : Int)] 3)).cell? ⟨bs, 2, none⟩ = some va := (cell_blk hs0 2).trans rfl
          have hcv1 : (wr.alloc (.cells #[.int .i64 ((aheadN L j : Nat) : Int)] 3)).cell? ⟨vb, 0, none⟩ = some (.pointer (some ⟨bs, 0, none⟩)) := hcv0
          have hca1 : (wr.alloc (.cells #[.int .i64 ((aheadN L j : Nat) : Int)] 3)).cell? ⟨bs, 2, none⟩ = some va := hca0
          have hwn := World.new_ne wr ⟨vb,0,none⟩ hcv
          have hsn := World.new_ne wr ⟨bs,2,none⟩ hca
          have nv : some vb ≠ va.ownBlock := own_ne hown hv (by decide)
          have ns : some bs ≠ va.ownBlock := own_ne hown hs (by decide)
          have nw : some bw ≠ va.ownBlock := own_ne hown hw (by decide)
          have hvs : ¬ vb = bs := fun e => by rw [e, hs] at hv; simp at hv
          have hbs2 : ¬ bw = bs := fun e => by rw [e, hs] at hw; simp at hw
          have hB0 : Below w.heap.size w (wr.drew.alloc (.cells #[.int .i64 ((aheadN L j : Nat) : Int)] 3)) := hB.drew.alloc hB.size _
          have hal : aheadN L j ≤ 64 * j := rk_le L true (64 * j)
          go_upto_region 11 with fail
          go_cut [6] (fun s6 wx => s6 = .int .i64 ((aheadN L j : Nat) : Int) ∧ Ah wx w.heap.size vb bs bw L (j + 1) ∧ Below w.heap.size w wx)
          case first =>
            go_region_law (first | (refine wp_app_int rfl _ _ rfl w.heap.size va (aheads L j) rfl hdr ⟨wr.heap.size, 0, none⟩ 1 1 [((aheadN L j : Nat) : Int)] rfl rfl (sl_blk hnew) (by rw [aheads_length]; omega) (by have := hB.size; simp; omega) ?_; intro v2 w2 hown2 hg2 hnil2; obtain ⟨A2, c2, rfl, hsl2, hl2, hA2⟩ := own_sl hown2; have hv2 := grown_blk hg2 hv0 nv; have hs2 := grown_blk hg2 hs0 ns; have hw2 := grown_blk hg2 hw0 nw; have hB2 := hB0.grown hg2 hB0.size (fun q hq => (World.ownsRow.lt hdr q hq).1); have hcs2 : w2.cell? ⟨bs, 2, none⟩ = some va := (cell_blk hs2 2).trans rfl; have hfr2 : w2.frozen? ⟨bs, 2, none⟩ = false := frozen_blk hs2 2; have hcv2 : w2.cell? ⟨vb, 0, none⟩ = some (.pointer (some ⟨bs, 0, none⟩)) := (cell_blk hv2 0).trans rfl; clear hnil2 hsl2 hl2))
            all_goals go_wp2_with fail
            all_goals go_meet
            all_goals exact ⟨rfl, ah_step hv2 hs2 hw2 hown2 hvs hbs2, below_cell hB2 (by omega) _ _ rfl⟩
          case rest =>
            clear hcv hca hnew hdr hv0 hs0 hw0 hcv0 hca0 hcv1 hca1 hwn hsn nv ns nw hvs hbs2 hB0 hv hs hown hw hB
            obtain ⟨rfl, hAh, hB⟩ := hcut
            have hcv : wc.cell? ⟨vb, 0, none⟩ = some (.pointer (some ⟨bs, 0, none⟩)) := (cell_blk hAh.1 0).trans rfl
            go_wp2_with fail
            go_ret
            exact ⟨bs, rfl, ah_bvec (by rw [HWL.out]; exact hAh) (by rw [HLn.out]; omega) (by omega) (by omega), hB⟩

end Go.Proofs.Ytfgkkffgcgjhfaa
