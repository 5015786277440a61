/- bits: made. -/
import Derived.Test.YtfgkkffgcgjhfaaBtSel
import Derived.Deep.RegionHeld3
import Derived.Deep.DeepCutAuto
import Derived.Deep.CutBlock
import Derived.Deep.RegionLaw
namespace Go.Proofs.Ytfgkkffgcgjhfaa
set_option linter.unusedVariables false
set_option linter.unusedSimpArgs false
open Go.RowKit PkMath Pop Rank BtMath

/-- a Vector in the making: n in block nb, its pointer in vb, the struct in bs, the words in bw -/
structure Mk (w : World) (nb vb bs bw : Nat) (l : List Bool) : Prop where
  n : w.heap[nb]? = some (.cells #[.int .i64 (l.length : Int)] 3 (0, 0))
  v : w.heap[vb]? = some (.cells #[.pointer (some ⟨bs, 0, none⟩)] 24 (0, 0))
  s : w.heap[bs]? = some (.cells #[.int .i64 (l.length : Int), .slice (some ⟨bw, 0, none⟩) (bwords l).length (bwords l).length, .slice none 0 0] 65 (0, 0))
  ws : w.heap[bw]? = some (.cells (U (bwords l)) 67 (0, 0))
  len : l.length ≤ 1048576
  ne1 : ¬ nb = bw
  ne2 : ¬ vb = bw
  ne3 : ¬ bs = bw
theorem Mk.keep {w w' : World} {nb vb bs bw : Nat} {l : List Bool} (h : Mk w nb vb bs bw l) (h1 : w'.heap[nb]? = w.heap[nb]?) (h2 : w'.heap[vb]? = w.heap[vb]?) (h3 : w'.heap[bs]? = w.heap[bs]?) (h4 : w'.heap[bw]? = w.heap[bw]?) : Mk w' nb vb bs bw l :=
  ⟨h1.trans h.n, h2.trans h.v, h3.trans h.s, h4.trans h.ws, h.len, h.ne1, h.ne2, h.ne3⟩
theorem Mk.drewN {w : World} {nb vb bs bw : Nat} {l : List Bool} (h : Mk w nb vb bs bw l) (n : Nat) : Mk (w.drewN n) nb vb bs bw l := h.keep rfl rfl rfl rfl

def Laid (w : World) (nb vb bs bw : Nat) (l : List Bool) (e : Ending) (w' : World) : Prop :=
  e = .returned (.tuple #[]) ∧ Mk w' nb vb bs bw l ∧ w.grownBy w' (some bw)
/-- the bits when one is set, or none -/
def laid (l : List Bool) (i : Int) : List Bool := if 0 ≤ i ∧ i < (l.length : Int) then l.set i.toNat true else l
theorem laid_length (l : List Bool) (i : Int) : (laid l i).length = l.length := by unfold laid; split <;> simp

theorem or_bit (x t : Nat) (hx : x < 2 ^ 64) (ht : t < 64) : bits BinOp.or IntKind.u64 (x : Int) (IntKind.u64.wrap ((2 : Int) ^ t)) = ((x ||| 2 ^ t : Nat) : Int) := by
  have h1 : 2 ^ t < 2 ^ 64 := Nat.pow_lt_pow_right (by decide) ht
  have e : ((2 : Int) ^ t) = ((2 ^ t : Nat) : Int) := by rw [Int.natCast_pow]; rfl
  rw [e, wrap_nat (by omega), u64_or_nat _ _ hx (by omega)]

set_option maxHeartbeats 1000000 in
/-- the function that sets a bit -/
theorem set_bit {w : World} {nb vb bs bw : Nat} {l : List Bool} (h : Mk w nb vb bs bw l) (i : Int) :
    Calls Try.prog 53 #[.int .i64 i, .pointer (some ⟨nb, 0, none⟩), .pointer (some ⟨vb, 0, none⟩)] w (Laid w nb vb bs bw (laid l i)) := by
  have hn : w.cell? ⟨nb, 0, none⟩ = some (.int .i64 (l.length : Int)) := (cell_blk h.n 0).trans rfl
  have hlen := h.len
  by_cases hneg : i < 0
  · have hl : laid l i = l := by unfold laid; rw [if_neg (by omega)]
    rw [hl]
    clear hl
    go_enter Try.func53, Try.ntmps53
    go_wp2_with fail
    go_end0
    exact ⟨rfl, h, grown_refl _ _⟩
  obtain ⟨j, rfl⟩ : ∃ j : Nat, i = (j : Int) := ⟨i.toNat, by omega⟩
  by_cases hout : l.length ≤ j
  · have hl : laid l (j : Int) = l := by unfold laid; rw [if_neg (by omega)]
    rw [hl]
    clear hl
    go_enter Try.func53, Try.ntmps53
    go_wp2_with fail
    go_end0
    exact ⟨rfl, h, grown_refl _ _⟩
  · have hl : laid l (j : Int) = l.set j true := by unfold laid; rw [if_pos (by omega), Int.toNat_natCast]
    rw [hl]
    have hv : w.cell? ⟨vb, 0, none⟩ = some (.pointer (some ⟨bs, 0, none⟩)) := (cell_blk h.v 0).trans rfl
    have hs : w.cell? ⟨bs, 1, none⟩ = some (.slice (some ⟨bw, 0, none⟩) (bwords l).length (bwords l).length) := (cell_blk h.s 1).trans rfl
    have hWl := bwords_length l
    have hjW : j / 64 < (bwords l).length := by omega
    have hcw : w.cell? ⟨bw, j / 64, none⟩ = some (.int .u64 (((bwords l).getD (j / 64) 0 : Nat) : Int)) := by rw [cell_blk h.ws, U_get _ _ hjW]
    have hfr : w.frozen? ⟨bw, j / 64, none⟩ = false := frozen_blk h.ws _
    have Hx := Lib.hid (getD_lt (bwords_ok l) (j / 64))
    have Hset := Lib.hid (bwords_set l j (by omega))
    have HwsEq : Hid ((bwords (l.set j true)).length = (bwords l).length) := by rw [bwords_length, bwords_length, List.length_set]; rfl
    generalize (bwords l).getD (j / 64) 0 = x at *
    generalize hW : (bwords l).length = W at *
    generalize hn' : l.length = n at *
    have Hn := Lib.hid hn'
    have HW := Lib.hid hW
    have e1 : ((j : Int) / 64).toNat = j / 64 := by omega
    have e2 : ((j : Int) % 64).toNat = j % 64 := by omega
    have e3 : (0 : Int) ≤ (j : Int) / 64 := by omega
    have e4 : (j : Int) / 64 < (W : Int) := by omega
    have e5 : ¬ ((j : Int) % 64 < 0) := by omega
    have e6 : min (j % 64) 64 = j % 64 := by omega
    have f1 : ((j : Int)).tdiv 64 = (j : Int) / 64 := Int.tdiv_eq_ediv_of_nonneg (by omega)
    have f2 : ((j : Int)).tmod 64 = (j : Int) % 64 := Int.tmod_eq_emod_of_nonneg (by omega)
    have f3 : IntKind.i64.wrap ((j : Int) / 64) = (j : Int) / 64 := IntWalk.i64_in _ (by omega)
    have f4 : IntKind.u64.wrap ((2 : Int) ^ (j % 64)) = (2 : Int) ^ (j % 64) := by
      have h1 : 2 ^ (j % 64) < 2 ^ 64 := Nat.pow_lt_pow_right (by decide) (by omega)
      have e : ((2 : Int) ^ (j % 64)) = ((2 ^ (j % 64) : Nat) : Int) := by rw [Int.natCast_pow]; rfl
      rw [e]; exact wrap_nat (by omega)
    clear hl hWl hn' hW
    go_enter Try.func53, Try.ntmps53
    go_wp2_with fail
    refine wp_region_still_tail 12 (by kernel_rfl) (by kernel_rfl) ?_
    simp only [List.take_succ_cons, List.take_zero, List.drop_succ_cons, List.drop_zero]
    change wpStill _ _ w.drew (fun a' => wpList _ _ _ _ a' w.drew) _ _
    repeat still_step
    refine wpStill_nil ?_
    go_wp2_with fail
    go_end0
    have hob := or_bit x (j % 64) Hx.out (by omega)
    rw [f4] at hob
    rw [hob]
    have hset := Hset.out
    refine ⟨rfl, ⟨?_, ?_, ?_, ?_, by rw [List.length_set, Hn.out]; exact hlen, h.ne1, h.ne2, h.ne3⟩, grown_trans (grown_drew w _) (grown_set _ _ _ _)⟩
    · rw [List.length_set]; exact blk_other h.n h.ne1 _ _
    · exact blk_other h.v h.ne2 _ _
    · rw [List.length_set, HwsEq.out, ← HW.out]; exact blk_other h.s h.ne3 _ _
    · have := blk_set (w := w.drew) h.ws (j / 64) (.int .u64 ((x ||| 2 ^ (j % 64) : Nat) : Int))
      rw [U_set, ← hset] at this
      exact this

end Go.Proofs.Ytfgkkffgcgjhfaa
