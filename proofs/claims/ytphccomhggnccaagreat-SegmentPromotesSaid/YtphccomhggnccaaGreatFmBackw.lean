/- slices.Backward at bytes (after the kit's worked texts on slices.All). -/
import Derived.Test.YtphccomhggnccaaGreatFmSorted
import Derived.Test.YtphccomhggnccaaGreatFmVY
namespace Go.Proofs.YtphccomhggnccaaGreat
set_option linter.unusedVariables false
set_option linter.unusedSimpArgs false
set_option maxRecDepth 100000
open Go.RowKit Go.Shelf Fm

attribute [local go_sem] Oper.semAt_some

/-- the k-th that comes: the place, and the byte -/
def bkf (zs : List Nat) (k : Nat) : Nat × Fin 256 := (zs.length - 1 - k, ⟨zs.getD (zs.length - 1 - k) 0 % 256, Nat.mod_lt _ (by decide)⟩)
def bks (zs : List Nat) (k : Nat) : List (Nat × Fin 256) := (List.range k).map (bkf zs)
theorem bks_succ (zs : List Nat) (k : Nat) : bks zs (k + 1) = bks zs k ++ [bkf zs k] := by simp [bks, List.range_succ]
theorem bks_length (zs : List Nat) (k : Nat) : (bks zs k).length = k := by simp [bks]
/-- what a round keeps: two blocks -/
def Kp2 (p q : Nat) (A B : World) : Prop := B.heap[p]? = A.heap[p]? ∧ B.heap[q]? = A.heap[q]?
theorem Kp2.t {p q : Nat} {A B C : World} (h : Kp2 p q A B) (k : Kp2 p q B C) : Kp2 p q A C := ⟨k.1.trans h.1, k.2.trans h.2⟩
theorem Kp2.b {p q : Nat} {w : World} (hp : p < w.heap.size) (hq : q < w.heap.size) (W : World) (l : Nat) (o o' : Obj) (hl : w.heap.size ≤ l) (h : W.heap[l]? = some o) (_ : o.isCells = false) (_ : o.isWalk = false) : Kp2 p q W (W.putObj l o') := by
  have := (belowK_b (w := w) (Nat.le_refl _) W l o o' hl h ‹_› ‹_›).block
  exact ⟨this p hp, this q hq⟩

set_option maxHeartbeats 2000000 in
theorem backw1_in (F : Fence) (n : Nat) (h7 : F.fn 147) (hro : F.round = none) (hn : 1 ≤ n) (l Bs : Nat) (a : Addr) (len cap : Nat) (zs : List Nat) (hlen : zs.length = len) (hz : ∀ c ∈ zs, c < 256) (hm : len ≤ 1099511627776) (J Jx : List (Nat × Fin 256) → World → Prop)
    (hY : ∀ pre x W, J pre W → pre.length < len → YieldAt F (n - 1) Tryz.prog l #[.int .i64 (x.1 : Int), .int .u8 ((x.2.val : Nat) : Int)] W fun e W' =>
      (e = .returned (.bool true) ∧ J (pre ++ [x]) W' ∧ Kp2 Bs a.block W W') ∨ (e = .returned (.bool false) ∧ Jx (pre ++ [x]) W'))
    (W : World) (hBs : W.cell? ⟨Bs, 0, none⟩ = some (.slice (some a) len cap)) (hS : Sl W (some a) (VY zs)) (h0 : J [] W) :
    CallsIn F n Tryz.prog 147 #[.func (.yield l) #[] #[], .pointer (some ⟨Bs, 0, none⟩)] W fun e W' => (∃ v, e = .returned v) ∧
      ((∃ ys, ys = bks zs len ∧ J ys W') ∨ (∃ pre, (∃ k, k ≤ len ∧ pre = bks zs k) ∧ Jx pre W')) := by
  have Hl := Lib.hid hlen
  have Hz := Lib.hid hz
  have HS := Lib.hid hS
  have HBs := Lib.hid hBs
  clear hlen hz hS
  refine callsIn_of_wp Tryz.func147 rfl h7 ?_ hro
  simp only [Tryz.ntmps147, List.size_toArray, List.length_cons, List.length_nil, Nat.reduceAdd, Nat.reduceSub, Array.replicate_succ, Array.replicate_zero, List.push_toArray, List.append_toArray, List.nil_append, List.cons_append]
  gi_wp2
  gi_loopw [3] (fun i wr => ∃ (m : Nat) (q : Int), m ≤ len ∧ q = (m : Int) - 1 ∧ i = .int .i64 q ∧ J (bks zs (len - m)) wr ∧ Hid (Kp2 Bs a.block W wr))
    (fun i _ => ((intOf i) + 1).toNat)
  case atStart => exact ⟨len, _, Nat.le_refl _, rfl, rfl, by rw [Nat.sub_self]; exact h0, ⟨rfl, rfl⟩⟩
  case round =>
    obtain ⟨m, q, hk, hq, rfl, hJs, Hnx⟩ := hrel
    clear hBs h0
    cases m with
    | zero =>
      have hq1 : q < 0 := by omega
      have HJ := Lib.hid hJs
      clear hJs hq
      gi_wp2
      go_end0
      exact ⟨⟨_, rfl⟩, .inl ⟨_, rfl, HJ.out⟩⟩
    | succ m =>
      obtain rfl : q = (m : Int) := by omega
      clear hq
      have hSr : Sl wr (some a) (VY zs) := HS.out.kept fun a' ha' _ => by cases ha'; exact Hnx.out.2
      have hcx := hSr.cell a rfl m _ (VY_get zs m (by rw [Hl.out]; omega))
      have hcb : wr.cell? ⟨Bs, 0, none⟩ = some (.slice (some a) len cap) := (World.cell?_of_block (a := ⟨Bs, 0, none⟩) Hnx.out.1).trans HBs.out
      have hc256 : zs.getD m 0 < 256 := by
        rw [getD_at (by rw [Hl.out]; omega)]; exact Hz.out _ (List.getElem_mem _)
      have hb : bkf zs (len - (m + 1)) = (m, ⟨zs.getD m 0, hc256⟩) := by
        have e1 : zs.length - 1 - (len - (m + 1)) = m := by rw [Hl.out]; omega
        have e2 : ∀ q (h : q = m), ((q, ⟨zs.getD q 0 % 256, Nat.mod_lt _ (by decide)⟩) : Nat × Fin 256) = (m, ⟨zs.getD m 0, hc256⟩) := by
          rintro q rfl
          simp only [Nat.mod_eq_of_lt hc256]
        exact e2 _ e1
      have Hb := Lib.hid (show bks zs (len - m) = bks zs (len - (m + 1)) ++ [(m, ⟨zs.getD m 0, hc256⟩)] from by
        rw [show len - m = len - (m + 1) + 1 by omega, bks_succ, hb])
      clear hb hSr
      generalize zs.getD m 0 = c at *
      obtain ⟨fn, tmps, assign, body, hy, hR⟩ := hY _ (m, ⟨c, hc256⟩) wr hJs (by rw [bks_length]; omega)
      dsimp only at hy
      have HR := Lib.hid hR
      clear hR hJs hY
      gi_wp2
      refine HR.out.mono ?_
      rintro e W3 (⟨rfl, hJ3, hk3⟩ | ⟨rfl, hJx3⟩)
      · have HJ3 := Lib.hid hJ3
        have Hk3 := Lib.hid hk3
        clear hJ3 hk3
        gi_wp2
        go_roundw
        case rel => exact ⟨m, _, by omega, rfl, rfl, by rw [Hb.out]; exact HJ3.out, Hnx.out.t Hk3.out⟩
        case measure =>
          show ((m : Int) - 1 + 1).toNat < ((m : Int) + 1).toNat
          omega
      · have HJ3 := Lib.hid hJx3
        clear hJx3
        gi_wp2
        refine bodyPost_ret (results_none rfl _ _ _) rfl ?_
        exact ⟨⟨_, rfl⟩, .inr ⟨_, ⟨len - m, by omega, Hb.out.symm⟩, HJ3.out⟩⟩
/-- slices.Backward: the slice value is boxed; the function value captures the box -/
theorem backw_any (a : Option Addr) (len cap : Nat) (w : World) :
    Calls Tryz.prog 109 #[.slice a len cap] w fun e w' => e = .returned (.func (.func 147) #[] #[.pointer (some ⟨w.heap.size, 0, none⟩)]) ∧ w' = w.alloc (.cells #[.slice a len cap] 34) := by
  go_enter Tryz.func109, Tryz.ntmps109
  go_wp2
  go_ret
  exact ⟨rfl, rfl⟩
theorem backw_stops (F : Fence) (n : Nat) (h7 : F.fn 147) (hro : F.round = none) (hn : 1 ≤ n) (Bs : Nat) (a : Addr) (len cap : Nat) (zs : List Nat) (hlen : zs.length = len) (hz : ∀ c ∈ zs, c < 256) (hm : len ≤ 1099511627776) (w : World) (hBs : w.cell? ⟨Bs, 0, none⟩ = some (.slice (some a) len cap)) (hS : Sl w (some a) (VY zs)) :
    SeqStopsK F n Tryz.prog 147 #[.pointer (some ⟨Bs, 0, none⟩)] (fun x : Nat × Fin 256 => #[Value.int .i64 (x.1 : Int), Value.int .u8 ((x.2.val : Nat) : Int)]) (Kp2 Bs a.block) (fun ys => ys = bks zs len) (fun pre => ∃ k, k ≤ len ∧ pre = bks zs k) len w := fun l J Jx W hW _ _ hY h0 =>
  backw1_in F n h7 hro hn l Bs a len cap zs hlen hz hm J Jx hY W ((hW.cell (p := ⟨Bs, 0, none⟩) (World.block_lt_of_cell? w _ hBs)).trans hBs) (hS.below hW) h0
end Go.Proofs.YtphccomhggnccaaGreat
