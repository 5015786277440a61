/- A region that draws its order, in a round of a range over a function: by the plain calculus' words. -/
import Derived.Test.YtphccomhggnccaaGreatGen
import Derived.Deep.RegionHeld3
import Derived.OrdersIn
import Derived.RangeFuncCalls
import Derived.Test.YtphccomhggnccaaGreatPl
import Derived.Test.YtphccomhggnccaaGreatFmA
import Derived.Test.YtphccomhggnccaaGreatFmVY
import Derived.Test.YtphccomhggnccaaGreatFmB
namespace Go.Proofs.YtphccomhggnccaaGreat
set_option maxRecDepth 100000
set_option linter.unusedVariables false
set_option linter.unusedSimpArgs false
def NoOut (Q : Exit → Act → World → Prop) : Exit → Act → World → Prop
  | .outgrown, _, _ => False
  | e, a, w => Q e a w
theorem NoOut.imp {Q : Exit → Act → World → Prop} : ∀ (e : Exit) (a : Act) (w : World), NoOut Q e a w → Q e a w := fun e a w h => by
  cases e <;> first | exact h | exact (h : False).elim
theorem noOut_lets (Q : Exit → Act → World → Prop) : ¬ LetsOut (NoOut Q) := fun ⟨_, _, h⟩ => h
theorem rowsIn_wide {l n : Nat} {P : Program} {row : String} {args : Array Value} {w : World} {R : Value → World → Prop} (h : Rows P row args w R) : RowsIn (Fence.wide.inRound l) n P row args w R := fun c cs _ =>
  let ⟨v, w', r, s⟩ := h c cs
  ⟨v, w', r, stepsIn_wide.2 s⟩
theorem operIn_of {l n : Nat} {P : Program} {o : Oper} {a : Act} {w : World} {K : Act → World → Prop} {Q : Exit → Act → World → Prop} (hd : ∀ c, o.op ≠ .defer c) (h : o.wp P a w K (NoOut Q)) : o.wpIn (Fence.wide.inRound l) n P a w K Q := by
  refine ⟨fun _ _ => trivial, ?_⟩
  rw [Oper.semAt_eq _ _ _ hd]
  unfold Oper.wp at h
  generalize (execOp a.eval o).run P w = r at *
  have hdep : ∀ b : Prop, ((Fence.wide.inRound l).depth.isSome = true → b) := fun b e => by simp [Fence.wide] at e
  cases r with
  | ok x w' =>
    cases x
    case value v => exact h
    case skip => exact h
    case defer d => exact h
    case enter f args =>
      refine ⟨hdep _, (CallsIn.inRound l (callsIn_wide.2 h)).mono ?_⟩
      intro e w'' he
      cases e with
      | returned v => exact he
      | panicked c => exact he
      | outgrown => exact absurd he (noOut_lets Q)
    case row row args => exact ⟨hdep _, rowsIn_wide h⟩
    all_goals exact (h : False).elim
  | halt x w' =>
    cases x
    case panic v => exact h
    all_goals exact (h : False).elim
theorem anyIn_of {l n : Nat} {P : Program} {md : Region.Mode} {ops : Array Oper} {Q : Exit → Act → World → Prop} (hd : ∀ o ∈ ops, ∀ c, o.op ≠ .defer c) : ∀ (fuel : Nat) (listed : Array Bool) (a : Act) (w : World),
    wpAny P md ops (NoOut Q) fuel listed a w → wpAnyIn (Fence.wide.inRound l) n P md ops Q fuel listed a w
  | 0, _, _, _, h => h
  | fuel + 1, listed, a, w, h => ⟨h.1, fun i hi => by
      have h2 := h.2 i hi
      unfold wpOp at h2
      unfold wpOpIn
      cases ho : ops[i]? with
      | none =>
        rw [ho] at h2
        exact anyIn_of hd fuel _ _ _ h2
      | some o =>
        rw [ho] at h2
        simp only at h2 ⊢
        by_cases hw : Region.wanted o (yielded ops a.tmps) = true
        · rw [if_pos hw] at h2 ⊢
          rcases h2 with h2 | h2
          · exact Oper.wpIn_mono (fun a w h => anyIn_of hd fuel _ a w h) (operIn_of (hd o (Array.mem_of_getElem? ho)) h2)
          · exact absurd h2.2 (noOut_lets Q)
        · rw [if_neg hw] at h2 ⊢
          exact ⟨fun _ _ => trivial, anyIn_of hd fuel _ _ _ h2⟩⟩
def noDefer (ops : Array Oper) : Bool := ops.all fun o => match o.op with | .defer _ => false | _ => true
theorem noDefer_spec {ops : Array Oper} (h : noDefer ops = true) : ∀ o ∈ ops, ∀ c, o.op ≠ .defer c := by
  intro o ho c e
  unfold noDefer at h
  rw [Array.all_eq_true'] at h
  have := h o ho
  rw [e] at this
  cases this
theorem round_held {l n : Nat} {P : Program} {id : Nat} {ops : Array Oper} {Q : Exit → Act → World → Prop} {a : Act} {w : World} (S : World → Prop) (hm : P.follows .mixedOrders = true) (hd : noDefer ops = true) (hS : S w.drew)
    (h : S w.drew → wpAnyH P .any ops (NoOut Q) S ops.size (Array.replicate ops.size false) a w.drew) : (Code.region id ops true).wpIn (Fence.wide.inRound l) n P Q a w :=
  wpIn_region_any hm (anyIn_of (noDefer_spec hd) _ _ _ _ (wpAny_of_held _ _ _ _ (h hS)))
end Go.Proofs.YtphccomhggnccaaGreat
namespace Go.Proofs.YtphccomhggnccaaGreat.Fm
set_option maxRecDepth 100000
set_option linter.unusedVariables false
set_option linter.unusedSimpArgs false
open Rank
def occ (s P : List Nat) : List Nat := (List.range s.length).filter fun p => P.isPrefixOf (s.drop p)
theorem occ_count (s P : List Nat) : cnt s (cut true · P) = cnt s (cut false · P) + (occ s P).length := by
  have key : ∀ p, cut true (s.drop p) P = (cut false (s.drop p) P || P.isPrefixOf (s.drop p)) ∧ (cut false (s.drop p) P && P.isPrefixOf (s.drop p)) = false := by
    intro p
    rw [← cut_prefix]
    have hle := cut_le (s.drop p) P
    cases h1 : cut false (s.drop p) P with
    | false => simp
    | true => simp [hle h1]
  unfold cnt occ
  rw [← len_filter_or]
  · congr 1
    exact filter_same _ _ _ fun p _ => (key p).1
  · exact fun p _ => (key p).2
theorem occ_mem {s P : List Nat} {p : Nat} : p ∈ occ s P ↔ p < s.length ∧ P <+: s.drop p := by
  unfold occ
  rw [List.mem_filter, List.mem_range, List.isPrefixOf_iff_prefix]
theorem occ_ext {s P : List Nat} (X : List Nat) (h : occ s P = []) : occ s (X ++ P) = [] := by
  refine List.eq_nil_iff_forall_not_mem.2 fun p hp => ?_
  obtain ⟨hl, t, ht⟩ := occ_mem.1 hp
  by_cases hP : P = []
  · subst hP
    have : p ∈ occ s [] := occ_mem.2 ⟨hl, List.nil_prefix⟩
    rw [h] at this
    cases this
  have e : s.drop (p + X.length) = P ++ t := by
    rw [← List.drop_drop, ← ht, List.append_assoc, List.drop_left]
  have hlt : p + X.length < s.length := by
    rcases Nat.lt_or_ge (p + X.length) s.length with h1 | h1
    · exact h1
    · rw [List.drop_eq_nil_of_le h1] at e
      exact absurd (List.append_eq_nil_iff.1 e.symm).1 hP
  have : p + X.length ∈ occ s P := occ_mem.2 ⟨hlt, t, e.symm⟩
  rw [h] at this
  cases this
def run (sa : List Nat) (f t : Nat) : List Nat := (sa.drop f).take (t - f)
theorem run_length (sa : List Nat) (f t : Nat) (h : t ≤ sa.length) : (run sa f t).length = t - f := by
  unfold run; rw [List.length_take, List.length_drop]; omega
theorem run_getD (sa : List Nat) (f t k : Nat) (h : t ≤ sa.length) (hk : k < t - f) : (run sa f t).getD k 0 = sa.getD (f + k) 0 := by
  unfold run
  simp only [List.getD]
  rw [List.getElem?_take, if_pos hk, List.getElem?_drop]
theorem run_occ {s sa : List Nat} (h : IsSA s sa) (P : List Nat) : (run sa (cnt s (cut false · P)) (cnt s (cut true · P))).Perm (occ s P) := by
  have hc := occ_count s P
  have ht := cnt_le s (cut true · P)
  have hl := h.length
  have hp : (sa.filter fun p => P.isPrefixOf (s.drop p)).Perm (occ s P) := h.perm.filter _
  have hA : ∀ i p, sa[i]? = some p → (P.isPrefixOf (s.drop p) = true ↔ cnt s (cut false · P) ≤ i ∧ i < cnt s (cut true · P)) := by
    intro i p hi
    have h1 := h.at_cut true P hi
    have h2 := h.at_cut false P hi
    rw [← cut_prefix, Bool.and_eq_true, Bool.not_eq_true']
    rw [h1, ← Bool.not_eq_true, h2]
    omega
  generalize cnt s (cut false · P) = f at *
  generalize cnt s (cut true · P) = t at *
  refine List.Perm.trans ?_ hp
  have e : sa = sa.take f ++ (run sa f t ++ sa.drop t) := by
    have e1 : sa.drop f = run sa f t ++ sa.drop t := by
      unfold run
      have := List.take_append_drop (t - f) (sa.drop f)
      rw [List.drop_drop, show f + (t - f) = t by omega] at this
      exact this.symm
    rw [← e1, List.take_append_drop]
  have f1 : (sa.take f).filter (fun p => P.isPrefixOf (s.drop p)) = [] := by
    rw [List.filter_eq_nil_iff]
    intro p hpm
    obtain ⟨i, hi, rfl⟩ := List.getElem_of_mem hpm
    rw [List.length_take] at hi
    rw [List.getElem_take]
    rw [hA i _ (List.getElem?_eq_getElem (by omega))]
    omega
  have f3 : (sa.drop t).filter (fun p => P.isPrefixOf (s.drop p)) = [] := by
    rw [List.filter_eq_nil_iff]
    intro p hpm
    obtain ⟨i, hi, rfl⟩ := List.getElem_of_mem hpm
    rw [List.length_drop] at hi
    rw [List.getElem_drop]
    rw [hA (t + i) _ (List.getElem?_eq_getElem (by omega))]
    omega
  have f2 : (run sa f t).filter (fun p => P.isPrefixOf (s.drop p)) = run sa f t := by
    rw [List.filter_eq_self]
    intro p hpm
    obtain ⟨i, hi, rfl⟩ := List.getElem_of_mem hpm
    have hi2 := hi
    rw [run_length sa f t (by omega)] at hi2
    have e2 : (run sa f t)[i] = sa[f + i] := by simp [run]
    rw [e2, hA (f + i) _ (List.getElem?_eq_getElem (by omega))]
    omega
  conv => rhs; rw [e]
  rw [List.filter_append, List.filter_append, f1, f2, f3, List.append_nil, List.nil_append]
def hit (ts : List (List Nat)) (p : Nat) : Nat × Nat := (docOf (stf 0 ts) p, p - (stf 0 ts).getD (docOf (stf 0 ts) p) 0)
theorem occ_hits (ts : List (List Nat)) (P : List Nat) (hP : P ≠ []) : (occ (rowT ts) (P.map (· + 2))).map (hit ts) = locF 0 P ts := loc_back P hP ts
end Go.Proofs.YtphccomhggnccaaGreat.Fm
namespace Go.Proofs.YtphccomhggnccaaGreat
set_option maxRecDepth 100000
set_option linter.unusedVariables false
set_option linter.unusedSimpArgs false
set_option maxRecDepth 100000
open Go.RowKit Go.Shelf Fm
attribute [local go_sem] Oper.semAt_some
def bkf (zs : List Nat) (k : Nat) : Nat × Fin 256 := (zs.length - 1 - k, ⟨zs.getD (zs.length - 1 - k) 0 % 256, Nat.mod_lt _ (by decide)⟩)
def bks (zs : List Nat) (k : Nat) : List (Nat × Fin 256) := (List.range k).map (bkf zs)
theorem bks_succ (zs : List Nat) (k : Nat) : bks zs (k + 1) = bks zs k ++ [bkf zs k] := by simp [bks, List.range_succ]
theorem bks_length (zs : List Nat) (k : Nat) : (bks zs k).length = k := by simp [bks]
def Kp2 (p q : Nat) (A B : World) : Prop := B.heap[p]? = A.heap[p]? ∧ B.heap[q]? = A.heap[q]?
theorem Kp2.t {p q : Nat} {A B C : World} (h : Kp2 p q A B) (k : Kp2 p q B C) : Kp2 p q A C := ⟨k.1.trans h.1, k.2.trans h.2⟩
theorem Kp2.b {p q : Nat} {w : World} (hp : p < w.heap.size) (hq : q < w.heap.size) (W : World) (l : Nat) (o o' : Obj) (hl : w.heap.size ≤ l) (h : W.heap[l]? = some o) (_ : o.isCells = false) (_ : o.isWalk = false) : Kp2 p q W (W.putObj l o') := by
  have := (belowK_b (w := w) (Nat.le_refl _) W l o o' hl h ‹_› ‹_›).block
  exact ⟨this p hp, this q hq⟩

set_option maxHeartbeats 2000000 in
theorem backw1_in (F : Fence) (n : Nat) (h7 : F.fn 147) (hro : F.round = none) (hn : 1 ≤ n) (l Bs : Nat) (a : Addr) (len cap : Nat) (zs : List Nat) (hlen : zs.length = len) (hz : ∀ c ∈ zs, c < 256) (hm : len ≤ 1099511627776) (J Jx : List (Nat × Fin 256) → World → Prop)
    (hY : ∀ pre x W, J pre W → pre.length < len → YieldAt F (n - 1) Tryz.prog l #[.int .i64 (x.1 : Int), .int .u8 ((x.2.val : Nat) : Int)] W fun e W' =>
      (e = .returned (.bool true) ∧ J (pre ++ [x]) W' ∧ Kp2 Bs a.block W W') ∨ (e = .returned (.bool false) ∧ Jx (pre ++ [x]) W'))
    (W : World) (hBs : W.cell? ⟨Bs, 0, none⟩ = some (.slice (some a) len cap)) (hS : Sl W (some a) (VY zs)) (h0 : J [] W) :
    CallsIn F n Tryz.prog 147 #[.func (.yield l) #[] #[], .pointer (some ⟨Bs, 0, none⟩)] W fun e W' => (∃ v, e = .returned v) ∧
      ((∃ ys, ys = bks zs len ∧ J ys W') ∨ (∃ pre, (∃ k, k ≤ len ∧ pre = bks zs k) ∧ Jx pre W')) := by
  have Hl := Lib.hid hlen
  have Hz := Lib.hid hz
  have HS := Lib.hid hS
  have HBs := Lib.hid hBs
  clear hlen hz hS
  refine callsIn_of_wp Tryz.func147 rfl h7 ?_ hro
  simp only [Tryz.ntmps147, List.size_toArray, List.length_cons, List.length_nil, Nat.reduceAdd, Nat.reduceSub, Array.replicate_succ, Array.replicate_zero, List.push_toArray, List.append_toArray, List.nil_append, List.cons_append]
  gi_wp2
  gi_loopw [3] (fun i wr => ∃ (m : Nat) (q : Int), m ≤ len ∧ q = (m : Int) - 1 ∧ i = .int .i64 q ∧ J (bks zs (len - m)) wr ∧ Hid (Kp2 Bs a.block W wr))
    (fun i _ => ((intOf i) + 1).toNat)
  case atStart => exact ⟨len, _, Nat.le_refl _, rfl, rfl, by rw [Nat.sub_self]; exact h0, ⟨rfl, rfl⟩⟩
  case round =>
    obtain ⟨m, q, hk, hq, rfl, hJs, Hnx⟩ := hrel
    clear hBs h0
    cases m with
    | zero =>
      have hq1 : q < 0 := by omega
      have HJ := Lib.hid hJs
      clear hJs hq
      gi_wp2
      go_end0
      exact ⟨⟨_, rfl⟩, .inl ⟨_, rfl, HJ.out⟩⟩
    | succ m =>
      obtain rfl : q = (m : Int) := by omega
      clear hq
      have hSr : Sl wr (some a) (VY zs) := HS.out.kept fun a' ha' _ => by cases ha'; exact Hnx.out.2
      have hcx := hSr.cell a rfl m _ (VY_get zs m (by rw [Hl.out]; omega))
      have hcb : wr.cell? ⟨Bs, 0, none⟩ = some (.slice (some a) len cap) := (World.cell?_of_block (a := ⟨Bs, 0, none⟩) Hnx.out.1).trans HBs.out
      have hc256 : zs.getD m 0 < 256 := by
        rw [getD_at (by rw [Hl.out]; omega)]; exact Hz.out _ (List.getElem_mem _)
      have hb : bkf zs (len - (m + 1)) = (m, ⟨zs.getD m 0, hc256⟩) := by
        have e1 : zs.length - 1 - (len - (m + 1)) = m := by rw [Hl.out]; omega
        have e2 : ∀ q (h : q = m), ((q, ⟨zs.getD q 0 % 256, Nat.mod_lt _ (by decide)⟩) : Nat × Fin 256) = (m, ⟨zs.getD m 0, hc256⟩) := by
          rintro q rfl
          simp only [Nat.mod_eq_of_lt hc256]
        exact e2 _ e1
      have Hb := Lib.hid (show bks zs (len - m) = bks zs (len - (m + 1)) ++ [(m, ⟨zs.getD m 0, hc256⟩)] from by
        rw [show len - m = len - (m + 1) + 1 by omega, bks_succ, hb])
      clear hb hSr
      generalize zs.getD m 0 = c at *
      obtain ⟨fn, tmps, assign, body, hy, hR⟩ := hY _ (m, ⟨c, hc256⟩) wr hJs (by rw [bks_length]; omega)
      dsimp only at hy
      have HR := Lib.hid hR
      clear hR hJs hY
      gi_wp2
      refine HR.out.mono ?_
      rintro e W3 (⟨rfl, hJ3, hk3⟩ | ⟨rfl, hJx3⟩)
      · have HJ3 := Lib.hid hJ3
        have Hk3 := Lib.hid hk3
        clear hJ3 hk3
        gi_wp2
        go_roundw
        case rel => exact ⟨m, _, by omega, rfl, rfl, by rw [Hb.out]; exact HJ3.out, Hnx.out.t Hk3.out⟩
        case measure =>
          show ((m : Int) - 1 + 1).toNat < ((m : Int) + 1).toNat
          omega
      · have HJ3 := Lib.hid hJx3
        clear hJx3
        gi_wp2
        refine bodyPost_ret (results_none rfl _ _ _) rfl ?_
        exact ⟨⟨_, rfl⟩, .inr ⟨_, ⟨len - m, by omega, Hb.out.symm⟩, HJ3.out⟩⟩
theorem backw_any (a : Option Addr) (len cap : Nat) (w : World) :
    Calls Tryz.prog 109 #[.slice a len cap] w fun e w' => e = .returned (.func (.func 147) #[] #[.pointer (some ⟨w.heap.size, 0, none⟩)]) ∧ w' = w.alloc (.cells #[.slice a len cap] 34) := by
  go_enter Tryz.func109, Tryz.ntmps109
  go_wp2
  go_ret
  exact ⟨rfl, rfl⟩
theorem backw_stops (F : Fence) (n : Nat) (h7 : F.fn 147) (hro : F.round = none) (hn : 1 ≤ n) (Bs : Nat) (a : Addr) (len cap : Nat) (zs : List Nat) (hlen : zs.length = len) (hz : ∀ c ∈ zs, c < 256) (hm : len ≤ 1099511627776) (w : World) (hBs : w.cell? ⟨Bs, 0, none⟩ = some (.slice (some a) len cap)) (hS : Sl w (some a) (VY zs)) :
    SeqStopsK F n Tryz.prog 147 #[.pointer (some ⟨Bs, 0, none⟩)] (fun x : Nat × Fin 256 => #[Value.int .i64 (x.1 : Int), Value.int .u8 ((x.2.val : Nat) : Int)]) (Kp2 Bs a.block) (fun ys => ys = bks zs len) (fun pre => ∃ k, k ≤ len ∧ pre = bks zs k) len w := fun l J Jx W hW _ _ hY h0 =>
  backw1_in F n h7 hro hn l Bs a len cap zs hlen hz hm J Jx hY W ((hW.cell (p := ⟨Bs, 0, none⟩) (World.block_lt_of_cell? w _ hBs)).trans hBs) (hS.below hW) h0
end Go.Proofs.YtphccomhggnccaaGreat
namespace Go.Proofs.YtphccomhggnccaaGreat
set_option maxRecDepth 100000
set_option linter.unusedVariables false
set_option linter.unusedSimpArgs false
set_option maxRecDepth 100000
open Go.RowKit Fm Rank PkMath
theorem keep3D' {w2 : World} {a1 a2 a3 : Addr} {v1 v2 v3 : Value} (h1 : w2.cell? a1 = some v1) (h2 : w2.cell? a2 = some v2) (h3 : w2.cell? a3 = some v3) : w2.drew.cell? a1 = some v1 ∧ w2.drew.cell? a2 = some v2 ∧ w2.drew.cell? a3 = some v3 ∧ Below w2.heap.size w2 w2.drew :=
  ⟨h1, h2, h3, rfl, rfl, rfl, Nat.le_refl _, fun _ _ => rfl⟩
theorem keep3K {w2 W W' : World} {a1 a2 a3 : Addr} {v1 v2 v3 : Value} (h : W.cell? a1 = some v1 ∧ W.cell? a2 = some v2 ∧ W.cell? a3 = some v3 ∧ Below w2.heap.size w2 W) (k : Below W.heap.size W W') : W'.cell? a1 = some v1 ∧ W'.cell? a2 = some v2 ∧ W'.cell? a3 = some v3 ∧ Below w2.heap.size w2 W' :=
  ⟨by rw [World.cell?_of_block (w := W) (k.block _ (World.block_lt_of_cell? W _ h.1))]; exact h.1, by rw [World.cell?_of_block (w := W) (k.block _ (World.block_lt_of_cell? W _ h.2.1))]; exact h.2.1, by rw [World.cell?_of_block (w := W) (k.block _ (World.block_lt_of_cell? W _ h.2.2.1))]; exact h.2.2.1, below_step h.2.2.2 k⟩
theorem at_opt {l : List Nat} {i x : Nat} (hi : i < l.length) (h : l.getD i 0 = x) : l[i]? = some x := by
  rw [List.getElem?_eq_getElem hi, ← h, getD_at hi]
theorem opt_at {l : List Nat} {i x : Nat} (h : l[i]? = some x) : i < l.length ∧ l.getD i 0 = x := by
  have hi : i < l.length := by
    rcases Nat.lt_or_ge i l.length with h1 | h1
    · exact h1
    · rw [List.getElem?_eq_none h1] at h; cases h
  refine ⟨hi, ?_⟩
  rw [List.getElem?_eq_getElem hi] at h
  rw [getD_at hi]
  exact Option.some.inj h
theorem ahead_any {w : World} {base x : Nat} {s sa : List Nat} (h : IdxM w base x s sa) (i p : Nat) (hi : i < s.length) (hp : sa.getD i 0 = p + 1) :
    Calls Tryz.prog 68 #[.pointer (some ⟨x, 0, none⟩), .int .i64 (i : Int)] w fun e w' => ∃ i' : Nat, e = .returned (.int .i64 (i' : Int)) ∧ i' < s.length ∧ sa.getD i' 0 = p ∧ Below w.heap.size w w' := by
  obtain ⟨h1, h2, h3, h4, h5, tr, g3, y, yc, mb, pb, pg, k, rb, r, b1, b2, b3, b4, b5, c0, c1, c2, c3, c4, c5, c6, c7, c8⟩ := h
  have hlf := lf_at h4 h5 (at_opt (by rw [h5.length]; exact hi) hp)
  have hpl : p < s.length := by
    have := h5.lt (p := p + 1) (by rw [← hp, getD_at (by rw [h5.length]; exact hi)]; exact List.getElem_mem _)
    omega
  obtain ⟨hlf1, hlf2⟩ := hlf
  have htl := trn_length h5
  have hti := (opt_at hlf1).2
  obtain ⟨hil, hiv⟩ := opt_at hlf2
  rw [h5.length] at hil
  have hc512 : s.getD p 0 < 512 := by rw [getD_at hpl]; exact h3 _ (List.getElem_mem _)
  have hle : lessN s (s.getD p 0) ≤ s.length := by unfold lessN; exact List.length_filter_le _ _
  have hll : s.getD p 0 < ((List.range 513).map (lessN s)).length := by rw [List.length_map, List.length_range]; omega
  have hless := c2.cell (i := s.getD p 0) (by rw [NI_length]; exact hll)
  rw [NI_getD _ _ hll, getD_at hll, List.getElem_map, List.getElem_range] at hless
  have HG := Lib.hid (tgetZ c1 (i : Int))
  rw [atZ_in (by rw [IL_length, htl]; exact hi), IL_getD _ _ (by rw [htl]; exact hi), hti] at HG
  have HR := Lib.hid (fun (W : World) (hb : Below w.heap.size w W) => trankZ (c1.below hb) ((s.getD p 0 : Nat) : Int) (i : Int))
  simp only [rk_IL, Int.toNat_natCast] at HR
  have hk0 := (cell_blk c0 0).trans rfl
  have hk1 := (cell_blk c0 1).trans rfl
  have Hiv := Lib.hid hiv
  generalize hcc : s.getD p 0 = c at *
  generalize rk (trn s sa) c i = q at *
  generalize lessN s c = m at *
  clear hcc hll hlf1 hlf2 hti htl hiv hp c0 c1 c2 c3 c4 c5 c6 c7 c8 h3 h4 h5
  go_enter Tryz.func68, Tryz.ntmps68
  go_wp2_with fail
  go_at_call 67
  refine HG.out.mono ?_
  rintro e w1 ⟨rfl, hB1⟩
  have hk0' := hB1.cell (p := ⟨x, 0, none⟩) (World.block_lt_of_cell? w _ hk0)
  have hk1' := hB1.cell (p := ⟨x, 1, none⟩) (World.block_lt_of_cell? w _ hk1)
  have hk2' := hB1.cell (p := ⟨g3, c, none⟩) (World.block_lt_of_cell? w _ hless)
  rw [hk0] at hk0'
  rw [hk1] at hk1'
  rw [hless] at hk2'
  clear hk0 hk1 hless
  have HB1 := Lib.hid hB1
  clear hB1
  have e1 : (0 : Int) ≤ (c : Int) := by omega
  have e2 : (c : Int) < 513 := by omega
  have e3 : IntKind.i64.wrap ((m : Int) + (q : Int)) = ((m + q : Nat) : Int) := by rw [IntWalk.i64_in _ (by omega)]; omega
  go_wp2_with fail
  have HR1 := Lib.hid (fun (W : World) (h : W.cell? ⟨x, 0, none⟩ = some (.pointer (some ⟨tr, 0, none⟩)) ∧ W.cell? ⟨x, 1, none⟩ = some (.slice (some ⟨g3, 0, none⟩) 513 513) ∧ W.cell? ⟨g3, c, none⟩ = some (.int .i64 (m : Int)) ∧ Below w1.heap.size w1 W) => HR.out W (below_step HB1.out h.2.2.2))
  clear HR HG
  go_region_held3 (fun W => W.cell? ⟨x, 0, none⟩ = some (.pointer (some ⟨tr, 0, none⟩)) ∧ W.cell? ⟨x, 1, none⟩ = some (.slice (some ⟨g3, 0, none⟩) 513 513) ∧ W.cell? ⟨g3, c, none⟩ = some (.int .i64 (m : Int)) ∧ Below w1.heap.size w1 W)
    (first | exact keep3D' hk0' hk1' hk2' | exact keep3K (by assumption) (by assumption))
    (first | (go_at_call 110; refine (HR1.out _ (by assumption)).mono ?_; rintro e W2 ⟨rfl, hBr⟩))
  all_goals go_wp2_with fail
  all_goals go_ret
  all_goals exact ⟨m + q, ret_int (by omega), hil, Hiv.out, below_step HB1.out (by rename_i h; exact h.2.2.2)⟩

theorem place_any {w : World} {base x : Nat} {s sa : List Nat} (h : IdxM w base x s sa) (i : Nat) (hi : i < s.length) :
    Calls Tryz.prog 57 #[.pointer (some ⟨x, 0, none⟩), .int .i64 (i : Int)] w fun e w' => e = .returned (.int .i64 ((sa.getD i 0 : Nat) : Int)) ∧ Below w.heap.size w w' := by
  have hlen := h.len
  have hl := h.ord.length
  have hsl : ∀ i, i < s.length → sa.getD i 0 < s.length := fun i hi => h.ord.lt (by rw [getD_at (by rw [hl]; exact hi)]; exact List.getElem_mem _)
  have hp := hsl i hi
  have H := Lib.hid h
  have Hsl := Lib.hid hsl
  have Hl := Lib.hid hl
  clear h hsl hl
  go_enter Tryz.func57, Tryz.ntmps57
  go_wp2_with fail
  go_loopw [1, 5] (fun a q wr => ∃ j k : Nat, a = .int .i64 (j : Int) ∧ q = .int .i64 (k : Int) ∧ j < s.length ∧ k ≤ sa.getD i 0 ∧ Hid (sa.getD j 0 = sa.getD i 0 - k) ∧ Below w.heap.size w wr) (fun _ q _ => s.length - (intOf q).toNat)
  case atStart => exact ⟨i, 0, rfl, rfl, hi, Nat.zero_le _, Lib.hid (by omega), Below.refl _ _⟩
  case round =>
    obtain ⟨j, k, rfl, rfl, hj, hk, Hjk, hB⟩ := hrel
    have h := H.out.below hB
    have HI := Lib.hid h
    obtain ⟨h1, h2, h3, h4, h5, tr, g3, y, yc, mb, pb, pg, kk, rb, r, b1, b2, b3, b4, b5, c0, c1, c2, c3, c4, c5, c6, c7, c8⟩ := h
    have hc3 := (cell_blk c0 3).trans rfl
    have hc4 := (cell_blk c0 4).trans rfl
    have HV := Lib.hid c5
    have HP := Lib.hid c6
    have HB := Lib.hid hB
    clear c0 c1 c2 c3 c4 c5 c6 c7 c8 h1 h3 h4 h5 b1 b2 b3 b4 b5 hB
    have HG := Lib.hid (bget_any HV.out (j : Int))
    have hjsa : j < sa.length := by rw [Hl.out]; exact hj
    rw [Int.toNat_natCast, mrk_getD sa j hjsa] at HG
    have hdj : decide (0 ≤ (j : Int)) = true := by simp
    by_cases h8 : sa.getD j 0 % 8 = 0
    · have hb8 : (sa.getD j 0 % 8 == 0) = true := by rw [h8]; rfl
      rw [hb8, hdj, Bool.true_and] at HG
      obtain ⟨hq1, hq2⟩ := plc_rk sa j hjsa h8
      rw [Hl.out] at hq1 hq2
      have HR := Lib.hid (fun n => rank_any (HV.out.drewN n) true (j : Int))
      simp only [Int.toNat_natCast] at HR
      have HGk := Lib.hid (fun n => get_in (PArr.kept (w' := wr.drewN n) HP.out rfl rfl) _ hq1)
      rw [hq2] at HGk
      have hpj := Hsl.out j hj
      have Hpk := Lib.hid (show sa.getD j 0 + k = sa.getD i 0 by have := Hjk.out; omega)
      clear hb8 h8 hdj hq1 hq2
      generalize sa.getD j 0 = pj at *
      generalize rk (mrk sa) true j = q at *
      have e1 : IntKind.i64.wrap (pj : Int) = (pj : Int) := IntWalk.i64_in _ (by omega)
      have e2 : IntKind.i64.wrap ((pj : Int) + (k : Int)) = (pj : Int) + (k : Int) := IntWalk.i64_in _ (by omega)
      have e3 : IntKind.u64.wrap (pj : Int) = (pj : Int) := by rw [IntKind.wrap_u64]; omega
      go_wp2_with fail
      go_at_call 111
      refine HG.out.mono ?_
      rintro e w' ⟨rfl, rfl⟩
      go_wp2_with fail
      go_quiet ((first | (go_at_call 113; exact Calls.quiet_of (HR.out _)) | (go_at_call 112; exact Calls.quiet_of (HGk.out _))))
      go_wp2_with fail
      go_ret
      exact ⟨ret_int (by have := Hpk.out; omega), below_step HB.out (below_drewN _ _ _)⟩
    · have hb8 : (sa.getD j 0 % 8 == 0) = false := by simpa using h8
      rw [hb8, hdj, Bool.true_and] at HG
      have hpj := Hsl.out j hj
      obtain ⟨p1, hp1⟩ : ∃ p1, sa.getD j 0 = p1 + 1 := ⟨sa.getD j 0 - 1, by omega⟩
      have HA := Lib.hid (ahead_any HI.out j p1 hj hp1)
      have Hp1 := Lib.hid hp1
      clear hb8 h8 hdj hp1
      go_wp2_with fail
      go_at_call 111
      refine HG.out.mono ?_
      rintro e w' ⟨rfl, rfl⟩
      go_wp2_with fail
      go_at_call 68
      refine HA.out.mono ?_
      rintro e w2 ⟨j', rfl, hj', hp', hB2⟩
      have Hp' := Lib.hid hp'
      have HB2 := Lib.hid hB2
      have hk1 : k + 1 ≤ sa.getD i 0 := by have := Hjk.out; have := Hp1.out; omega
      clear hp' hB2
      go_wp2_with fail
      go_roundw
      case rel => exact ⟨j', k + 1, rfl, by go_num, hj', hk1, Lib.hid (by have := Hp'.out; have := Hjk.out; have := Hp1.out; omega), below_step HB.out HB2.out⟩
      case measure => simp [intOf]; omega

theorem whole_any (x t : Nat) (w : World) (h0 : w.cell? ⟨x, 0, none⟩ = some (.pointer (some ⟨t, 0, none⟩))) :
    Calls Tryz.prog 64 #[.pointer (some ⟨x, 0, none⟩)] w fun e w' => e = .returned (.bool true) ∧ w = w' := by
  go_enter Tryz.func64, Tryz.ntmps64
  go_wp2_with fail
  go_ret
  exact ⟨rfl, rfl⟩
def many (s : List Nat) : Nat := (stp s s.length).length - 1
theorem stp_pos (s : List Nat) : 1 ≤ (stp s s.length).length := by simp [stp]
theorem docs_any {w : World} {base x : Nat} {s sa : List Nat} (h : IdxM w base x s sa) :
    Calls Tryz.prog 23 #[.pointer (some ⟨x, 0, none⟩)] w fun e w' => e = .returned (.int .i64 ((many s : Nat) : Int)) ∧ w = w' := by
  have hsl := h.len
  obtain ⟨h1, h2, h3, h4, h5, tr, g3, y, yc, mb, pb, pg, kk, rb, r, b1, b2, b3, b4, b5, c0, c1, c2, c3, c4, c5, c6, c7, c8⟩ := h
  have hc0 := (cell_blk c0 0).trans rfl
  have hc2 := (cell_blk c0 2).trans rfl
  have hp := stp_pos s
  have hle := stp_le s s.length
  have Hm := Lib.hid (show (((stp s s.length).length : Nat) : Int) - 1 = ((many s : Nat) : Int) by unfold many; omega)
  have H := Lib.hid (whole_any x tr w hc0)
  clear c0 c1 c2 c3 c4 c5 c6 c7 c8 h1 h3 h4 h5 b1 b2 b3 b4 b5
  generalize (stp s s.length).length = m at *
  go_enter Tryz.func23, Tryz.ntmps23
  go_wp2_with (go_at_call 64; refine H.out.mono ?_; rintro e w' ⟨rfl, rfl⟩)
  go_ret
  exact ⟨ret_int Hm.out, rfl⟩
theorem len_in {w : World} {base x : Nat} {s sa : List Nat} (h : IdxM w base x s sa) (d L : Nat) (hd : d < many s) (hL : (stp s s.length).getD (d + 1) 0 = (stp s s.length).getD d 0 + L + 1) (hb : (stp s s.length).getD (d + 1) 0 ≤ 65536) :
    Calls Tryz.prog 65 #[.pointer (some ⟨x, 0, none⟩), .int .i64 (d : Int)] w fun e w' => e = .returned (.int .i64 (L : Int)) ∧ ∃ n, w' = w.drewN n := by
  have hsl := h.len
  have H := Lib.hid (docs_any h)
  obtain ⟨h1, h2, h3, h4, h5, tr, g3, y, yc, mb, pb, pg, kk, rb, r, b1, b2, b3, b4, b5, c0, c1, c2, ⟨cur, c3, c3t⟩, c4, c5, c6, c7, c8⟩ := h
  have hc2 := (cell_blk c0 2).trans rfl
  have hm : (stp s s.length).length = many s + 1 := by have := stp_pos s; unfold many; omega
  have hS := sl_take c3 c3t
  have hx := sl_cell hS (VI_get (NI (stp s s.length)) d (by rw [NI_length]; omega))
  have hy := sl_cell hS (VI_get (NI (stp s s.length)) (d + 1) (by rw [NI_length]; omega))
  rw [NI_getD _ _ (by omega)] at hx hy
  rw [hm] at hc2
  have Hl := Lib.hid hL
  have hle : (stp s s.length).getD d 0 ≤ 65536 := by omega
  have hmle : many s ≤ 65536 := by have := stp_le s s.length; omega
  clear c0 c1 c2 c3 c3t c4 c5 c6 c7 c8 h1 h3 h4 h5 b1 b2 b3 b4 b5 hm hS hL
  generalize (stp s s.length).getD (d + 1) 0 = u at *
  generalize (stp s s.length).getD d 0 = v at *
  generalize many s = m at *
  have e1 : (0 : Int) ≤ (d : Int) := by omega
  have e2 : (d : Int) < (m : Int) := by omega
  have e3 : IntKind.i64.wrap ((d : Int) + 1) = ((d + 1 : Nat) : Int) := by rw [IntWalk.i64_in _ (by omega)]; omega
  have e4 : (0 : Int) ≤ (d : Int) + 1 := by omega
  have e5 : (d : Int) + 1 < ((m + 1 : Nat) : Int) := by omega
  have e6 : ((d : Int) + 1).toNat = d + 1 := by omega
  go_enter Tryz.func65, Tryz.ntmps65
  go_wp2_with (go_at_call 23; refine H.out.mono ?_; rintro e w' ⟨rfl, rfl⟩)
  go_quiet (fail)
  go_wp2_with fail
  go_ret
  refine ⟨ret_int ?_, _, rfl⟩
  have := Hl.out
  omega
end Go.Proofs.YtphccomhggnccaaGreat
