/- Segments made one behind the other, of the program and of the reference, in two rows that grow. -/
import Derived.Test.YtphccomhggnccaaGreatSgM0
import Derived.Test.YtphccomhggnccaaGreatSgAl
import Derived.Test.YtphccomhggnccaaGreatSgP
set_option linter.unusedVariables false
set_option linter.unusedSimpArgs false
set_option maxRecDepth 100000
namespace Go.Proofs.YtphccomhggnccaaGreat
open Go.RowKit Go.Maps Sg Fm
abbrev S2 (p q : Addr) (u v : Value) (w2 W : World) : Prop := W.cell? p = some u ∧ W.cell? q = some v ∧ Below w2.heap.size w2 W
theorem el_seg : ElT Tryz.prog 72 37 1 8 (.pointer none) := ⟨Tryz.underlying72, by kernel_rfl, rfl, by decide, by decide⟩
theorem el_ref : ElT Tryz.prog 73 28 1 8 (.pointer none) := ⟨Tryz.underlying73, by kernel_rfl, rfl, by decide, by decide⟩
theorem VX_append (a b : List Sg1) : VX (a ++ b) = VX a ++ VX b := by simp [VX]
theorem VR_append (a b : List Sr) : VR (a ++ b) = VR a ++ VR b := by simp [VR]
structure Snap (w ws : World) (base : Nat) (av bv : Value) : Prop where
  sz : ws.heap.size ≤ w.heap.size
  keep : ∀ k, base ≤ k → k < ws.heap.size → w.heap[k]? = ws.heap[k]?
  av : ∀ g, av.ownBlock = some g → g < base ∨ ws.heap.size ≤ g
  bv : ∀ g, bv.ownBlock = some g → g < base ∨ ws.heap.size ≤ g
theorem Snap.below {w w' ws : World} {base : Nat} {av bv : Value} (h : Snap w ws base av bv) (hb : Below w.heap.size w w') : Snap w' ws base av bv :=
  ⟨Nat.le_trans h.sz hb.size, fun k h1 h2 => by rw [← h.keep k h1 h2]; exact hb.block k (Nat.lt_of_lt_of_le h2 h.sz), h.av, h.bv⟩
theorem Snap.growA {w w' ws : World} {base : Nat} {av bv av' : Value} (h : Snap w ws base av bv) (hg : w.grownBy w' av.ownBlock) (hat : av'.ownBlock = av.ownBlock ∨ av'.ownBlock = some w.heap.size) : Snap w' ws base av' bv := by
  refine ⟨Nat.le_trans h.sz hg.size, fun k h1 h2 => ?_, fun g hg1 => ?_, h.bv⟩
  · rw [← h.keep k h1 h2]
    refine hg.block k (Nat.lt_of_lt_of_le h2 h.sz) (fun e => ?_)
    have := h.av k e.symm
    omega
  · rcases hat with e | e
    · exact h.av g (e.symm.trans hg1)
    · rw [hg1] at e; have := Option.some.inj e; have := h.sz; omega
theorem Snap.growB {w w' ws : World} {base : Nat} {av bv bv' : Value} (h : Snap w ws base av bv) (hg : w.grownBy w' bv.ownBlock) (hat : bv'.ownBlock = bv.ownBlock ∨ bv'.ownBlock = some w.heap.size) : Snap w' ws base av bv' := by
  refine ⟨Nat.le_trans h.sz hg.size, fun k h1 h2 => ?_, h.av, fun g hg1 => ?_⟩
  · rw [← h.keep k h1 h2]
    refine hg.block k (Nat.lt_of_lt_of_le h2 h.sz) (fun e => ?_)
    have := h.bv k e.symm
    omega
  · rcases hat with e | e
    · exact h.bv g (e.symm.trans hg1)
    · rw [hg1] at e; have := Option.some.inj e; have := h.sz; omega
structure MkS (w0 w : World) (av bv : Value) (la : List Sg1) (lb : List Sr) : Prop where
  ha : w.ownsRow w0.heap.size 37 1 av la.length (VX la)
  hb : w.ownsRow w0.heap.size 28 1 bv lb.length (VR lb)
  sm : ∀ s ∈ la, ∃ base ws, SegM ws base s.x s.ds s.gs s.sa ∧ Snap w ws base av bv
  rm : ∀ s ∈ lb, ∃ base ws, RefM ws base s.x s.es s.gs ∧ Snap w ws base av bv
  ok : ∀ s ∈ la, SegOk s.ds s.gs
  bel : Below w0.heap.size w0 w
section
variable {w0 w w' : World} {av bv : Value} {la : List Sg1} {lb : List Sr}
theorem MkS.start (w : World) : MkS w w (.slice none 0 0) (.slice none 0 0) [] [] :=
  ⟨World.ownsRow_nil _ _ _ _, World.ownsRow_nil _ _ _ _, fun s hs => (by cases hs), fun s hs => (by cases hs), fun s hs => (by cases hs), Below.refl _ _⟩
theorem MkS.below (h : MkS w0 w av bv la lb) (hb : Below w.heap.size w w') : MkS w0 w' av bv la lb :=
  ⟨own_below h.ha hb, own_below h.hb hb, fun s hs => by
    obtain ⟨b, ws, h1, h2⟩ := h.sm s hs
    exact ⟨b, ws, h1, h2.below hb⟩, fun s hs => by
    obtain ⟨b, ws, h1, h2⟩ := h.rm s hs
    exact ⟨b, ws, h1, h2.below hb⟩, h.ok, h.bel.trans (hb.mono h.bel.size)⟩
theorem MkS.appA {av' : Value} {s : Sg1} (h : MkS w0 w av bv la lb) (hs : ∃ base ws, SegM ws base s.x s.ds s.gs s.sa ∧ Snap w ws base av bv) (hok : SegOk s.ds s.gs)
    (ho : w'.ownsRow w0.heap.size 37 1 av' (la.length + 1) (VX la ++ [.pointer (some ⟨s.x, 0, none⟩)])) (hg : w.grownBy w' av.ownBlock) (hat : av'.ownBlock = av.ownBlock ∨ av'.ownBlock = some w.heap.size) : MkS w0 w' av' bv (la ++ [s]) lb := by
  refine ⟨?_, own_keepT h.hb h.ha (by decide) hg, fun s2 hs2 => ?_, fun s2 hs2 => ?_, fun s2 hs2 => ?_, h.bel.grown hg h.bel.size (fun k hk => (World.ownsRow.lt h.ha k hk).1)⟩
  · rw [List.length_append, VX_append]; exact ho
  · have key : ∃ base ws, SegM ws base s2.x s2.ds s2.gs s2.sa ∧ Snap w ws base av bv := by
      rcases List.mem_append.1 hs2 with h1 | h1
      · exact h.sm s2 h1
      · obtain rfl : s2 = s := by simpa using h1
        exact hs
    obtain ⟨b, ws, q1, q2⟩ := key
    exact ⟨b, ws, q1, q2.growA hg hat⟩
  · obtain ⟨b, ws, q1, q2⟩ := h.rm s2 hs2
    exact ⟨b, ws, q1, q2.growA hg hat⟩
  · rcases List.mem_append.1 hs2 with h1 | h1
    · exact h.ok s2 h1
    · obtain rfl : s2 = s := by simpa using h1
      exact hok
theorem MkS.appB {bv' : Value} {s : Sr} (h : MkS w0 w av bv la lb) (hs : ∃ base ws, RefM ws base s.x s.es s.gs ∧ Snap w ws base av bv)
    (ho : w'.ownsRow w0.heap.size 28 1 bv' (lb.length + 1) (VR lb ++ [.pointer (some ⟨s.x, 0, none⟩)])) (hg : w.grownBy w' bv.ownBlock) (hat : bv'.ownBlock = bv.ownBlock ∨ bv'.ownBlock = some w.heap.size) : MkS w0 w' av bv' la (lb ++ [s]) := by
  refine ⟨own_keepT h.ha h.hb (by decide) hg, ?_, fun s2 hs2 => ?_, fun s2 hs2 => ?_, h.ok, h.bel.grown hg h.bel.size (fun k hk => (World.ownsRow.lt h.hb k hk).1)⟩
  · rw [List.length_append, VR_append]; exact ho
  · obtain ⟨b, ws, q1, q2⟩ := h.sm s2 hs2
    exact ⟨b, ws, q1, q2.growB hg hat⟩
  · have key : ∃ base ws, RefM ws base s2.x s2.es s2.gs ∧ Snap w ws base av bv := by
      rcases List.mem_append.1 hs2 with h1 | h1
      · exact h.rm s2 h1
      · obtain rfl : s2 = s := by simpa using h1
        exact hs
    obtain ⟨b, ws, q1, q2⟩ := key
    exact ⟨b, ws, q1, q2.growB hg hat⟩
theorem MkS.segs (h : MkS w0 w av bv la lb) : ∀ s ∈ la, SegM w 0 s.x s.ds s.gs s.sa := fun s hs => by
  obtain ⟨b, ws, q1, q2⟩ := h.sm s hs
  exact (q1.keep q2.sz q2.keep).mono (Nat.zero_le _)
theorem MkS.refs (h : MkS w0 w av bv la lb) : ∀ s ∈ lb, RefM w 0 s.x s.es s.gs := fun s hs => by
  obtain ⟨b, ws, q1, q2⟩ := h.rm s hs
  exact (q1.keep q2.sz q2.keep).mono (Nat.zero_le _)
end
def good (s : St) : Bool := decide (Rise (keysD (s.es.map De.dc) ++ s.gs))
def sgOf (s : St) : Sgm := (sortD (s.es.map De.dc), srt s.gs)
def sgsOf (l : List St) : List Sgm := (l.filter good).map sgOf
theorem sgsOf_succ {l : List St} {i : Nat} (h : i < l.length) : sgsOf (l.take (i + 1)) = sgsOf (l.take i) ++ (if good (l.getD i default) = true then [sgOf (l.getD i default)] else []) := by
  unfold sgsOf
  rw [List.take_succ_eq_append_getElem h, List.filter_append, List.map_append]
  simp only [List.getD, List.getElem?_eq_getElem h, Option.getD_some]
  by_cases hq : good l[i] = true <;> simp [hq]
theorem wt_sgsOf (l : List St) : ((sgsOf l).map wtSg).sum ≤ wtL l := by
  induction l with
  | nil => exact Nat.le_refl _
  | cons a r ih =>
    have e1 : wtL (a :: r) = wtS a + wtL r := by simp [wtL]
    rw [e1]
    unfold sgsOf at ih ⊢
    rw [List.filter_cons]
    split
    · rw [List.map_cons, List.map_cons, List.sum_cons]
      have : wtSg (sgOf a) = wtS a := wtSg_sort _ _
      omega
    · omega
theorem wtS_le {l : List St} {s : St} (h : s ∈ l) : wtS s ≤ wtL l := by
  induction l with
  | nil => cases h
  | cons a r ih =>
    have e1 : wtL (a :: r) = wtS a + wtL r := by simp [wtL]
    rcases List.mem_cons.1 h with rfl | h
    · omega
    · have := ih h; omega
end Go.Proofs.YtphccomhggnccaaGreat
