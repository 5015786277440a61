/- haystacklaw9.docs. -/
import Derived.Test.YtphccomhggnccaaGreatSgG
import Derived.Deep.RegionHeldLaw
set_option linter.unusedVariables false
set_option linter.unusedSimpArgs false
set_option maxRecDepth 100000
namespace Go.Proofs.YtphccomhggnccaaGreat
open Go.RowKit Sg Fm Rank
structure CopD (w : World) (base : Nat) (v : Value) (es : List De) : Prop where
  row : w.ownsRow base 36 2 v es.length (VD es)
  own : ∀ e ∈ es, w.ownsRow base 5 1 (.slice e.a e.n e.c) e.t.length (VY e.t)
  lt : ∀ e ∈ es, ∀ b ∈ e.t, b < 256
  ap : es.Pairwise fun e f => ∀ g, (Value.slice e.a e.n e.c).ownBlock = some g → (Value.slice f.a f.n f.c).ownBlock ≠ some g
theorem CopD.nil (w : World) (base : Nat) : CopD w base (.slice none 0 0) [] := ⟨World.ownsRow_nil _ _ _ _, fun e he => (by cases he), fun e he => (by cases he), List.Pairwise.nil⟩
theorem CopD.below {w w' : World} {base : Nat} {v : Value} {es : List De} (h : CopD w base v es) (hb : Below w.heap.size w w') : CopD w' base v es :=
  ⟨own_below h.row hb, fun e he => own_below (h.own e he) hb, h.lt, h.ap⟩
theorem CopD.step {w w1 w2 w7 : World} {base : Nat} {v v7 : Value} {es : List De} {e : De} {n : Nat} (h : CopD w base v es) (hb : base ≤ w.heap.size)
    (h1 : w1.ownsRow w.heap.size 5 1 (.slice e.a e.n e.c) e.t.length (VY e.t)) (hl : ∀ b ∈ e.t, b < 256) (hB1 : Below w.heap.size w w1) (hB2 : Below w1.heap.size w1 w2) (hn : es.length = n)
    (h7 : w7.ownsRow base 36 2 v7 (n + 1) (VD es ++ encD e)) (hg7 : w2.grownBy w7 v.ownBlock) : CopD w7 base v7 (es ++ [e]) := by
  subst hn
  have hne : (5 : TypeId) ≠ 36 := by decide
  have h2 := (h.below hB1).below hB2
  have h1' := own_below (own_mono h1 hb) hB2
  refine ⟨?_, fun f hf => ?_, fun f hf => ?_, ?_⟩
  · rw [List.length_append, VD_append]
    have : VD [e] = encD e := by simp [VD]
    rw [this]
    exact h7
  · rcases List.mem_append.1 hf with hf | hf
    · exact own_keepT (h2.own f hf) h2.row hne hg7
    · obtain rfl : f = e := by simpa using hf
      exact own_keepT h1' h2.row hne hg7
  · rcases List.mem_append.1 hf with hf | hf
    · exact h.lt f hf
    · obtain rfl : f = e := by simpa using hf
      exact hl
  · refine List.pairwise_append.2 ⟨h.ap, List.pairwise_singleton _ _, fun f hf f2 hf2 g hg hg2 => ?_⟩
    obtain rfl : f2 = e := by simpa using hf2
    have q1 := (World.ownsRow.lt (h.own f hf) g hg).2
    have q2 := (World.ownsRow.lt h1 g hg2).1
    omega
theorem CopD.txt {w : World} {base : Nat} {v : Value} {es : List De} (h : CopD w base v es) : ∀ e ∈ es, TxtOk w e := fun e he => by
  obtain ⟨A, c, hv, hS, hnc, hnil, hl, -, -⟩ := own_form (h.own e he)
  injection hv with e1 e2 e3
  refine ⟨e2.symm, by rw [e2, e3]; exact hnc, fun hn => by rw [e3]; exact hnil (by rw [← e1]; exact hn), by rw [e1]; exact hS, h.lt e he⟩
theorem CopD.arg {w : World} {base : Nat} {v : Value} {es : List De} (h : CopD w base v es) : ∃ A c, v = .slice A es.length c ∧ DArg w A es.length c es := by
  obtain ⟨A, c, hv, hS, hnc, hnil, hl, -, -⟩ := own_form h.row
  exact ⟨A, c, hv, rfl, hnc, hnil, hS, h.txt⟩
def DocsP (w : World) (es : List De) (e : Ending) (w' : World) : Prop := ∃ v es', e = .returned v ∧ CopD w' w.heap.size v es' ∧ es'.map De.dc = es.map De.dc ∧ Below w.heap.size w w'
set_option maxHeartbeats 4000000 in
theorem docs9_any (w : World) (A : Option Addr) (n c : Nat) (es : List De) (h : DArg w A n c es) (hn : n ≤ 1000000) (ht : ∀ e ∈ es, e.n ≤ 1000000) :
    Calls Tryz.prog 15 #[.slice A n c] w (DocsP w es) := by
  have H := Lib.hid h
  have Ht := Lib.hid ht
  clear h ht
  go_enter Tryz.func15, Tryz.ntmps15
  go_wp2_with fail
  go_loopw [3, 4] (fun t q wr => ∃ (i : Nat) (es' : List De) (At : Option Addr) (ct : Nat), i ≤ n ∧ q = .int .i64 (i : Int) ∧ t = .slice At i ct ∧ Hid (es'.length = i) ∧ Hid (es'.map De.dc = (es.take i).map De.dc) ∧ Hid (CopD wr w.heap.size (.slice At i ct) es') ∧ Hid (Below w.heap.size w wr)) (fun _ q _ => n - (intOf q).toNat)
  case atStart => exact ⟨0, [], none, 0, Nat.zero_le _, rfl, rfl, Lib.hid rfl, Lib.hid rfl, Lib.hid (CopD.nil _ _), Lib.hid (Below.refl _ _)⟩
  case round =>
    obtain ⟨i, es', At, ct, hi, rfl, rfl, Hel, Hdc, HC, HB⟩ := hrel
    by_cases hin : i < n
    · obtain ⟨bd, od, rfl, hw0, hw1⟩ := garg_docs0 H.out hin
      have hblw := World.block_lt_of_cell? w _ hw0
      have hd0 := (World.cell?_of_block (HB.out.block bd hblw)).trans hw0
      have hd1 := (World.cell?_of_block (HB.out.block bd hblw)).trans hw1
      have hmem : es[i]?.getD default ∈ es := by have := H.out.len; simp [this, hin]
      have hen := Ht.out _ hmem
      have htx := (H.out.txt _ hmem).below HB.out
      have Hsu := Lib.hid (show (es.take (i + 1)).map De.dc = (es.take i).map De.dc ++ [(es[i]?.getD default).dc] by
        have : i < es.length := by rw [H.out.len]; exact hin
        rw [List.take_succ_eq_append_getElem this, List.map_append]; simp [this])
      generalize es[i]?.getD default = e0 at *
      obtain ⟨ek, ea, en, ec, et⟩ := e0
      dsimp only at *
      have hC := below_new wr (.cells #[] 5)
      have hO0 : (wr.alloc (.cells #[] 5)).ownsRow wr.heap.size 5 1 (.slice (some ⟨wr.heap.size, 0, none⟩) 0 0) 0 [] := World.ownsRow_made wr #[] 0 (Nat.le_refl _) (by decide) (by simp)
      have Htx := Lib.hid htx
      have HSt := Lib.hid (htx.sl.below hC)
      dsimp only at HSt
      have hO0d : (wr.alloc (.cells #[] 5)).drew.ownsRow wr.heap.size 5 1 (.slice (some ⟨wr.heap.size, 0, none⟩) 0 0) 0 [] := own_keepR hO0 (grown_drew _ none) (fun _ _ => nofun)
      have hCd := hC.drew
      have hbl : bd < wr.heap.size := World.block_lt_of_cell? wr _ hd0
      have HO0d := Lib.hid hO0d
      have HSd := Lib.hid (HSt.out.drew)
      have HCd := Lib.hid hCd
      have hi9 : i ≤ 1000000 := by omega
      have hen9 : 0 + en ≤ 1099511627776 := by omega
      have hsz0 := HCd.out.size
      clear hO0 htx hmem H Ht hO0d hC hCd HSt
      go_upto_region 5 with fail
      go_region_held_law (fun W => W.cell? ⟨bd, od + i * 2, none⟩ = some (.string (ba ek)) ∧ W.cell? ⟨bd, od + i * 2 + 1, none⟩ = some (.slice ea en ec))
        (first | assumption | exact ⟨hd0, hd1⟩ | exact ⟨e0, e1⟩ | exact k2_alloc (by assumption) _ | exact k2_drew (by assumption) | exact k2_drew (k2_alloc (by assumption) _) | exact k2_drew (k2_alloc ⟨e0, e1⟩ _) | exact k2_alloc ⟨e0, e1⟩ _)
        (first
          | (refine stepE el_u8 rfl _ _ rfl wr.heap.size _ 0 [] rfl HO0d.out ea en ec (VY et) rfl Htx.out.nil (by rw [VY_length, Nat.mul_one]; exact Htx.out.len) HSd.out (VY_one _) hen9 hsz0 ?_; intro v1 w4 hown1 hg1 _ _; rw [Nat.zero_add, List.nil_append] at hown1; obtain ⟨A4, c4, hv4, -, -, -, -, -, -⟩ := own_form hown1; subst hv4; have hB4 := HCd.out.grown hg1 HCd.out.size (fun k hk => (World.ownsRow.lt HO0d.out k hk).1); have e0 := (World.cell?_of_block (hB4.block bd hbl)).trans hd0; have e1 := (World.cell?_of_block (hB4.block bd hbl)).trans hd1; have HO4 := Lib.hid hown1; have HB4 := Lib.hid hB4; clear hown1 hg1 hB4)
          | (refine stepE el_doc rfl _ _ rfl w.heap.size _ i (VD es') rfl (own_below (own_len HC.out.row Hel.out) (HB4.out.alloc HB4.out.size (.cells #[.string (ba ek), .slice A4 en c4] 36))) (some ⟨w4.heap.size, 0, none⟩) 1 1 (encD ⟨ek, A4, en, c4, et⟩) rfl (fun e => by cases e) rfl (sl_blk (xs := encD ⟨ek, A4, en, c4, et⟩) (heap_alloc_new w4 _)) (encD_one _) (by omega) (Nat.le_trans HB.out.size (HB4.out.alloc HB4.out.size (.cells #[.string (ba ek), .slice A4 en c4] 36)).size) ?_; intro v7 w7 hown7 hg7 _ _; obtain ⟨A7, c7, hv7, -, -, -, -, -, -⟩ := own_form hown7; subst hv7; have HC7 := Lib.hid (HC.out.step (e := ⟨ek, A4, en, c4, et⟩) HB.out.size (own_len HO4.out Htx.out.len.symm) Htx.out.lt HB4.out (below_new w4 (.cells #[.string (ba ek), .slice A4 en c4] 36)) Hel.out hown7 hg7); have HB7 := Lib.hid ((HB.out.trans ((HB4.out.alloc HB4.out.size (.cells #[.string (ba ek), .slice A4 en c4] 36)).mono HB.out.size)).grown hg7 (Nat.le_trans HB.out.size (HB4.out.alloc HB4.out.size (.cells #[.string (ba ek), .slice A4 en c4] 36)).size) (fun k hk => (World.ownsRow.lt HC.out.row k hk).1)); have e0 := (World.cell?_of_block (HB7.out.block bd hblw)).trans hw0; have e1 := (World.cell?_of_block (HB7.out.block bd hblw)).trans hw1; clear hown7 hg7))
      go_wp2_with fail
      go_roundw
      case rel => exact ⟨i + 1, es' ++ [⟨ek, A4, en, c4, et⟩], A7, c7, by omega, by go_num, rfl, Lib.hid (by rw [List.length_append, Hel.out]; rfl), Lib.hid (by rw [List.map_append, Hdc.out, Hsu.out]; rfl), HC7, HB7⟩
      case measure => simp [intOf]; omega
    · obtain rfl : i = n := by omega
      go_wp2_with fail
      go_ret
      refine ⟨_, es', rfl, HC.out, ?_, HB.out⟩
      rw [Hdc.out, List.take_of_length_le (by rw [H.out.len]; exact Nat.le_refl _)]
end Go.Proofs.YtphccomhggnccaaGreat
