/- wavelet: All. -/
import Derived.Test.YtfgkkffgcgjhfaaWvRel
namespace Go.Proofs.Ytfgkkffgcgjhfaa
set_option linter.unusedVariables false
set_option linter.unusedSimpArgs false
open Go.RowKit PkMath Pop Rank BtMath Wv

set_option maxRecDepth 100000 in
set_option maxHeartbeats 2000000 in
theorem tall_any {w : World} {base b W : Nat} {l : List Nat} (h : TM w base b W l) :
    Calls Try.prog 36 #[.pointer (some ⟨b, 0, none⟩)] w fun e w' => ∃ A c, e = .returned (.slice A l.length c) ∧ Sl w' A (VI (IL l)) ∧ Below w.heap.size w w' := by
  obtain ⟨n, hn⟩ : ∃ n, l.length = n := ⟨_, rfl⟩
  have hlen := h.len
  have hc0 := h.c0
  rw [hn] at hlen hc0 ⊢
  have Hn := Lib.hid hn
  have HTM := Lib.hid h
  have HL := Lib.hid (tlen_cell b (n : Int) w hc0)
  clear hn h hc0
  go_enter Try.func36, Try.ntmps36
  go_wp2_with (go_at_call 32; refine HL.out.mono ?_; rintro e w' ⟨rfl, rfl⟩)
  go_loopw [3, 7] (fun v i wr => ∃ j : Nat, j ≤ n ∧ i = .int .i64 (j : Int) ∧ wr.ownsRow w.heap.size 3 1 v ((IL l).take j).length (VI ((IL l).take j)) ∧ Below w.heap.size w wr) (fun _ i _ => n - (intOf i).toNat)
  case atStart => exact ⟨0, Nat.zero_le _, rfl, World.ownsRow_nil _ _ _ _, Below.refl _ _⟩
  case round =>
    obtain ⟨j, hj, rfl, hown, hB⟩ := hrel
    by_cases hlt : j < n
    · obtain ⟨A0, c9, hv, hsl0, hl0, hA0⟩ := own_sl hown
      subst hv
      have hG := tget_any (HTM.out.below hB) j (by rw [Hn.out]; exact hlt)
      have HG := Lib.hid hG
      have hsucc : (IL l).take (j + 1) = (IL l).take j ++ [((l.getD j 0 : Nat) : Int)] := by
        have h1 : j < (IL l).length := by rw [IL_length, Hn.out]; exact hlt
        rw [List.take_succ_eq_append_getElem h1, ← IL_getD l j (by rw [Hn.out]; exact hlt)]
        simp [List.getD, List.getElem?_eq_getElem h1]
      have Hsucc := Lib.hid hsucc
      have hlj : ((IL l).take j).length = j := by rw [List.length_take, IL_length, Hn.out]; omega
      clear hG hsucc
      generalize l.getD j 0 = x at *
      generalize (IL l).take j = xs at *
      have Hlj := Lib.hid hlj
      clear hlj
      go_wp2_with fail
      go_at_call 31
      refine HG.out.mono ?_
      rintro e w1 ⟨rfl, hB1⟩
      have hB2 := below_step hB hB1
      have hown1 := World.ownsRow.kept hown (below_grown hB1 (Nat.le_refl _) none) (by
        cases A0 with
        | none => exact .inl rfl
        | some q => exact .inr (by simp [Value.ownBlock]))
      have hbl := hB2.size
      go_wp2_with (at_builtin; refine app_int rfl _ _ rfl w.heap.size _ xs rfl (World.ownsRow.alloc hown1 _) (some ⟨w1.heap.size, 0, none⟩) 1 1 [(x : Int)] rfl (fun h => by cases h) rfl (sl_blk (heap_alloc_new w1 _)) (by have := Hlj.out; omega) (by simp; omega) ?_; intro v' w2 hown2 hgrow hnil)
      have hB3 : Below w.heap.size w w2 := (hB2.alloc hB2.size _).grown hgrow (by simp; omega) (fun k hk => (World.ownsRow.lt hown1 k hk).1)
      refine ⟨⟨j + 1, by omega, rfl, by rw [Hsucc.out]; exact hown2, hB3⟩, ?_⟩
      show n - ((j : Int) + 1).toNat < n - ((j : Int)).toNat
      omega
    · obtain rfl : j = n := by omega
      have ht : (IL l).take j = IL l := List.take_of_length_le (by rw [IL_length, Hn.out]; exact Nat.le_refl _)
      rw [ht] at hown
      obtain ⟨A, c, hv, hsl, hl1, hA1⟩ := own_sl hown
      subst hv
      rw [IL_length, Hn.out]
      go_wp2_with fail
      go_ret
      exact ⟨A, c, rfl, hsl, hB⟩
end Go.Proofs.Ytfgkkffgcgjhfaa
