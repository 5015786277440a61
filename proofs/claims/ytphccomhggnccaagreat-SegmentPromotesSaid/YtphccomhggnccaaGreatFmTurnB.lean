/- bwt: Turn. -/
import Derived.Test.YtphccomhggnccaaGreatFmTurn
namespace Go.Proofs.YtphccomhggnccaaGreat
set_option linter.unusedVariables false
set_option linter.unusedSimpArgs false
set_option maxRecDepth 100000
open Go.RowKit Fm

theorem rowAt_of {w : World} {b off : Nat} {s : List Nat} (hS : Sl w (some ⟨b, off, none⟩) (VI (NI s))) : RowAt w b off s := fun j hj => by
  have := hS.cell _ rfl j _ (VI_get (NI s) j (by rw [NI_length]; exact hj))
  rwa [NI_getD _ _ hj, show (⟨b, off, none⟩ : Addr).add j = ⟨b, off + j, none⟩ by unfold Addr.add; split <;> simp_all] at this
theorem RowAt.below {w w' : World} {b off k : Nat} {s : List Nat} (h : RowAt w b off s) (hB : Below k w w') (hb : b < k) : RowAt w' b off s := fun j hj => by
  rw [World.cell?_of_block (w := w) (hB.block _ hb)]; exact h j hj

set_option maxHeartbeats 4000000 in
theorem turn_any (w : World) (b off n cap : Nat) (s : List Nat) (hl : s.length = n) (hc : Closed s) (hn : n ≤ 65536) (hS : Sl w (some ⟨b, off, none⟩) (VI (NI s))) (hb : b < w.heap.size) :
    Calls Tryz.prog 137 #[.slice (some ⟨b, off, none⟩) n cap] w fun e w' => ∃ A c sa, e = .returned (.tuple #[.slice A n c, .int .i64 0]) ∧ IsSA s sa ∧ Sl w' A (VI (NI (trn s sa))) ∧ (∀ q, A = some q → w.heap.size ≤ q.block ∧ q.block < w'.heap.size) ∧ Below w.heap.size w w' := by
  have hpos := hc.pos
  rw [hl] at hpos
  have hR := rowAt_of hS
  have HC := Lib.hid (closed_any w b off n cap s hl hc hn hR)
  have HA := Lib.hid (array_any w b off n cap s hl hpos hn hS hb)
  have HR := Lib.hid hR
  have Hl := Lib.hid hl
  clear hS hR hl hc
  go_enter Tryz.func137, Tryz.ntmps137
  go_wp2_with fail
  go_at_call 191
  refine HC.out.mono ?_
  rintro e w' ⟨rfl, rfl⟩
  clear HC
  go_wp2_with fail
  go_at_call 136
  refine HA.out.mono ?_
  rintro e w1 ⟨g, sa, rfl, hg, hI, hsa, hB1⟩
  have HSA := Lib.hid hsa
  have HI := Lib.hid hI
  have hgl := hI.lt
  clear HA hsa hI
  have HR1 := Lib.hid (HR.out.below hB1 hb)
  have hsz := hB1.size
  go_wp2_with fail
  go_loopw [6, 8, 27] (fun v y i wr => ∃ j : Nat, j ≤ n ∧ i = .int .i64 (j : Int) ∧ wr.ownsRow w1.heap.size 3 1 v ((NI (trn s sa)).take j).length (VI ((NI (trn s sa)).take j)) ∧ Below w1.heap.size w1 wr) (fun _ _ i _ => n - (intOf i).toNat)
  case atStart => exact ⟨0, Nat.zero_le _, rfl, World.ownsRow_nil _ _ _ _, Below.refl _ _⟩
  case round =>
    obtain ⟨j, hj, rfl, hown, hB⟩ := hrel
    have htl := trn_length HSA.out
    rw [Hl.out] at htl
    by_cases hlt : j < n
    · obtain ⟨A0, c9, hv, hsl0, hl0, hA0⟩ := own_sl hown
      subst hv
      have hsl2 := HSA.out.length
      rw [Hl.out] at hsl2
      have hsucc : (NI (trn s sa)).take (j + 1) = (NI (trn s sa)).take j ++ [((ahd s (sa.getD j 0) : Nat) : Int)] := by
        have h1 : j < (NI (trn s sa)).length := by rw [NI_length, htl]; exact hlt
        rw [List.take_succ_eq_append_getElem h1]
        simp [NI, trn, List.getElem?_eq_getElem (show j < sa.length by omega)]
      have Hsucc := Lib.hid hsucc
      have hlj : ((NI (trn s sa)).take j).length = j := by rw [List.length_take, NI_length, htl]; omega
      have hct := (HI.out.below hB).cell (i := j) (by rw [NI_length]; omega)
      rw [NI_getD _ _ (by omega)] at hct
      have hpl : sa.getD j 0 < n := by
        have h9 := HSA.out.lt (List.getElem_mem (show j < sa.length by omega))
        rw [Hl.out] at h9
        rwa [getD_at (by omega)]
      have hca := HR1.out.below hB (by omega) ((sa.getD j 0 + n - 1) % n) (by rw [Hl.out]; exact Nat.mod_lt _ hpos)
      have ha : ahd s (sa.getD j 0) = s.getD ((sa.getD j 0 + n - 1) % n) 0 := by unfold ahd; rw [Hl.out]
      rw [← ha] at hca
      clear ha hsucc
      generalize ahd s (sa.getD j 0) = x at *
      generalize sa.getD j 0 = p at *
      have hrem : ((p : Int) + (n : Int) - 1).tmod (n : Int) = (((p + n - 1) % n : Nat) : Int) := by
        rw [show (p : Int) + (n : Int) - 1 = ((p + n - 1 : Nat) : Int) by omega, Int.ofNat_tmod]
      have htn : (p + n - 1) % n < n := Nat.mod_lt _ hpos
      generalize (p + n - 1) % n = t at *
      generalize (NI (trn s sa)).take j = xs at *
      have Hlj := Lib.hid hlj
      have hbl := hB.size
      have HB := Lib.hid hB
      clear hlj hB
      go_wp2_with (at_builtin; refine app_int rfl _ _ rfl w1.heap.size _ xs rfl (World.ownsRow.alloc hown _) (some ⟨wr.heap.size, 0, none⟩) 1 1 [(x : Int)] rfl (fun h => by cases h) rfl (sl_blk (heap_alloc_new wr _)) (by have := Hlj.out; omega) (by simp; omega) ?_; intro v' w2 hown2 hgrow hnil)
      have hB3 : Below w1.heap.size w1 w2 := (HB.out.alloc HB.out.size _).grown hgrow (by simp; omega) (fun k hk => (World.ownsRow.lt hown k hk).1)
      refine ⟨⟨j + 1, by omega, rfl, by rw [Hsucc.out]; exact hown2, hB3⟩, ?_⟩
      show n - ((j : Int) + 1).toNat < n - ((j : Int)).toNat
      omega
    · obtain rfl : j = n := by omega
      have ht : (NI (trn s sa)).take j = NI (trn s sa) := List.take_of_length_le (by rw [NI_length, htl]; exact Nat.le_refl _)
      rw [ht] at hown
      obtain ⟨A, c, hv, hsl, hl1, hA1⟩ := own_sl hown
      subst hv
      rw [NI_length, htl]
      go_wp2_with fail
      go_ret2
      exact ⟨A, c, sa, rfl, HSA.out, hsl, fun q hq => by
        subst hq
        have h9 := World.ownsRow.lt hown q.block rfl
        omega, below_step hB1 hB⟩
end Go.Proofs.YtphccomhggnccaaGreat
