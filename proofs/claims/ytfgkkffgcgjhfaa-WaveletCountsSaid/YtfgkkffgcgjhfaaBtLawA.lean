/- The laws BitsOfNothing, BitsCount, walked. -/
import Derived.Test.YtfgkkffgcgjhfaaBtAlike
namespace Go.Proofs.Ytfgkkffgcgjhfaa
set_option linter.unusedVariables false
set_option linter.unusedSimpArgs false
open Go.RowKit PkMath Pop Rank BtMath

theorem MadeVec.get {w : World} {l : List Bool} {e : Ending} {w' : World} (h : MadeVec w l e w') : ∃ b, e = .returned (.pointer (some ⟨b, 0, none⟩)) ∧ BVec w' 0 b l ∧ Below w.heap.size w w' := by
  obtain ⟨b, rfl, h, hB⟩ := h
  exact ⟨b, rfl, h.mono (Nat.zero_le _), hB⟩

set_option maxRecDepth 100000 in
set_option maxHeartbeats 2000000 in
theorem lawNothing (i : Int) (b : Bool) (w : World) : Calls Try.prog 6 #[.int .i64 i, .bool b] w (TrueBelow w) := by
  go_enter Try.func6, Try.ntmps6
  go_wp2_with fail
  go_at_call 25
  refine (flip_nil w).mono ?_
  rintro e w1 ⟨v, rfl, hBV, hB1⟩
  go_wp2_with fail
  refine (blen_nil _).mono ?_
  rintro e w' ⟨rfl, rfl⟩
  go_wp2_with fail
  refine (bones_nil _).mono ?_
  rintro e w' ⟨rfl, rfl⟩
  go_wp2_with fail
  refine (rank_nil b i _).mono ?_
  rintro e w' ⟨rfl, rfl⟩
  go_wp2_with fail
  refine (bget_nil i _).mono ?_
  rintro e w' ⟨rfl, rfl⟩
  go_wp2_with fail
  refine (select_nil b i _).mono ?_
  rintro e w2 ⟨rfl, hB2⟩
  have hc0 := (hBV.below hB2).c0
  have hB3 := below_step hB1 hB2
  go_wp2_with fail
  refine (blen_cell _ _ _ hc0).mono ?_
  rintro e w' ⟨rfl, rfl⟩
  go_wp2_with fail
  refine (known_any _).mono ?_
  rintro e w4 ⟨rfl, hB4⟩
  go_wp2_with fail
  go_ret
  exact ⟨rfl, below_step hB3 hB4⟩

theorem sl_cell {w : World} {g j : Nat} {xs : List Value} {u : Value} (h : Sl w (some ⟨g, 0, none⟩) xs) (hu : xs[j]? = some u) : w.cell? ⟨g, j, none⟩ = some u := by
  have := h.cell _ rfl j u hu
  rwa [show (⟨g, 0, none⟩ : Addr).add j = ⟨g, j, none⟩ by unfold Addr.add; split <;> simp_all] at this
/-- a slice of ints that came in -/
structure IArg (w : World) (A : Option Addr) (n c : Nat) (l : List Int) : Prop where
  sl : Sl w A (VI l)
  len : l.length = n
  cap : n ≤ c
  nil : A = none → c = 0
  rng : ∀ x ∈ l, -9223372036854775808 ≤ x ∧ x < 9223372036854775808
theorem iarg_of_row {w : World} {a : Option Addr} {len cap : Nat} {zs : List Int}
    (h : (a = none ∧ len = 0 ∧ cap = 0 ∧ zs = []) ∨
      ∃ x, a = some x ∧ len ≤ cap ∧ cap ≤ maxLen ∧ zs.length = cap ∧ (∀ i, i < zs.length → w.cell? (x.add i) = some (.int .i64 (zs.getD i 0))) ∧ ∀ n ∈ zs, (Lit.int .i64 n).wf = true) :
    ∃ l, IArg w a len cap l := by
  rcases h with ⟨rfl, rfl, rfl, rfl⟩ | ⟨x, rfl, hlen, _, hz, hc, hw⟩
  · exact ⟨[], sl_nil w, rfl, Nat.le_refl _, fun _ => rfl, fun x hx => by cases hx⟩
  · have hb : ∀ n ∈ zs, -9223372036854775808 ≤ n ∧ n < 9223372036854775808 := fun n hn => by
      have := hw n hn
      simp [Lit.wf, IntKind.min, IntKind.max, IntKind.signed, IntKind.bits] at this
      omega
    refine ⟨zs.take len, ⟨fun e => (by cases e), fun a ha j u hu => ?_⟩, by simp; omega, hlen, fun e => (by cases e), fun y hy => hb _ (List.mem_of_mem_take hy)⟩
    cases ha
    simp only [VI] at hu
    rw [List.getElem?_map, List.getElem?_take] at hu
    split at hu
    · rename_i hj
      have hjz : j < zs.length := by omega
      rw [List.getElem?_eq_getElem hjz] at hu
      simp only [Option.map_some, Option.some.injEq] at hu
      rw [hc j hjz, ← hu]
      simp only [List.getD, List.getElem?_eq_getElem hjz, Option.getD_some]
    · simp at hu

set_option maxRecDepth 100000 in
set_option maxHeartbeats 2000000 in
theorem lawCount (n0 : Int) (A Q : Option Addr) (K c K2 c2 : Nat) (xs ks : List Int) (w : World) (hA : IArg w A K c xs) (hQ : IArg w Q K2 c2 ks) :
    Calls Try.prog 4 #[.int .i64 n0, .slice A K c, .slice Q K2 c2] w (TrueBelow w) := by
  by_cases h0 : 3000 < n0
  · go_enter Try.func4, Try.ntmps4
    go_wp2_with fail
    go_ret
    exact ⟨rfl, Below.refl _ _⟩
  by_cases h1 : 1000 < K
  · go_enter Try.func4, Try.ntmps4
    go_wp2_with fail
    go_ret
    exact ⟨rfl, Below.refl _ _⟩
  by_cases h2 : 60 < K2
  · go_enter Try.func4, Try.ntmps4
    go_wp2_with fail
    go_ret
    exact ⟨rfl, Below.refl _ _⟩
  obtain ⟨hAs, hAl, hAc, hAn, hAr⟩ := hA
  obtain ⟨hQs, hQl, hQc, hQn, hQr⟩ := hQ
  have HAl := Lib.hid hAl
  have HAn := Lib.hid hAn
  have HQl := Lib.hid hQl
  have HQr := Lib.hid hQr
  obtain ⟨n, hn, hn0⟩ : ∃ n : Nat, n < 1048576 ∧ ((n0 < 0 ∧ n = 0) ∨ n0 = (n : Int)) := ⟨n0.toNat, by omega, by omega⟩
  have HN := Lib.hid hn
  have HN0 := Lib.hid hn0
  clear hAl hAn hQl hQr hAr hn hn0 hQn hQc
  go_enter Try.func4, Try.ntmps4
  go_wp2_with (at_builtin; refine app_int rfl _ _ rfl w.heap.size _ [] rfl (World.ownsRow_made w #[] 0 (Nat.le_refl _) (by decide) (by simp)) A K c xs rfl HAn.out HAl.out (hAs.below ((Below.refl _ w).alloc (Nat.le_refl _) _)) (by simp; omega) (by simp) ?_; intro v' w1 hown1 hgrow hnil)
  obtain ⟨g, cap, cur, rfl, hg, hblk, hcap, hcs, htake⟩ := own_blk hown1 (fun e => by have := (hnil.1 e).1; cases this)
  have hB1 : Below w.heap.size w w1 := ((Below.refl _ w).alloc (Nat.le_refl _) _).grown hgrow (by simp) (fun k hk => by have hk' : some w.heap.size = some k := hk; injection hk' with hk'; omega)
  rw [List.nil_append] at hcap hcs htake hown1 ⊢
  rw [HAl.out] at hcap hcs htake hown1 ⊢
  have hs1 := sl_take hblk htake
  clear hown1 hgrow hnil hblk htake hcs hg
  go_wp2_with fail
  go_at_call 16
  refine (new_any w1 n0 n HN.out HN0.out _ K cap xs HAl.out (by omega) hs1).mono ?_
  intro e w2 hM
  obtain ⟨b, rfl, hBV, hB2⟩ := hM.get
  have hB3 := below_step hB1 hB2
  have hs2 := hs1.below hB2
  clear hM hs1 hB2 hB1
  go_wp2_with fail
  go_loopw [9] (fun t wr => ∃ j m : Nat, j ≤ K ∧ t = .int .i64 (j : Int) ∧ wr = w2.drewN m) (fun t _ => K - (intOf t).toNat)
  case atStart => exact ⟨0, 0, Nat.zero_le _, rfl, rfl⟩
  case round =>
    obtain ⟨j, m, hj, rfl, rfl⟩ := hrel
    by_cases hlt : j < K
    · obtain ⟨a, rfl, hca⟩ := (hAs.below hB3).some (j := j) (by rw [VI_length, HAl.out]; exact hlt)
      have hcb := sl_cell hs2 (VI_get xs j (by rw [HAl.out]; exact hlt))
      rw [VI_get _ _ (by rw [HAl.out]; exact hlt)] at hca
      go_wp2_with fail
      go_quiet (fail)
      go_wp2_with fail
      go_roundw
      case rel => exact ⟨j + 1, m + nq, by omega, by go_num, by simp⟩
      case measure => simp [intOf]; omega
    · obtain rfl : j = K := by omega
      have hBV2 := hBV.drewN m
      have hB4 := below_step hB3 (below_drewN _ _ m)
      go_wp2_with fail
      go_at_call 21
      refine (refnew_any (w2.drewN m) n0 n HN.out HN0.out A j c xs HAl.out (by omega) (hAs.below hB4)).mono ?_
      rintro e w3 ⟨g2, rfl, hg2, hblk2, hB5⟩
      have hB6 := below_step hB4 hB5
      have hBV3 := hBV2.below hB5
      have hLs := sl_blk hblk2
      go_wp2_with fail
      go_at_call 20
      refine (alike_any hBV3 rfl hLs HQl.out (by omega) (hQs.below hB6) HQr.out).mono ?_
      rintro e w4 ⟨rfl, hB7⟩
      have hB8 := below_step hB6 hB7
      go_wp2_with fail
      go_at_call 15
      refine (known_any _).mono ?_
      rintro e w5 ⟨rfl, hB9⟩
      go_wp2_with fail
      go_ret
      exact ⟨rfl, below_step hB8 hB9⟩

end Go.Proofs.Ytfgkkffgcgjhfaa
