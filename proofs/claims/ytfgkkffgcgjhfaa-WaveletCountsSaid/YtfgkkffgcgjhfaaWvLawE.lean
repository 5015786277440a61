/- haystacklaw4: WaveletCounts. -/
import Derived.Test.YtfgkkffgcgjhfaaWvAsks
namespace Go.Proofs.Ytfgkkffgcgjhfaa
set_option linter.unusedVariables false
set_option linter.unusedSimpArgs false
open Go.RowKit PkMath Pop Rank BtMath Wv

set_option maxRecDepth 100000 in
set_option maxHeartbeats 2000000 in
/-- where Build refuses -/
theorem lawCounts_bad (W0 : Int) (A : Option Addr) (n c : Nat) (l : List Int) (Q : Option Addr) (t cq : Nat) (w : World) (hA : IArg w A n c l) (h0 : n ≤ 1500) (h1 : t ≤ 40)
    (hB : ∀ (W' : World) (A' : Option Addr) (c' : Nat), Sl W' A' (VI l) → Calls Try.prog 26 #[.int .i64 W0, .slice A' n c'] W' (NoTree 1 W'))
    (hR : ∀ (W' : World) (A' : Option Addr) (c' : Nat), Sl W' A' (VI l) → Calls Try.prog 33 #[.int .i64 W0, .slice A' n c'] W' fun e w' => e = .returned (.int .i64 1) ∧ W' = w') :
    Calls Try.prog 13 #[.int .i64 W0, .slice A n c, .slice Q t cq] w (TrueBelow w) := by
  obtain ⟨hAs, hAl, hAc, hAn, hAr⟩ := hA
  have HAl := Lib.hid hAl
  have HAs := Lib.hid hAs
  have HAn := Lib.hid hAn
  have HB := Lib.hid hB
  have HR := Lib.hid hR
  have Hmd := Lib.hid (World.ownsRow_made (base := w.heap.size) (e := 3) (size := 1) w #[] 0 (Nat.le_refl _) (Nat.zero_le _) rfl)
  have Hb1 := Lib.hid (below_new w (.cells #[] 3))
  clear hAs hAl hAn hAr hB hR
  go_enter Try.func13, Try.ntmps13
  go_upto_region 4 with (at_builtin; refine app_int rfl _ _ rfl w.heap.size (.slice (some ⟨w.heap.size, 0, none⟩) 0 0) [] rfl Hmd.out A n c l rfl HAn.out HAl.out (HAs.out.below Hb1.out) (by simp; omega) Hb1.out.size ?_; intro v2 w2 hown2 hg2 hn2)
  have hb2 : Below w.heap.size w w2 := Hb1.out.grown hg2 Hb1.out.size (fun k hk => (World.ownsRow.lt Hmd.out k hk).1)
  obtain ⟨A2, c2, hv2, hsl2, hl2, hc2⟩ := own_sl2 hown2
  subst hv2
  rw [List.nil_append] at hsl2 ⊢
  rw [HAl.out]
  have Hb2 := Lib.hid hb2
  have Hsl2 := Lib.hid hsl2
  clear hb2 hown2 hg2 hn2 hsl2 hl2 hc2
  go_wp2_with fail
  go_at_call 26
  refine (HB.out w2 A2 c2 Hsl2.out).mono ?_
  rintro e w' ⟨rfl, rfl⟩
  go_wp2_with fail
  go_at_call 33
  refine (HR.out w2 A c (HAs.out.below Hb2.out)).mono ?_
  rintro e w' ⟨rfl, rfl⟩
  go_wp2_with fail
  go_at_call 34
  refine (ints_same A2 A l n n c2 c w2 Hsl2.out (HAs.out.below Hb2.out) HAl.out HAl.out (by omega)).mono ?_
  rintro e w' ⟨rfl, m, rfl⟩
  go_wp2_with fail
  go_at_call 30
  refine (known4_any _).mono ?_
  rintro e w3 ⟨rfl, hB3⟩
  go_wp2_with fail
  go_ret
  exact ⟨rfl, below_step (below_step Hb2.out (belowD _ _ m)) hB3⟩
end Go.Proofs.Ytfgkkffgcgjhfaa
