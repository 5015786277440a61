/- The law BitsFlips, walked. -/
import Derived.Test.YtfgkkffgcgjhfaaBtLawD
namespace Go.Proofs.Ytfgkkffgcgjhfaa
set_option linter.unusedVariables false
set_option linter.unusedSimpArgs false
open Go.RowKit PkMath Pop Rank BtMath

theorem not_getD {l : List Bool} {i : Nat} (h : i < l.length) : (l.map (!·)).getD i false = !(l.getD i false) := by
  simp [List.getD, List.getElem?_map, List.getElem?_eq_getElem h]
theorem rk_not (l : List Bool) (c : Bool) (i : Nat) : rk (l.map (!·)) c i = rk l (!c) i := by
  have main : ∀ i, i ≤ l.length → rk (l.map (!·)) c i = rk l (!c) i := by
    intro i
    induction i with
    | zero => intro _; rw [rk_zero, rk_zero]
    | succ i ih =>
      intro h
      have hi : i < l.length := by omega
      have hn := not_getD hi
      by_cases e : l.getD i false = !c
      · rw [rk_true_succ hi e, rk_true_succ (by rw [List.length_map]; exact hi) (by rw [hn, e, Bool.not_not]), ih (by omega)]
      · rw [rk_false_succ hi e, rk_false_succ (by rw [List.length_map]; exact hi) (by rw [hn]; intro h2; exact e (by rw [← h2, Bool.not_not])), ih (by omega)]
  by_cases h : i ≤ l.length
  · exact main i h
  · have h1 := rk_big (l.map (!·)) c i (by rw [List.length_map]; omega)
    rw [h1, rk_big l (!c) i (by omega), List.length_map]
    exact main _ (Nat.le_refl _)
theorem slI_not (l : List Bool) (c : Bool) (k : Int) : slI (l.map (!·)) c k = slI l (!c) k := by
  by_cases h : k < 0
  · rw [slI_neg h, slI_neg h]
  · obtain ⟨k, rfl⟩ : ∃ q : Nat, k = (q : Int) := ⟨k.toNat, by omega⟩
    cases hs : sl l (!c) k with
    | none =>
      rw [slI_none (sl_none.1 hs)]
      apply slI_none
      rw [rk_not, List.length_map]
      exact sl_none.1 hs
    | some p =>
      rw [slI_some hs]
      apply slI_some
      obtain ⟨hp, hc, hr⟩ := sl_some.1 hs
      refine sl_some.2 ⟨by rw [List.length_map]; exact hp, ?_, by rw [rk_not]; exact hr⟩
      rw [List.getElem_map, hc, Bool.not_not]

set_option maxRecDepth 100000 in
set_option maxHeartbeats 4000000 in
theorem lawFlips (A : Option Addr) (n c : Nat) (l : List Bool) (i : Int) (w : World) (hA : BArg w A n c l) :
    Calls Try.prog 9 #[.slice A n c, .int .i64 i] w (TrueBelow w) := by
  by_cases h0 : 2000 < n
  · go_enter Try.func9, Try.ntmps9
    go_wp2_with fail
    go_ret
    exact ⟨rfl, Below.refl _ _⟩
  obtain ⟨hAs, hAl, hAc, hAn⟩ := hA
  have HAl := Lib.hid hAl
  have hsum := rk_false l n (by omega)
  have hle := rk_le l true n
  clear hAl hAn
  go_enter Try.func9, Try.ntmps9
  go_wp2_with fail
  go_at_call 22
  refine (of_any w A n c l HAl.out (by omega) hAs).mono ?_
  intro e w1 hM
  obtain ⟨v, rfl, hBV, hB1⟩ := hM.get
  clear hM
  go_wp2_with fail
  go_at_call 25
  refine (flip_any hBV (by rw [HAl.out]; omega)).mono ?_
  intro e w2 hM
  obtain ⟨u, rfl, hF, hB2⟩ := hM.get
  have hB3 := below_step hB1 hB2
  have hV := hBV.below hB2
  clear hM hB2 hB1 hBV hAs
  have hFl : (l.map (!·)).length = n := by rw [List.length_map, HAl.out]
  have hc0 := hF.c0
  rw [hFl] at hc0
  have HL := Lib.hid (blen_cell u (n : Int) w2 hc0)
  have HOv := Lib.hid (fun m : Nat => bones_any (hV.drewN m))
  have HOu := Lib.hid (fun m : Nat => bones_any (hF.drewN m))
  rw [HAl.out] at HOv
  rw [rk_not, hFl] at HOu
  have HR1 := Lib.hid (fun m : Nat => rank_any (hV.drewN m) true i)
  have HR2 := Lib.hid (fun m : Nat => rank_any (hF.drewN m) false i)
  have HR3 := Lib.hid (fun m : Nat => rank_any (hV.drewN m) false i)
  have HR4 := Lib.hid (fun m : Nat => rank_any (hF.drewN m) true i)
  rw [rk_not] at HR2 HR4
  have HS1 := Lib.hid (fun m : Nat => select_any (hV.drewN m) true i)
  simp only [Bool.not_false, Bool.not_true] at HOu HR2 HR4
  go_wp2_with fail
  refine HL.out.mono ?_
  rintro e w3 ⟨rfl, rfl⟩
  generalize rk l true n = a1 at *
  generalize rk l false n = a2 at *
  generalize rk l true i.toNat = b1 at *
  generalize rk l false i.toNat = b2 at *
  clear hc0 hFl HL
  go_wp2_with fail
  go_at_call 17
  refine (HOv.out 0).mono ?_
  rintro e w3 ⟨rfl, m1, rfl⟩
  rw [World.drewN_drewN]
  go_wp2_with fail
  go_at_call 17
  refine (HOu.out _).mono ?_
  rintro e w3 ⟨rfl, m2, rfl⟩
  rw [World.drewN_drewN]
  go_wp2_with fail
  go_at_call 19
  refine (HR1.out _).mono ?_
  rintro e w3 ⟨rfl, m3, rfl⟩
  rw [World.drewN_drewN]
  go_wp2_with fail
  go_at_call 19
  refine (HR2.out _).mono ?_
  rintro e w3 ⟨rfl, m4, rfl⟩
  rw [World.drewN_drewN]
  go_wp2_with fail
  go_at_call 19
  refine (HR3.out _).mono ?_
  rintro e w3 ⟨rfl, m5, rfl⟩
  rw [World.drewN_drewN]
  go_wp2_with fail
  go_at_call 19
  refine (HR4.out _).mono ?_
  rintro e w3 ⟨rfl, m6, rfl⟩
  rw [World.drewN_drewN]
  clear HR1 HR2 HR3 HR4 HOv HOu
  generalize b1 = b1 at *
  go_wp2_with fail
  go_at_call 18
  refine (HS1.out _).mono ?_
  rintro e w4 ⟨rfl, hB4⟩
  have hB5 := below_step hB3 (below_step (below_drewN _ _ _) hB4)
  have hF2 := (hF.drewN _).below hB4
  have hV2 := (hV.drewN _).below hB4
  clear HS1 hB3 hB4 hF hV
  have HS2 := Lib.hid (select_any hF2 false i)
  rw [slI_not] at HS2
  simp only [Bool.not_false] at HS2
  generalize slI l true i = s1 at *
  go_wp2_with fail
  go_at_call 18
  refine HS2.out.mono ?_
  rintro e w5 ⟨rfl, hB6⟩
  have hB7 := below_step hB5 hB6
  have hF3 := hF2.below hB6
  have hV3 := hV2.below hB6
  clear HS2 hB5 hB6 hF2 hV2
  obtain ⟨s2, hs2⟩ : ∃ z, slI l false i = z := ⟨_, rfl⟩
  have HS3 := Lib.hid (select_any hV3 false i)
  rw [hs2] at HS3
  have HS4 : Hid (∀ W, BVec W 0 u (l.map (!·)) → Calls Try.prog 18 #[.pointer (some ⟨u, 0, none⟩), .bool true, .int .i64 i] W (IntBelow s2 W)) := fun W h => by
    have := select_any h true i
    rw [slI_not] at this
    simp only [Bool.not_true] at this
    rw [hs2] at this
    exact this
  clear hs2
  go_wp2_with fail
  go_at_call 18
  refine HS3.out.mono ?_
  rintro e w6 ⟨rfl, hB8⟩
  have hB9 := below_step hB7 hB8
  have hF4 := hF3.below hB8
  have hV4 := hV3.below hB8
  clear HS3 hB7 hB8 hF3 hV3
  go_wp2_with fail
  go_at_call 18
  refine (HS4.out _ hF4).mono ?_
  rintro e w7 ⟨rfl, hB10⟩
  have hB11 := below_step hB9 hB10
  have hF5 := hF4.below hB10
  have hV5 := hV4.below hB10
  clear HS4 hB9 hB10 hF4 hV4
  by_cases hneg : i < 0
  · go_wp2_with fail
    go_at_call 15
    refine (known_any _).mono ?_
    rintro e w8 ⟨rfl, hB12⟩
    go_wp2_with fail
    go_ret
    exact ⟨rfl, below_step hB11 hB12⟩
  obtain ⟨y, rfl⟩ : ∃ y : Nat, i = (y : Int) := ⟨i.toNat, by omega⟩
  by_cases hy : n ≤ y
  · go_wp2_with fail
    go_at_call 15
    refine (known_any _).mono ?_
    rintro e w8 ⟨rfl, hB12⟩
    go_wp2_with fail
    go_ret
    exact ⟨rfl, below_step hB11 hB12⟩
  have hG1 := bget_any hV5 (y : Int)
  have hG2 := bget_any hF5 (y : Int)
  rw [Int.toNat_natCast, show decide ((0 : Int) ≤ (y : Int)) = true by simp, Bool.true_and] at hG1 hG2
  rw [not_getD (by rw [HAl.out]; omega)] at hG2
  generalize l.getD y false = x at *
  have HG1 := Lib.hid hG1
  have HG2 := Lib.hid hG2
  clear hG1 hG2
  cases x
  all_goals
    go_wp2_with fail
    refine HG1.out.mono ?_
    rintro e w8 ⟨rfl, rfl⟩
    go_wp2_with fail
    refine HG2.out.mono ?_
    rintro e w8 ⟨rfl, rfl⟩
    go_wp2_with fail
    go_at_call 15
    refine (known_any _).mono ?_
    rintro e w8 ⟨rfl, hB12⟩
    go_wp2_with fail
    go_ret
    exact ⟨rfl, below_step hB11 hB12⟩

end Go.Proofs.Ytfgkkffgcgjhfaa
