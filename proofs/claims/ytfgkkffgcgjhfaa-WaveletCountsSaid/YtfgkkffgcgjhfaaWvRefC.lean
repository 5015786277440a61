/- haystackref4: Below. -/
import Derived.Test.YtfgkkffgcgjhfaaWvInts
namespace Go.Proofs.Ytfgkkffgcgjhfaa
set_option linter.unusedVariables false
set_option linter.unusedSimpArgs false
open Go.RowKit PkMath Pop Rank BtMath Wv

/-- how many of a part of a row of ints are below c -/
def cntZ (l : List Int) (c : Int) (a z : Nat) : Nat := ((seg l a z).filter (fun x => decide (x < c))).length
theorem cntZ_nil (l : List Int) (c : Int) (a z : Nat) (h : z ≤ a) : cntZ l c a z = 0 := by unfold cntZ; rw [seg_nil l a z h]; rfl
theorem segZ_succ (l : List Int) (a j : Nat) (h : a ≤ j) (hj : j < l.length) : seg l a (j + 1) = seg l a j ++ [l.getD j 0] := by
  unfold seg
  rw [List.take_succ_eq_append_getElem hj, List.drop_append_of_le_length (by rw [List.length_take]; omega)]
  simp [List.getD, List.getElem?_eq_getElem hj]
theorem cntZ_succ (l : List Int) (c : Int) (a j : Nat) (h : a ≤ j) (hj : j < l.length) : cntZ l c a (j + 1) = cntZ l c a j + if l.getD j 0 < c then 1 else 0 := by
  unfold cntZ
  rw [segZ_succ l a j h hj, List.filter_append, List.length_append]
  by_cases e : l.getD j 0 < c
  · rw [if_pos e, List.filter_cons_of_pos (by simpa using e)]; rfl
  · rw [if_neg e, List.filter_cons_of_neg (by simpa using e)]; rfl
theorem cntZ_le (l : List Int) (c : Int) (a z : Nat) : cntZ l c a z ≤ l.length := by
  unfold cntZ
  refine Nat.le_trans (List.length_filter_le _ _) ?_
  unfold seg
  rw [List.length_drop, List.length_take]
  omega
theorem cntZ_out (l : List Int) (c : Int) (a z y : Nat) (hz : l.length ≤ z) (hy : l.length ≤ y) : cntZ l c a z = cntZ l c a y := by
  unfold cntZ seg
  rw [List.take_of_length_le hz, List.take_of_length_le hy]
set_option maxHeartbeats 1000000 in
theorem refbelow4_any (w : World) (A : Option Addr) (n cap : Nat) (l : List Int) (hl : l.length = n) (hn : n ≤ 1048576) (hSl : Sl w A (VI l)) (c i z : Int) :
    Calls Try.prog 39 #[.slice A n cap, .int .i64 c, .int .i64 i, .int .i64 z] w fun e w' => e = .returned (.int .i64 ((cntZ l c i.toNat z.toNat : Nat) : Int)) ∧ w = w' := by
  have Hl := Lib.hid hl
  obtain ⟨a, ha⟩ : ∃ a, i.toNat = a := ⟨_, rfl⟩
  rw [ha]
  go_enter Try.func39, Try.ntmps39
  go_upto_region 2 with fail
  go_cut [10] (fun s wx => s = .int .i64 (a : Int) ∧ wx = w)
  case first =>
    by_cases h0 : i = 0
    · subst h0
      obtain rfl : a = 0 := by omega
      go_wp2_with fail
      go_meet
      case rel => exact ⟨rfl, rfl⟩
    · by_cases h1 : i < 0
      · obtain rfl : a = 0 := by omega
        clear h0 ha
        go_wp2_with fail
        go_meet
        case rel => exact ⟨rfl, rfl⟩
      · obtain rfl : i = (a : Int) := by omega
        have h2 : 0 < a := by omega
        clear h0 h1 ha
        go_wp2_with fail
        go_meet
        case rel => exact ⟨rfl, rfl⟩
  case rest =>
    obtain ⟨rfl, rfl⟩ := hcut
    clear ha hl
    go_wp2_with fail
    go_loopw [9, 10] (fun r q wr => ∃ j : Nat, a ≤ j ∧ (j = a ∨ (j ≤ z.toNat ∧ j ≤ n)) ∧ q = .int .i64 (j : Int) ∧ r = .int .i64 ((cntZ l c a j : Nat) : Int) ∧ wr = wc) (fun _ q _ => n - (intOf q).toNat)
    case atStart => exact ⟨a, Nat.le_refl _, .inl rfl, rfl, by rw [cntZ_nil _ _ _ _ (Nat.le_refl _)]; rfl, rfl⟩
    case round =>
      obtain ⟨j, haj, hjz, rfl, rfl, rfl⟩ := hrel
      have hcl := cntZ_le l c a j
      rw [Hl.out] at hcl
      by_cases hlt : (j : Int) < z
      · by_cases hltn : j < n
        · obtain ⟨b, rfl, hca⟩ := hSl.some (j := j) (by rw [VI_length, Hl.out]; exact hltn)
          rw [VI_get _ _ (by rw [Hl.out]; exact hltn)] at hca
          have hsucc := cntZ_succ l c a j haj (by rw [Hl.out]; exact hltn)
          generalize l.getD j 0 = x at *
          by_cases hx : x < c
          · rw [if_pos hx] at hsucc
            have Hsucc := Lib.hid hsucc
            clear hsucc hjz
            go_wp2
            refine ⟨⟨j + 1, by omega, .inr ⟨by omega, by omega⟩, rfl, by rw [Hsucc.out]; rfl, by first | rfl | trivial⟩, ?_⟩
            show n - ((j : Int) + 1).toNat < n - ((j : Int)).toNat
            omega
          · rw [if_neg hx] at hsucc
            have Hsucc := Lib.hid hsucc
            clear hsucc hjz
            go_wp2
            refine ⟨⟨j + 1, by omega, .inr ⟨by omega, by omega⟩, rfl, by rw [Hsucc.out]; rfl, by first | rfl | trivial⟩, ?_⟩
            show n - ((j : Int) + 1).toNat < n - ((j : Int)).toNat
            omega
        · have hr : cntZ l c a z.toNat = cntZ l c a j := cntZ_out l c a _ _ (by rw [Hl.out]; omega) (by rw [Hl.out]; omega)
          have Hr := Lib.hid hr
          clear hr hjz
          go_wp2
          go_ret
          exact ⟨by rw [Hr.out]; rfl, rfl⟩
      · have hr : cntZ l c a z.toNat = cntZ l c a j := by
          rcases hjz with rfl | ⟨h1, h2⟩
          · rw [cntZ_nil _ _ _ _ (by omega), cntZ_nil _ _ _ _ (Nat.le_refl _)]
          · have : z.toNat = j := by omega
            rw [this]
        have Hr := Lib.hid hr
        clear hr hjz
        go_wp2
        go_ret
        exact ⟨by rw [Hr.out]; rfl, rfl⟩
end Go.Proofs.Ytfgkkffgcgjhfaa
