/- The laws FmOfNothing, FmBytes, walked. -/
import Derived.Test.YtfjhcgmaignaoaaFmKnown
import Derived.Test.YtfjhcgmaignaoaaFmArg
namespace Go.Proofs.Ytfjhcgmaignaoaa
set_option linter.unusedVariables false
set_option linter.unusedSimpArgs false
set_option maxRecDepth 100000
open Go.RowKit Fm Rank

set_option maxHeartbeats 2000000 in
theorem locate_nil (A : Option Addr) (n cap : Nat) (w : World) : Calls Try.prog 13 #[.pointer none, .slice A n cap] w fun e w' => e = .returned (.slice none 0 0) ∧ Below w.heap.size w w' := by
  have HF := Lib.hid (find_nil A n cap w)
  go_enter Try.func13, Try.ntmps13
  go_wp2_with fail
  go_at_call 21
  refine HF.out.mono ?_
  rintro e w1 ⟨rfl, hB1⟩
  have HB1 := Lib.hid hB1
  have hS : Calls Try.prog 24 #[.slice none 0 0, .func (.func 25) #[] #[]] w1 fun e w' => e = .returned (.tuple #[]) ∧ w' = w1 := AnyF.slices_SortFunc_none Try.sortHit none 0 (.func (.func 25) #[] #[]) w1
  have HS := Lib.hid hS
  clear hS
  clear hB1
  go_wp2_with fail
  go_loopw [5, 8] (fun l q wr => l = .slice none 0 0 ∧ q = .int .i64 0 ∧ wr = w1) (fun _ _ _ => 0)
  case atStart => exact ⟨rfl, rfl, rfl⟩
  case round =>
    obtain ⟨rfl, rfl, rfl⟩ := hrel
    go_wp2_with fail
    go_at_call 24
    refine HS.out.mono ?_
    rintro e w2 ⟨rfl, hw2⟩
    subst hw2
    go_wp2_with fail
    go_ret
    exact ⟨rfl, HB1.out⟩
theorem turned_nil (w : World) : Calls Try.prog 18 #[.pointer none] w fun e w' => e = .returned (.slice none 0 0) ∧ w = w' := by
  have H := Lib.hid (whole_nil w)
  go_enter Try.func18, Try.ntmps18
  go_wp2_with (go_at_call 31; refine H.out.mono ?_; rintro e w' ⟨rfl, rfl⟩)
  go_ret
  exact ⟨rfl, rfl⟩
theorem extract_nil (d f k : Int) (w : World) : Calls Try.prog 16 #[.pointer none, .int .i64 d, .int .i64 f, .int .i64 k] w fun e w' => e = .returned (.slice none 0 0) ∧ w = w' := by
  have H := Lib.hid (len_nilx d w)
  by_cases h1 : f < 0
  · go_enter Try.func16, Try.ntmps16
    go_wp2_with (go_at_call 14; refine H.out.mono ?_; rintro e w' ⟨rfl, rfl⟩)
    go_ret
    exact ⟨rfl, rfl⟩
  by_cases h2 : k ≤ 0
  · go_enter Try.func16, Try.ntmps16
    go_wp2_with (go_at_call 14; refine H.out.mono ?_; rintro e w' ⟨rfl, rfl⟩)
    go_ret
    exact ⟨rfl, rfl⟩
  · have h3 : 0 ≤ f := by omega
    go_enter Try.func16, Try.ntmps16
    go_wp2_with (go_at_call 14; refine H.out.mono ?_; rintro e w' ⟨rfl, rfl⟩)
    go_ret
    exact ⟨rfl, rfl⟩
set_option maxHeartbeats 2000000 in
theorem lawNothing7 (A : Option Addr) (n c : Nat) (i : Int) (w : World) : Calls Try.prog 8 #[.slice A n c, .int .i64 i] w (TrueBelow w) := by
  by_cases h0 : 800 < n
  · go_enter Try.func8, Try.ntmps8
    go_wp2_with fail
    go_ret
    exact ⟨rfl, Below.refl _ _⟩
  have h1 := Lib.hid (count_nil A n c w)
  have h2 := Lib.hid (fun w => locate_nil A n c w)
  have h3 := Lib.hid (fun w => docs_nil w)
  have h4 := Lib.hid (fun w => len_nilx i w)
  have h5 := Lib.hid (fun w => extract_nil i i i w)
  have h6 := Lib.hid (fun w => turned_nil w)
  have h7 := Lib.hid (fun w => known_any w)
  go_enter Try.func8, Try.ntmps8
  go_wp2_with fail
  go_at_call 12
  refine h1.out.mono ?_
  rintro e w1 ⟨rfl, hB1⟩
  have HB1 := Lib.hid hB1
  clear hB1
  go_wp2_with fail
  go_at_call 13
  refine (h2.out _).mono ?_
  rintro e w2 ⟨rfl, hB2⟩
  have HB2 := Lib.hid (below_step HB1.out hB2)
  clear hB2
  go_wp2_with (first | (go_at_call 17; refine (h3.out _).mono ?_; rintro e w' ⟨rfl, rfl⟩) | (go_at_call 14; refine (h4.out _).mono ?_; rintro e w' ⟨rfl, rfl⟩) | (go_at_call 16; refine (h5.out _).mono ?_; rintro e w' ⟨rfl, rfl⟩) | (go_at_call 18; refine (h6.out _).mono ?_; rintro e w' ⟨rfl, rfl⟩))
  refine (h7.out _).mono ?_
  rintro e w3 ⟨rfl, hB3⟩
  have HB3 := Lib.hid (below_step HB2.out hB3)
  clear hB3
  go_wp2_with fail
  go_ret
  exact ⟨rfl, HB3.out⟩
/-- what heavyRows says: rows that are let by are few -/
def Heavy (w : World) (ts : List (List Nat)) (e : Ending) (w' : World) : Prop := ∃ b : Bool, e = .returned (.bool b) ∧ w = w' ∧ (b = false → (body ts).length ≤ 800)
theorem heavy_any (w : World) (A : Option Addr) (n c : Nat) (ts : List (List Nat)) (hA : RArg w A n c ts) :
    Calls Try.prog 11 #[.slice A n c] w (Heavy w ts) := by
  have HA := Lib.hid hA
  have Hl := Lib.hid hA.len
  have hn := hA.nm
  have Hm := Lib.hid hA.lm
  clear hA
  go_enter Try.func11, Try.ntmps11
  go_wp2_with fail
  go_loop [3, 4] (fun s q => ∃ d m : Nat, d ≤ n ∧ q = .int .i64 (d : Int) ∧ s = .int .i64 (m : Int) ∧ (body (ts.take d)).length ≤ m ∧ m ≤ 800) (fun _ q => n - (intOf q).toNat)
  case atStart => exact ⟨0, 0, Nat.zero_le _, rfl, rfl, by simp [body], by omega⟩
  case round =>
    obtain ⟨d, m, hd, rfl, rfl, hbl, hm8⟩ := hrel
    by_cases hdn : d < n
    · obtain ⟨a, Ad, L, C, rfl, hcell, hL, hLC, hnil, hS⟩ := HA.out.row d hdn
      have hsu := congrArg List.length (body_take_succ ts d (by rw [Hl.out]; exact hdn))
      rw [List.length_append, txt_length, hL] at hsu
      have Hsu := Lib.hid hsu
      have hLm : L ≤ 9223372036854775807 := by
        rw [← hL]
        have hdl : d < ts.length := by rw [Hl.out]; exact hdn
        refine Hm.out _ ?_
        rw [getD_in2 hdl]
        exact List.getElem_mem hdl
      clear hsu hL hS
      generalize (body (ts.take d)).length = bl at *
      by_cases h1 : 800 < L
      · go_wp2_with fail
        go_ret
        exact ⟨true, rfl, rfl, fun h => (by cases h)⟩
      · by_cases h2 : 800 < m + 3 + L
        · have h3 : (800 : Int) < (m : Int) + 3 + (L : Int) := by omega
          go_wp2_with fail
          go_ret
          exact ⟨true, rfl, rfl, fun h => (by cases h)⟩
        · have h3 : ¬ (800 : Int) < (m : Int) + 3 + (L : Int) := by omega
          go_wp2_with fail
          go_round
          case rel => exact ⟨d + 1, m + 3 + L, by omega, by go_num, congrArg (Value.int .i64) (by omega), by have := Hsu.out; omega, by omega⟩
          case measure => simp [intOf]; omega
    · obtain rfl : n = d := by omega
      have Hbl := Lib.hid hbl
      have htk : ts.take n = ts := by rw [← Hl.out]; exact List.take_length
      rw [htk] at Hbl
      clear hbl htk
      go_wp2_with fail
      go_ret
      exact ⟨false, rfl, rfl, fun _ => by have := Hbl.out; omega⟩
end Go.Proofs.Ytfjhcgmaignaoaa
