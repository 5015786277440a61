/- The laws FmOfNothing, FmBytes, walked. -/
import Derived.Test.YtfjhcgmaignaoaaGreatFmKnown
import Derived.Test.YtfjhcgmaignaoaaGreatFmArg
namespace Go.Proofs.YtfjhcgmaignaoaaGreat
set_option maxRecDepth 100000
set_option linter.unusedVariables false
set_option linter.unusedSimpArgs false
set_option maxRecDepth 100000
open Go.RowKit Fm Rank
set_option maxHeartbeats 2000000 in
theorem locate_nil (A : Option Addr) (n cap : Nat) (w : World) : Calls Tryz.prog 23 #[.pointer none, .slice A n cap] w fun e w' => e = .returned (.slice none 0 0) ∧ Below w.heap.size w w' := by
  have HF := Lib.hid (find_nil A n cap w)
  go_enter Tryz.func23, Tryz.ntmps23
  go_wp2_with fail
  go_at_call 41
  refine HF.out.mono ?_
  rintro e w1 ⟨rfl, hB1⟩
  have HB1 := Lib.hid hB1
  have hS : Calls Tryz.prog 44 #[.slice none 0 0, .func (.func 45) #[] #[]] w1 fun e w' => e = .returned (.tuple #[]) ∧ w' = w1 := AnyF.slices_SortFunc_none Tryz.sortHit none 0 (.func (.func 45) #[] #[]) w1
  have HS := Lib.hid hS
  clear hS
  clear hB1
  go_wp2_with fail
  go_loopw [5, 8] (fun l q wr => l = .slice none 0 0 ∧ q = .int .i64 0 ∧ wr = w1) (fun _ _ _ => 0)
  case atStart => exact ⟨rfl, rfl, rfl⟩
  case round =>
    obtain ⟨rfl, rfl, rfl⟩ := hrel
    go_wp2_with fail
    go_at_call 44
    refine HS.out.mono ?_
    rintro e w2 ⟨rfl, hw2⟩
    subst hw2
    go_wp2_with fail
    go_ret
    exact ⟨rfl, HB1.out⟩
theorem turned_nil (w : World) : Calls Tryz.prog 15 #[.pointer none] w fun e w' => e = .returned (.slice none 0 0) ∧ w = w' := by
  have H := Lib.hid (whole_nil w)
  go_enter Tryz.func15, Tryz.ntmps15
  go_wp2_with (go_at_call 30; refine H.out.mono ?_; rintro e w' ⟨rfl, rfl⟩)
  go_ret
  exact ⟨rfl, rfl⟩
theorem extract_nil (d f k : Int) (w : World) : Calls Tryz.prog 26 #[.pointer none, .int .i64 d, .int .i64 f, .int .i64 k] w fun e w' => e = .returned (.slice none 0 0) ∧ w = w' := by
  have H := Lib.hid (len_nilx d w)
  by_cases h1 : f < 0
  · go_enter Tryz.func26, Tryz.ntmps26
    go_wp2_with (go_at_call 19; refine H.out.mono ?_; rintro e w' ⟨rfl, rfl⟩)
    go_ret
    exact ⟨rfl, rfl⟩
  by_cases h2 : k ≤ 0
  · go_enter Tryz.func26, Tryz.ntmps26
    go_wp2_with (go_at_call 19; refine H.out.mono ?_; rintro e w' ⟨rfl, rfl⟩)
    go_ret
    exact ⟨rfl, rfl⟩
  · have h3 : 0 ≤ f := by omega
    go_enter Tryz.func26, Tryz.ntmps26
    go_wp2_with (go_at_call 19; refine H.out.mono ?_; rintro e w' ⟨rfl, rfl⟩)
    go_ret
    exact ⟨rfl, rfl⟩
/-- what heavyRows says: rows that are let by are few -/
def Heavy (w : World) (ts : List (List Nat)) (e : Ending) (w' : World) : Prop := ∃ b : Bool, e = .returned (.bool b) ∧ w = w' ∧ (b = false → (body ts).length ≤ 800)
theorem heavy_any (w : World) (A : Option Addr) (n c : Nat) (ts : List (List Nat)) (hA : RArg w A n c ts) :
    Calls Tryz.prog 6 #[.slice A n c] w (Heavy w ts) := by
  have HA := Lib.hid hA
  have Hl := Lib.hid hA.len
  have hn := hA.nm
  have Hm := Lib.hid hA.lm
  clear hA
  go_enter Tryz.func6, Tryz.ntmps6
  go_wp2_with fail
  go_loop [3, 4] (fun s q => ∃ d m : Nat, d ≤ n ∧ q = .int .i64 (d : Int) ∧ s = .int .i64 (m : Int) ∧ (body (ts.take d)).length ≤ m ∧ m ≤ 800) (fun _ q => n - (intOf q).toNat)
  case atStart => exact ⟨0, 0, Nat.zero_le _, rfl, rfl, by simp [body], by omega⟩
  case round =>
    obtain ⟨d, m, hd, rfl, rfl, hbl, hm8⟩ := hrel
    by_cases hdn : d < n
    · obtain ⟨a, Ad, L, C, rfl, hcell, hL, hLC, hnil, hS⟩ := HA.out.row d hdn
      have hsu := congrArg List.length (body_take_succ ts d (by rw [Hl.out]; exact hdn))
      rw [List.length_append, txt_length, hL] at hsu
      have Hsu := Lib.hid hsu
      have hLm : L ≤ 9223372036854775807 := by
        rw [← hL]
        have hdl : d < ts.length := by rw [Hl.out]; exact hdn
        refine Hm.out _ ?_
        rw [getD_in2 hdl]
        exact List.getElem_mem hdl
      clear hsu hL hS
      generalize (body (ts.take d)).length = bl at *
      by_cases h1 : 800 < L
      · go_wp2_with fail
        go_ret
        exact ⟨true, rfl, rfl, fun h => (by cases h)⟩
      · by_cases h2 : 800 < m + 3 + L
        · have h3 : (800 : Int) < (m : Int) + 3 + (L : Int) := by omega
          go_wp2_with fail
          go_ret
          exact ⟨true, rfl, rfl, fun h => (by cases h)⟩
        · have h3 : ¬ (800 : Int) < (m : Int) + 3 + (L : Int) := by omega
          go_wp2_with fail
          go_round
          case rel => exact ⟨d + 1, m + 3 + L, by omega, by go_num, congrArg (Value.int .i64) (by omega), by have := Hsu.out; omega, by omega⟩
          case measure => simp [intOf]; omega
    · obtain rfl : n = d := by omega
      have Hbl := Lib.hid hbl
      have htk : ts.take n = ts := by rw [← Hl.out]; exact List.take_length
      rw [htk] at Hbl
      clear hbl htk
      go_wp2_with fail
      go_ret
      exact ⟨false, rfl, rfl, fun _ => by have := Hbl.out; omega⟩
end Go.Proofs.YtfjhcgmaignaoaaGreat
