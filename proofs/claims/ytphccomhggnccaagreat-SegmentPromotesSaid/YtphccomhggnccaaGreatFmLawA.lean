/- The laws FmOfNothing, FmBytes, walked. -/
import Derived.Test.YtphccomhggnccaaGreatFmKnown
import Derived.Test.YtphccomhggnccaaGreatFmArg
namespace Go.Proofs.YtphccomhggnccaaGreat
set_option maxRecDepth 100000
set_option linter.unusedVariables false
set_option linter.unusedSimpArgs false
set_option maxRecDepth 100000
open Go.RowKit Fm Rank
set_option maxHeartbeats 2000000 in
theorem locate_nil (A : Option Addr) (n cap : Nat) (w : World) : Calls Tryz.prog 20 #[.pointer none, .slice A n cap] w fun e w' => e = .returned (.slice none 0 0) ∧ Below w.heap.size w w' := by
  have HF := Lib.hid (find_nil A n cap w)
  go_enter Tryz.func20, Tryz.ntmps20
  go_wp2_with fail
  go_at_call 56
  refine HF.out.mono ?_
  rintro e w1 ⟨rfl, hB1⟩
  have HB1 := Lib.hid hB1
  have hS : Calls Tryz.prog 59 #[.slice none 0 0, .func (.func 60) #[] #[]] w1 fun e w' => e = .returned (.tuple #[]) ∧ w' = w1 := AnyF.slices_SortFunc_none Tryz.sortHit none 0 (.func (.func 60) #[] #[]) w1
  have HS := Lib.hid hS
  clear hS
  clear hB1
  go_wp2_with fail
  go_loopw [5, 8] (fun l q wr => l = .slice none 0 0 ∧ q = .int .i64 0 ∧ wr = w1) (fun _ _ _ => 0)
  case atStart => exact ⟨rfl, rfl, rfl⟩
  case round =>
    obtain ⟨rfl, rfl, rfl⟩ := hrel
    go_wp2_with fail
    go_at_call 59
    refine HS.out.mono ?_
    rintro e w2 ⟨rfl, hw2⟩
    subst hw2
    go_wp2_with fail
    go_ret
    exact ⟨rfl, HB1.out⟩
theorem turned_nil (w : World) : Calls Tryz.prog 106 #[.pointer none] w fun e w' => e = .returned (.slice none 0 0) ∧ w = w' := by
  have H := Lib.hid (whole_nil w)
  go_enter Tryz.func106, Tryz.ntmps106
  go_wp2_with (go_at_call 64; refine H.out.mono ?_; rintro e w' ⟨rfl, rfl⟩)
  go_ret
  exact ⟨rfl, rfl⟩
theorem extract_nil (d f k : Int) (w : World) : Calls Tryz.prog 24 #[.pointer none, .int .i64 d, .int .i64 f, .int .i64 k] w fun e w' => e = .returned (.slice none 0 0) ∧ w = w' := by
  have H := Lib.hid (len_nilx d w)
  by_cases h1 : f < 0
  · go_enter Tryz.func24, Tryz.ntmps24
    go_wp2_with (go_at_call 65; refine H.out.mono ?_; rintro e w' ⟨rfl, rfl⟩)
    go_ret
    exact ⟨rfl, rfl⟩
  by_cases h2 : k ≤ 0
  · go_enter Tryz.func24, Tryz.ntmps24
    go_wp2_with (go_at_call 65; refine H.out.mono ?_; rintro e w' ⟨rfl, rfl⟩)
    go_ret
    exact ⟨rfl, rfl⟩
  · have h3 : 0 ≤ f := by omega
    go_enter Tryz.func24, Tryz.ntmps24
    go_wp2_with (go_at_call 65; refine H.out.mono ?_; rintro e w' ⟨rfl, rfl⟩)
    go_ret
    exact ⟨rfl, rfl⟩
/-- what heavyRows says: rows that are let by are few -/
def Heavy (w : World) (ts : List (List Nat)) (e : Ending) (w' : World) : Prop := ∃ b : Bool, e = .returned (.bool b) ∧ w = w' ∧ (b = false → (body ts).length ≤ 800)
end Go.Proofs.YtphccomhggnccaaGreat
