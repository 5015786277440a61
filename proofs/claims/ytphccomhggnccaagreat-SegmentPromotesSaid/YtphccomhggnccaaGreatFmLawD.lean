/- The law FmTexts, walked. -/
import Derived.Test.YtphccomhggnccaaGreatFmExt
namespace Go.Proofs.YtphccomhggnccaaGreat
set_option maxRecDepth 100000
set_option linter.unusedVariables false
set_option linter.unusedSimpArgs false
set_option maxRecDepth 100000
open Go.RowKit Fm Rank
theorem extract_big {w : World} {base x : Nat} {ts : List (List Nat)} {sa : List Nat} (h : IdxM w base x (rowT ts) sa) (d f : Nat) (n : Int) (hd : d < ts.length) (hf : (ts.getD d []).length ≤ f) (hn : 0 < n) :
    Calls Tryz.prog 24 #[.pointer (some ⟨x, 0, none⟩), .int .i64 (d : Int), .int .i64 (f : Int), .int .i64 n] w fun e w' => e = .returned (.slice none 0 0) ∧ ∃ q, w' = w.drewN q := by
  have HLen := Lib.hid (lenT h d hd)
  generalize (ts.getD d []).length = L at *
  clear h
  go_enter Tryz.func24, Tryz.ntmps24
  go_wp2_with fail
  go_at_call 65
  refine HLen.out.mono ?_
  rintro e w' ⟨rfl, q0, rfl⟩
  go_wp2_with fail
  go_ret
  exact ⟨rfl, q0, rfl⟩
/-- all of a text, and more -/
def Whole (w : World) (t : List Nat) (e : Ending) (w' : World) : Prop := ∃ A c, e = .returned (.slice A t.length c) ∧ Sl w' A (VY t) ∧ Below w.heap.size w w'
theorem extract_whole {w : World} {base x : Nat} {ts : List (List Nat)} {sa : List Nat} (h : IdxM w base x (rowT ts) sa) (hlt : ∀ t ∈ ts, ∀ b ∈ t, b < 256) (d : Nat) (hd : d < ts.length) :
    Calls Tryz.prog 24 #[.pointer (some ⟨x, 0, none⟩), .int .i64 (d : Int), .int .i64 0, .int .i64 (((ts.getD d []).length : Int) + 5)] w (Whole w (ts.getD d [])) := by
  by_cases h0 : (ts.getD d []).length = 0
  · refine (extract_big h d 0 _ hd (by omega) (by omega)).mono ?_
    rintro e w' ⟨rfl, q, rfl⟩
    have e1 := List.eq_nil_of_length_eq_zero h0
    rw [e1]
    exact ⟨none, 0, rfl, sl_nil _, below_drewN _ _ _⟩
  · refine (extract_in h hlt d 0 (ts.getD d []).length (((ts.getD d []).length : Int) + 5) hd (by omega) (by omega) (by omega)).mono ?_
    rintro e w' ⟨g, he, hg, hb, hB⟩
    rw [List.drop_zero, List.take_length] at he hb
    exact ⟨_, _, he, sl_blk hb, hB⟩
theorem RArg.lit {w : World} {A : Option Addr} {n c : Nat} {ts : List (List Nat)} (h : RArg w A n c ts) (hn : 0 < n) : ∃ b off, A = some ⟨b, off, none⟩ ∧
    ∀ d, d < n → ∃ Ad L C, w.cell? ⟨b, off + d, none⟩ = some (.slice Ad L C) ∧ (ts.getD d []).length = L ∧ L ≤ C ∧ (Ad = none → C = 0) ∧ Sl w Ad (VY (ts.getD d [])) := by
  obtain ⟨a, Ad, L, C, rfl, h2, _⟩ := h.row 0 hn
  have hsp : a.spot = none := by
    have := World.cell?_spot h2
    simpa [Addr.add] using this
  obtain ⟨b, off, sp⟩ := a
  simp only at hsp
  subst hsp
  refine ⟨b, off, rfl, fun d hd => ?_⟩
  obtain ⟨a', Ad', L', C', ha, h2', h3, h4, h5, h6⟩ := h.row d hd
  cases ha
  refine ⟨Ad', L', C', ?_, h3, h4, h5, h6⟩
  rwa [show (⟨b, off, none⟩ : Addr).add d = ⟨b, off + d, none⟩ by unfold Addr.add; split <;> simp_all] at h2'
theorem keep1DN {w2 : World} {a : Addr} {v : Value} (h : w2.cell? a = some v) (q : Nat) : (w2.drewN q).cell? a = some v ∧ Below w2.heap.size w2 (w2.drewN q) := ⟨h, rfl, rfl, rfl, Nat.le_refl _, fun _ _ => rfl⟩
theorem keep1D {w2 : World} {a : Addr} {v : Value} (h : w2.cell? a = some v) : w2.drew.cell? a = some v ∧ Below w2.heap.size w2 w2.drew := ⟨h, rfl, rfl, rfl, Nat.le_refl _, fun _ _ => rfl⟩
theorem keep1N {w2 W : World} {a : Addr} {v : Value} (h : W.cell? a = some v ∧ Below w2.heap.size w2 W) (q : Nat) : (W.drewN q).cell? a = some v ∧ Below w2.heap.size w2 (W.drewN q) := ⟨h.1, h.2.trans (below_drewN _ W q)⟩
theorem keep1K {w2 W W' : World} {a : Addr} {v : Value} (h : W.cell? a = some v ∧ Below w2.heap.size w2 W) (k : Below W.heap.size W W') : W'.cell? a = some v ∧ Below w2.heap.size w2 W' :=
  ⟨(World.cell?_of_block (k.block _ (World.block_lt_of_cell? W _ h.1))).trans h.1, below_step h.2 k⟩
end Go.Proofs.YtphccomhggnccaaGreat
