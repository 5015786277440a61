/- fm: find of nothing, Count. -/
import Derived.Test.YtphccomhggnccaaGreatFmFind
namespace Go.Proofs.YtphccomhggnccaaGreat
set_option linter.unusedVariables false
set_option linter.unusedSimpArgs false
set_option maxRecDepth 100000
open Go.RowKit Fm Rank

/-- the places at which bytes stand; nothing stands nowhere -/
def occP (s p : List Nat) : List Nat := if p = [] then [] else occ s (p.map (· + 2))
def FindAll (w : World) (s p : List Nat) (e : Ending) (w' : World) : Prop :=
  ∃ f t : Nat, e = .returned (.tuple #[.int .i64 (f : Int), .int .i64 (t : Int)]) ∧ ((p ≠ [] ∧ f < t ∧ f = cnt s (cut false · (p.map (· + 2))) ∧ t = cnt s (cut true · (p.map (· + 2)))) ∨ (f = 0 ∧ t = 0 ∧ occP s p = [])) ∧ Below w.heap.size w w'

def Zero2 (w : World) (e : Ending) (w' : World) : Prop := e = .returned (.tuple #[.int .i64 0, .int .i64 0]) ∧ Below w.heap.size w w'
set_option maxHeartbeats 2000000 in
theorem find_nil (A : Option Addr) (n cap : Nat) (w : World) : Calls Tryz.prog 56 #[.pointer none, .slice A n cap] w (Zero2 w) := by
  have H := Lib.hid (fun w => whole_nil w)
  go_enter Tryz.func56, Tryz.ntmps56
  go_wp2_with fail
  go_at_call 64
  refine (H.out _).mono ?_
  rintro e w' ⟨rfl, rfl⟩
  go_wp2_with fail
  refine bodyPost_ret (v := .tuple #[.int .i64 0, .int .i64 0]) ?_ rfl ⟨rfl, (((Below.refl _ w).alloc (Nat.le_refl _) _).alloc (by simp) _).alloc (by simp; omega) _⟩
  simp [results, Tryz.results56, go_sem]
set_option maxHeartbeats 2000000 in
theorem find_empty (x t cap : Nat) (A : Option Addr) (w : World) (h0 : w.cell? ⟨x, 0, none⟩ = some (.pointer (some ⟨t, 0, none⟩))) : Calls Tryz.prog 56 #[.pointer (some ⟨x, 0, none⟩), .slice A 0 cap] w (Zero2 w) := by
  have H := Lib.hid (fun (W : World) (hB : Below w.heap.size w W) => whole_any x t W ((hB.cell (p := ⟨x, 0, none⟩) (World.block_lt_of_cell? w _ h0)).trans h0))
  go_enter Tryz.func56, Tryz.ntmps56
  go_wp2_with fail
  go_at_call 64
  refine (H.out _ ((((Below.refl _ w).alloc (Nat.le_refl _) _).alloc (by simp) _).alloc (by simp; omega) _)).mono ?_
  rintro e w' ⟨rfl, rfl⟩
  go_wp2_with fail
  refine bodyPost_ret (v := .tuple #[.int .i64 0, .int .i64 0]) ?_ rfl ⟨rfl, (((Below.refl _ w).alloc (Nat.le_refl _) _).alloc (by simp) _).alloc (by simp; omega) _⟩
  simp [results, Tryz.results56, go_sem]
theorem find_all {w : World} {base x : Nat} {s sa : List Nat} (h : IdxM w base x s sa) (A : Option Addr) (n cap : Nat) (p : List Nat) (hA : Sl w A (VY p)) (hl : p.length = n) (hn : n ≤ 1099511627776) (hb : ∀ c ∈ p, c < 256) :
    Calls Tryz.prog 56 #[.pointer (some ⟨x, 0, none⟩), .slice A n cap] w (FindAll w s p) := by
  by_cases hp : p = []
  · subst hp
    obtain rfl : 0 = n := hl
    obtain ⟨h1, h2, h3, h4, h5, tr, g3, y, yc, mb, pb, pg, kk, rb, r, b1, b2, b3, b4, b5, c0, _⟩ := h
    exact (find_empty x tr cap A w ((cell_blk c0 0).trans rfl)).mono fun e w' ⟨he, hB⟩ => ⟨0, 0, he, .inr ⟨rfl, rfl, rfl⟩, hB⟩
  · refine (find_any h A n cap p hA hl hn hp hb).mono ?_
    rintro e w' ⟨f, t, rfl, h1, hB⟩
    refine ⟨f, t, rfl, ?_, hB⟩
    rcases h1 with ⟨h1, h2, h3⟩ | ⟨h1, h2, h3⟩
    · exact .inl ⟨hp, h1, h2, h3⟩
    · exact .inr ⟨h1, h2, by unfold occP; rw [if_neg hp]; exact h3⟩
theorem find_len {s sa p : List Nat} (h : IsSA s sa) {f t : Nat} (hf : (p ≠ [] ∧ f < t ∧ f = cnt s (cut false · (p.map (· + 2))) ∧ t = cnt s (cut true · (p.map (· + 2)))) ∨ (f = 0 ∧ t = 0 ∧ occP s p = [])) : f ≤ t ∧ t ≤ s.length ∧ t - f = (occP s p).length := by
  rcases hf with ⟨hp, h1, rfl, rfl⟩ | ⟨rfl, rfl, h3⟩
  · refine ⟨by omega, cnt_le _ _, ?_⟩
    unfold occP
    rw [if_neg hp, occ_count]
    omega
  · refine ⟨Nat.le_refl _, Nat.zero_le _, ?_⟩
    rw [h3]; rfl
set_option maxHeartbeats 2000000 in
theorem count_any {w : World} {base x : Nat} {s sa : List Nat} (h : IdxM w base x s sa) (A : Option Addr) (n cap : Nat) (p : List Nat) (hA : Sl w A (VY p)) (hl : p.length = n) (hn : n ≤ 1099511627776) (hb : ∀ c ∈ p, c < 256) :
    Calls Tryz.prog 22 #[.pointer (some ⟨x, 0, none⟩), .slice A n cap] w fun e w' => e = .returned (.int .i64 (((occP s p).length : Nat) : Int)) ∧ Below w.heap.size w w' := by
  have H := Lib.hid (find_all h A n cap p hA hl hn hb)
  have HO := Lib.hid h.ord
  have hsl := h.len
  clear h hA hl hb
  go_enter Tryz.func22, Tryz.ntmps22
  go_wp2_with fail
  go_at_call 56
  refine H.out.mono ?_
  rintro e w' ⟨f, t, rfl, hf, hB⟩
  obtain ⟨h1, h2, h3⟩ := find_len HO.out hf
  have HB := Lib.hid hB
  have H3 := Lib.hid h3
  clear hf hB h3
  have e1 : IntKind.i64.wrap ((t : Int) - (f : Int)) = ((t - f : Nat) : Int) := by rw [IntWalk.i64_in _ (by omega)]; omega
  go_wp2_with fail
  go_ret
  exact ⟨ret_int (by have := H3.out; omega), HB.out⟩
set_option maxHeartbeats 2000000 in
theorem count_nil (A : Option Addr) (n cap : Nat) (w : World) : Calls Tryz.prog 22 #[.pointer none, .slice A n cap] w fun e w' => e = .returned (.int .i64 0) ∧ Below w.heap.size w w' := by
  have H := Lib.hid (find_nil A n cap w)
  go_enter Tryz.func22, Tryz.ntmps22
  go_wp2_with fail
  go_at_call 56
  refine H.out.mono ?_
  rintro e w' ⟨rfl, hB⟩
  have HB := Lib.hid hB
  clear hB
  go_wp2_with fail
  go_ret
  exact ⟨rfl, HB.out⟩
end Go.Proofs.YtphccomhggnccaaGreat
