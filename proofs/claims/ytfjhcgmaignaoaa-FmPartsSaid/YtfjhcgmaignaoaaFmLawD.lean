/- The law FmTexts, walked. -/
import Derived.Test.YtfjhcgmaignaoaaFmExt
namespace Go.Proofs.Ytfjhcgmaignaoaa
set_option linter.unusedVariables false
set_option linter.unusedSimpArgs false
set_option maxRecDepth 100000
open Go.RowKit Fm Rank

theorem extract_big {w : World} {base x : Nat} {ts : List (List Nat)} {sa : List Nat} (h : IdxM w base x (rowT ts) sa) (d f : Nat) (n : Int) (hd : d < ts.length) (hf : (ts.getD d []).length ≤ f) (hn : 0 < n) :
    Calls Try.prog 16 #[.pointer (some ⟨x, 0, none⟩), .int .i64 (d : Int), .int .i64 (f : Int), .int .i64 n] w fun e w' => e = .returned (.slice none 0 0) ∧ ∃ q, w' = w.drewN q := by
  have HLen := Lib.hid (lenT h d hd)
  generalize (ts.getD d []).length = L at *
  clear h
  go_enter Try.func16, Try.ntmps16
  go_wp2_with fail
  go_at_call 14
  refine HLen.out.mono ?_
  rintro e w' ⟨rfl, q0, rfl⟩
  go_wp2_with fail
  go_ret
  exact ⟨rfl, q0, rfl⟩
/-- all of a text, and more -/
def Whole (w : World) (t : List Nat) (e : Ending) (w' : World) : Prop := ∃ A c, e = .returned (.slice A t.length c) ∧ Sl w' A (VY t) ∧ Below w.heap.size w w'
theorem extract_whole {w : World} {base x : Nat} {ts : List (List Nat)} {sa : List Nat} (h : IdxM w base x (rowT ts) sa) (hlt : ∀ t ∈ ts, ∀ b ∈ t, b < 256) (d : Nat) (hd : d < ts.length) :
    Calls Try.prog 16 #[.pointer (some ⟨x, 0, none⟩), .int .i64 (d : Int), .int .i64 0, .int .i64 (((ts.getD d []).length : Int) + 5)] w (Whole w (ts.getD d [])) := by
  by_cases h0 : (ts.getD d []).length = 0
  · refine (extract_big h d 0 _ hd (by omega) (by omega)).mono ?_
    rintro e w' ⟨rfl, q, rfl⟩
    have e1 := List.eq_nil_of_length_eq_zero h0
    rw [e1]
    exact ⟨none, 0, rfl, sl_nil _, below_drewN _ _ _⟩
  · refine (extract_in h hlt d 0 (ts.getD d []).length (((ts.getD d []).length : Int) + 5) hd (by omega) (by omega) (by omega)).mono ?_
    rintro e w' ⟨g, he, hg, hb, hB⟩
    rw [List.drop_zero, List.take_length] at he hb
    exact ⟨_, _, he, sl_blk hb, hB⟩
theorem RArg.lit {w : World} {A : Option Addr} {n c : Nat} {ts : List (List Nat)} (h : RArg w A n c ts) (hn : 0 < n) : ∃ b off, A = some ⟨b, off, none⟩ ∧
    ∀ d, d < n → ∃ Ad L C, w.cell? ⟨b, off + d, none⟩ = some (.slice Ad L C) ∧ (ts.getD d []).length = L ∧ L ≤ C ∧ (Ad = none → C = 0) ∧ Sl w Ad (VY (ts.getD d [])) := by
  obtain ⟨a, Ad, L, C, rfl, h2, _⟩ := h.row 0 hn
  have hsp : a.spot = none := by
    have := World.cell?_spot h2
    simpa [Addr.add] using this
  obtain ⟨b, off, sp⟩ := a
  simp only at hsp
  subst hsp
  refine ⟨b, off, rfl, fun d hd => ?_⟩
  obtain ⟨a', Ad', L', C', ha, h2', h3, h4, h5, h6⟩ := h.row d hd
  cases ha
  refine ⟨Ad', L', C', ?_, h3, h4, h5, h6⟩
  rwa [show (⟨b, off, none⟩ : Addr).add d = ⟨b, off + d, none⟩ by unfold Addr.add; split <;> simp_all] at h2'
theorem keep1DN {w2 : World} {a : Addr} {v : Value} (h : w2.cell? a = some v) (q : Nat) : (w2.drewN q).cell? a = some v ∧ Below w2.heap.size w2 (w2.drewN q) := ⟨h, rfl, rfl, rfl, Nat.le_refl _, fun _ _ => rfl⟩
theorem keep1D {w2 : World} {a : Addr} {v : Value} (h : w2.cell? a = some v) : w2.drew.cell? a = some v ∧ Below w2.heap.size w2 w2.drew := ⟨h, rfl, rfl, rfl, Nat.le_refl _, fun _ _ => rfl⟩
theorem keep1N {w2 W : World} {a : Addr} {v : Value} (h : W.cell? a = some v ∧ Below w2.heap.size w2 W) (q : Nat) : (W.drewN q).cell? a = some v ∧ Below w2.heap.size w2 (W.drewN q) := ⟨h.1, h.2.trans (below_drewN _ W q)⟩
theorem keep1K {w2 W W' : World} {a : Addr} {v : Value} (h : W.cell? a = some v ∧ Below w2.heap.size w2 W) (k : Below W.heap.size W W') : W'.cell? a = some v ∧ Below w2.heap.size w2 W' :=
  ⟨(World.cell?_of_block (k.block _ (World.block_lt_of_cell? W _ h.1))).trans h.1, below_step h.2 k⟩
set_option maxHeartbeats 4000000 in
theorem lawTexts (A : Option Addr) (n c : Nat) (ts : List (List Nat)) (w : World) (hA : RArg w A n c ts) :
    Calls Try.prog 7 #[.slice A n c] w (TrueBelow w) := by
  have HH := Lib.hid (heavy_any w A n c ts hA)
  have hnm := hA.nm
  have HA := Lib.hid hA
  have Hl := Lib.hid hA.len
  have HK := Lib.hid (fun w => known_any w)
  clear hA
  go_enter Try.func7, Try.ntmps7
  go_wp2_with fail
  go_at_call 11
  refine HH.out.mono ?_
  rintro e w' ⟨hv, rfl, rfl, hbl⟩
  cases hv with
  | true =>
    go_wp2_with fail
    go_ret
    exact ⟨rfl, Below.refl _ _⟩
  | false =>
    have hbl := hbl rfl
    have hn : n ≤ 800 := by have := len_le_body ts; have := Hl.out; omega
    clear hnm
    by_cases h60 : 60 < n
    · go_wp2_with fail
      go_ret
      exact ⟨rfl, Below.refl _ _⟩
    have Hbl := Lib.hid hbl
    have HBd := Lib.hid (build_ok w A n c ts HA.out (by omega) (by rw [rowT_length]; omega))
    clear HH hbl
    go_wp2_with fail
    go_at_call 10
    refine HBd.out.mono ?_
    rintro e w4 ⟨x, sa, rfl, hI, hB4⟩
    have HI := Lib.hid hI
    have HB4 := Lib.hid hB4
    have HD := Lib.hid (docsT hI)
    rw [Hl.out] at HD
    clear hI hB4 HBd
    go_wp2_with fail
    go_at_call 17
    refine HD.out.mono ?_
    rintro e w' ⟨rfl, rfl⟩
    go_wp2_with fail
    go_loopw [5] (fun q wr => ∃ d : Nat, d ≤ n ∧ q = .int .i64 (d : Int) ∧ Hid (Below w4.heap.size w4 wr)) (fun q _ => n - (intOf q).toNat)
    case atStart => exact ⟨0, Nat.zero_le _, rfl, Lib.hid (Below.refl _ _)⟩
    case round =>
      obtain ⟨d, hd, rfl, HB⟩ := hrel
      by_cases hdn : d < n
      · have HBw := Lib.hid (below_step HB4.out HB.out)
        have HI2 := Lib.hid (HI.out.below HB.out)
        have hdt : d < ts.length := by rw [Hl.out]; exact hdn
        obtain ⟨ab, ao, rfl, hrows⟩ := HA.out.lit (by omega)
        obtain ⟨Ad, L, C, hcell1, hL, hLC, hnil, hS⟩ := hrows d hdn
        have hcell := (World.cell?_of_block (HBw.out.block _ (World.block_lt_of_cell? w _ hcell1))).trans hcell1
        have hLm : L ≤ 800 := by
          have h1 := congrArg List.length (body_take_succ ts d hdt)
          have h2 := body_take_le ts (d + 1)
          have h3 := Hbl.out
          rw [List.length_append, txt_length, hL] at h1
          omega
        have HLen := Lib.hid (fun (W : World) (h : W.cell? ⟨ab, ao + d, none⟩ = some (.slice Ad L C) ∧ Below wr.heap.size wr W) => lenT (HI2.out.below h.2) d hdt)
        have HEx := Lib.hid (fun (W : World) (h : W.cell? ⟨ab, ao + d, none⟩ = some (.slice Ad L C) ∧ Below wr.heap.size wr W) => extract_whole (HI2.out.below h.2) HA.out.lt d hdt)
        have HSm := Lib.hid (fun (W : World) (h : W.cell? ⟨ab, ao + d, none⟩ = some (.slice Ad L C) ∧ Below wr.heap.size wr W) (A6 : Option Addr) (c6 : Nat) (h6 : Sl W A6 (VY (ts.getD d []))) => same_true W A6 Ad L c6 C (ts.getD d []) h6 (hS.below (below_step HBw.out h.2)) hL (by omega))
        have HL := Lib.hid hL
        simp only [hL] at HLen HEx
        clear hrows hcell1 hL hS hdt
        generalize ts.getD d [] = tx at *
        have e5 : IntKind.i64.wrap ((L : Int) + 5) = (L : Int) + 5 := IntWalk.i64_in _ (by omega)
        go_wp2_with fail
        go_region_held3 (fun W => W.cell? ⟨ab, ao + d, none⟩ = some (.slice Ad L C) ∧ Below wr.heap.size wr W)
          (first | exact keep1D hcell | exact keep1DN hcell _ | exact keep1N (by assumption) _ | exact keep1K (by assumption) (by assumption))
          (first | (go_at_call 14; (with_reducible refine (HLen.out _ (by assumption)).mono ?_); rintro e W5 ⟨rfl, q5, rfl⟩) | (go_at_call 16; (with_reducible refine (HEx.out _ (by assumption)).mono ?_); rintro e W6 ⟨A6, c6, rfl, hS6, hB6⟩; rw [HL.out]) | (go_at_call 15; (with_reducible refine (HSm.out _ (by assumption) _ _ (by assumption)).mono ?_); rintro e W7 ⟨rfl, q7, rfl⟩))
        all_goals go_wp2_with fail
        all_goals
          go_roundw
          case rel => exact ⟨d + 1, by omega, by go_num, Lib.hid (below_step HB.out (And.right (a := wr.cell? ⟨ab, ao + d, none⟩ = some (.slice Ad L C)) (by first | assumption | exact ⟨hcell, And.right (by assumption)⟩)))⟩
          case measure => simp [intOf]; omega
      · obtain rfl : n = d := by omega
        go_wp2_with fail
        refine (HK.out _).mono ?_
        rintro e w9 ⟨rfl, hB9⟩
        have HB9 := Lib.hid (below_step (below_step HB4.out HB.out) hB9)
        clear hB9
        go_wp2_with fail
        go_ret
        exact ⟨rfl, HB9.out⟩
end Go.Proofs.Ytfjhcgmaignaoaa
