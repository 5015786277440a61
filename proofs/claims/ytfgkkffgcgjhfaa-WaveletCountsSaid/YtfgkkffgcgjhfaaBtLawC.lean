/- The law BitsBack, walked. -/
import Derived.Test.YtfgkkffgcgjhfaaBtLawB
namespace Go.Proofs.Ytfgkkffgcgjhfaa
set_option linter.unusedVariables false
set_option linter.unusedSimpArgs false
open Go.RowKit PkMath Pop Rank BtMath

theorem sl_getD {l : List Bool} {c : Bool} {k p : Nat} (h : sl l c k = some p) : p < l.length ∧ l.getD p false = c ∧ rk l c p = k ∧ k < rk l c l.length := by
  obtain ⟨hp, hc, hr⟩ := sl_some.1 h
  have h1 : l.getD p false = c := by simp [List.getD, List.getElem?_eq_getElem hp, hc]
  refine ⟨hp, h1, hr, ?_⟩
  have h2 := rk_true_succ hp h1
  have h3 := rk_mono l c (show p + 1 ≤ l.length by omega)
  omega

theorem Sl.lit {w : World} {A : Option Addr} {xs : List Value} (h : Sl w A xs) {j : Nat} (hj : j < xs.length) : ∃ b off, A = Option.some ⟨b, off, none⟩ ∧ w.cell? ⟨b, off + j, none⟩ = xs[j]? := by
  obtain ⟨a, rfl, _⟩ := h.some hj
  have h0 := h.cell a rfl 0 _ (List.getElem?_eq_getElem (show 0 < xs.length by omega))
  have hsp : a.spot = none := by
    have := World.cell?_spot h0
    simpa [Addr.add] using this
  have h1 := h.cell a rfl j _ (List.getElem?_eq_getElem hj)
  obtain ⟨b, off, sp⟩ := a
  obtain rfl : sp = none := hsp
  refine ⟨b, off, rfl, ?_⟩
  rw [List.getElem?_eq_getElem hj, ← h1]
  unfold Addr.add
  split
  · rename_i e; subst e; rfl
  · rfl
theorem ret_b {a b : Bool} (h : a = b) : Value.bool a = Value.bool b := by rw [h]
theorem keepS {w2 W W' : World} {ad : Addr} {v : Value} (h : W.cell? ad = some v ∧ Below w2.heap.size w2 W) (k : Below W.heap.size W W') : W'.cell? ad = some v ∧ Below w2.heap.size w2 W' :=
  ⟨by rw [World.cell?_of_block (w := W) (k.block _ (World.block_lt_of_cell? W _ h.1))]; exact h.1, below_step h.2 k⟩
theorem keepD {w2 : World} {ad : Addr} {v : Value} (h : w2.cell? ad = some v) (m : Nat) : (w2.drewN m).cell? ad = some v ∧ Below w2.heap.size w2 (w2.drewN m) :=
  ⟨h, rfl, rfl, rfl, Nat.le_refl _, fun _ _ => rfl⟩
theorem keep0 {w2 : World} {ad : Addr} {v : Value} (h : w2.cell? ad = some v) (m : Nat) : (w2.drewN m).drew.cell? ad = some v ∧ Below w2.heap.size w2 (w2.drewN m).drew :=
  ⟨h, rfl, rfl, rfl, Nat.le_refl _, fun _ _ => rfl⟩
theorem keepE {w2 W' : World} {ad : Addr} {v : Value} (h : w2.cell? ad = some v) {m : Nat} (k : Below (w2.drewN m).heap.size (w2.drewN m) W') : W'.cell? ad = some v ∧ Below w2.heap.size w2 W' :=
  keepS (keepD h m) k
set_option maxRecDepth 100000 in
set_option maxHeartbeats 2000000 in
theorem lawBack (A : Option Addr) (n c : Nat) (l : List Bool) (b : Bool) (k0 : Int) (w : World) (hA : BArg w A n c l) :
    Calls Try.prog 5 #[.slice A n c, .bool b, .int .i64 k0] w (TrueBelow w) := by
  by_cases h0 : 3000 < n
  · go_enter Try.func5, Try.ntmps5
    go_wp2_with fail
    go_ret
    exact ⟨rfl, Below.refl _ _⟩
  by_cases h2 : k0 < 0
  · go_enter Try.func5, Try.ntmps5
    go_wp2_with fail
    go_ret
    exact ⟨rfl, Below.refl _ _⟩
  by_cases h3 : 3000 < k0
  · go_enter Try.func5, Try.ntmps5
    go_wp2_with fail
    go_ret
    exact ⟨rfl, Below.refl _ _⟩
  obtain ⟨k, rfl⟩ : ∃ k : Nat, k0 = (k : Int) := ⟨k0.toNat, by omega⟩
  obtain ⟨hAs, hAl, hAc, hAn⟩ := hA
  have HAl := Lib.hid hAl
  clear hAl hAn
  go_enter Try.func5, Try.ntmps5
  go_wp2_with fail
  go_at_call 22
  refine (of_any w A n c l HAl.out (by omega) hAs).mono ?_
  intro e w1 hM
  obtain ⟨v, rfl, hBV, hB1⟩ := hM.get
  clear hM
  go_wp2_with fail
  go_at_call 18
  refine (select_any hBV b (k : Int)).mono ?_
  rintro e w2 ⟨rfl, hB2⟩
  have hB3 := below_step hB1 hB2
  have hBV2 := hBV.below hB2
  have hAs2 := hAs.below hB3
  have hc0 := hBV2.c0
  rw [HAl.out] at hc0
  clear hB2 hB1 hBV
  have hcase : (∃ p : Nat, slI l b (k : Int) = (p : Int) ∧ p < n ∧ l.getD p false = b ∧ rk l b p = k ∧ k < rk l b n) ∨ (slI l b (k : Int) = -1 ∧ rk l b n ≤ k) := by
    cases hs : sl l b k with
    | some p =>
      have := sl_getD hs
      rw [HAl.out] at this
      exact .inl ⟨p, slI_some hs, this⟩
    | none => exact .inr ⟨slI_none (sl_none.1 hs), by have := sl_none.1 hs; rwa [HAl.out] at this⟩
  have HL := Lib.hid (fun m : Nat => blen_cell v (n : Int) (w2.drewN m) hc0)
  have HR := Lib.hid (fun m : Nat => rank_any (hBV2.drewN m) b (n : Int))
  rw [Int.toNat_natCast] at HR
  obtain ⟨at0, hat⟩ : ∃ z, slI l b (k : Int) = z := ⟨_, rfl⟩
  rw [hat] at hcase ⊢
  have HC := Lib.hid hcase
  clear hcase hat
  go_upto_region 7 with fail
  go_cut [44] (fun s wx => s = .bool false ∧ ∃ m, wx = w2.drewN m)
  case first =>
    rcases HC.out with ⟨p, rfl, hpn, hpb, hpr, hkr⟩ | ⟨rfl, hkr⟩
    · have hG := bget_any hBV2 (p : Int)
      rw [Int.toNat_natCast, hpb, show decide ((0 : Int) ≤ (p : Int)) = true by simp, Bool.true_and] at hG
      have hRp := rank_any hBV2 b (p : Int)
      rw [Int.toNat_natCast, hpr] at hRp
      have HG := Lib.hid hG
      have HRp := Lib.hid hRp
      clear hpb hG hRp hpr
      cases b
      all_goals
        go_wp2_with fail
        refine HG.out.mono ?_
        rintro e w3 ⟨rfl, rfl⟩
        go_wp2_with fail
        go_at_call 19
        refine HRp.out.mono ?_
        rintro e w3 ⟨rfl, m, rfl⟩
        go_wp2_with fail
        go_meet
        case rel => exact ⟨rfl, m, rfl⟩
    · go_wp2_with fail
      go_meet
      case rel => exact ⟨rfl, 0, rfl⟩
  case rest =>
    obtain ⟨rfl, m, rfl⟩ := hcut
    go_upto_region 9 with fail
    go_cut [54] (fun s wx => s = .bool false ∧ ∃ m, wx = w2.drewN m)
    case first =>
      go_wp2_with fail
      refine (HL.out _).mono ?_
      rintro e w3 ⟨rfl, rfl⟩
      rcases HC.out with ⟨p, rfl, hpn, hpb, hpr, hkr⟩ | ⟨rfl, hkr⟩
      · clear hpb hpr
        generalize rk l b n = r at *
        go_wp2_with fail
        go_at_call 19
        refine (HR.out _).mono ?_
        rintro e w3 ⟨rfl, m2, rfl⟩
        go_wp2_with fail
        go_meet
        case rel => exact ⟨rfl, m + m2, by simp⟩
      · generalize rk l b n = r at *
        go_wp2_with fail
        go_at_call 19
        refine (HR.out _).mono ?_
        rintro e w3 ⟨rfl, m2, rfl⟩
        go_wp2_with fail
        go_meet
        case rel => exact ⟨ret_b (decide_eq_false (by omega)), m + m2, by simp⟩
    case rest =>
      obtain ⟨rfl, m, rfl⟩ := hcut
      clear HR HL HC
      go_upto_region 11 with fail
      go_cut [75] (fun s wx => s = .bool false ∧ Below w.heap.size w wx)
      case first =>
        by_cases hkn : k < n
        · obtain ⟨x, hx⟩ : ∃ x, l.getD k false = x := ⟨_, rfl⟩
          obtain ⟨ab, ao, rfl, hca⟩ := hAs2.lit (j := k) (by rw [VB_length, HAl.out]; exact hkn)
          rw [VB_get _ _ (by rw [HAl.out]; exact hkn), hx] at hca
          have hs := slI_some (sl_some.2 ⟨by rw [HAl.out]; exact hkn, by simpa [List.getD, List.getElem?_eq_getElem (show k < l.length by rw [HAl.out]; exact hkn)] using hx, rfl⟩ : sl l x (rk l x k) = some k)
          have HRk := Lib.hid (fun (W : World) (h : W.cell? ⟨ab, ao + k, none⟩ = some (.bool x) ∧ Below w2.heap.size w2 W) => rank_any (hBV2.below h.2) x (k : Int))
          have HSk := Lib.hid (fun (W : World) (h : W.cell? ⟨ab, ao + k, none⟩ = some (.bool x) ∧ Below w2.heap.size w2 W) => select_any (hBV2.below h.2) x ((rk l x k : Nat) : Int))
          rw [hs] at HSk
          rw [Int.toNat_natCast] at HRk
          have HB3 := Lib.hid (fun (W : World) (h : W.cell? ⟨ab, ao + k, none⟩ = some (.bool x) ∧ Below w2.heap.size w2 W) => below_step hB3 h.2)
          have HK0 := Lib.hid hca
          clear hs hx hB3 hBV2 hc0 hca hAs hAs2
          generalize rk l x k = q at *
          go_region_held3 (fun w' => w'.cell? ⟨ab, ao + k, none⟩ = some (.bool x) ∧ Below w2.heap.size w2 w')
            (first | exact keep0 HK0.out _ | exact keepD HK0.out _ | exact keepS (by assumption) (by assumption) | exact keepE HK0.out (by assumption))
            (first | (go_at_call 19; refine (HRk.out _ (by assumption)).mono ?_; rintro e w5 ⟨rfl, m5, rfl⟩) | (go_at_call 18; refine (HSk.out _ (by assumption)).mono ?_; rintro e w6 ⟨rfl, hB6⟩))
          all_goals go_wp2_with fail
          all_goals go_meet
          all_goals exact ⟨rfl, HB3.out _ (by first | assumption | exact keepE HK0.out (by assumption) | exact keepS (by assumption) (by assumption))⟩
        · go_region
          all_goals
            go_wp2_with fail
            go_meet
            case rel => exact ⟨rfl, below_step hB3 ⟨rfl, rfl, rfl, Nat.le_refl _, fun _ _ => rfl⟩⟩
      case rest =>
        obtain ⟨rfl, hB4⟩ := hcut
        go_wp2_with fail
        go_at_call 15
        refine (known_any _).mono ?_
        rintro e w5 ⟨rfl, hB5⟩
        go_wp2_with fail
        go_ret
        exact ⟨rfl, below_step hB4 hB5⟩

end Go.Proofs.Ytfgkkffgcgjhfaa
