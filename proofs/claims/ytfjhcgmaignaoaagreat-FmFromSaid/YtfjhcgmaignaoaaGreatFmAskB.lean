/- haystackref7.Extract. -/
import Derived.Test.YtfjhcgmaignaoaaGreatFmAsk
namespace Go.Proofs.YtfjhcgmaignaoaaGreat
set_option linter.unusedVariables false
set_option linter.unusedSimpArgs false
set_option maxRecDepth 100000
open Go.RowKit Fm Rank

theorem ext_in {ts : List (List Nat)} {d f n : Nat} : ext ts (d : Int) (f : Int) (n : Int) = ((ts.getD d []).drop f).take n := by
  unfold ext
  rw [if_neg (by omega)]
  simp only [Int.toNat_natCast]
set_option maxHeartbeats 4000000 in
theorem extract7_any (w : World) (A : Option Addr) (n c : Nat) (ts : List (List Nat)) (d f m : Int) (hA : RArg w A n c ts) (hb : (body ts).length ≤ 65535) :
    Calls Tryz.prog 27 #[.slice A n c, .int .i64 d, .int .i64 f, .int .i64 m] w fun e w' => ∃ B cc, e = .returned (.slice B (ext ts d f m).length cc) ∧ Sl w' B (VY (ext ts d f m)) ∧ Below w.heap.size w w' := by
  have hlen := hA.len
  by_cases h1 : d < 0
  · rw [ext_nil (by omega)]
    go_enter Tryz.func27, Tryz.ntmps27
    go_wp2_with fail
    go_ret
    first | exact ⟨none, ⟨_, rfl⟩, sl_nil _, Below.refl _ _⟩ | exact ⟨none, _, rfl, sl_nil _, Below.refl _ _⟩
  by_cases h2 : (n : Int) ≤ d
  · rw [ext_nil (by omega)]
    have h1' : (0 : Int) ≤ d := by omega
    have z1 : decide ((n : Int) ≤ d) = true := decide_eq_true h2
    clear hA hlen
    go_enter Tryz.func27, Tryz.ntmps27
    go_wp2_with fail
    go_ret
    first | exact ⟨none, ⟨_, rfl⟩, sl_nil _, Below.refl _ _⟩ | exact ⟨none, _, rfl, sl_nil _, Below.refl _ _⟩
  by_cases h3 : f < 0
  · rw [ext_nil (by omega)]
    have h1' : (0 : Int) ≤ d := by omega
    have h2' : d < (n : Int) := by omega
    clear hA hlen
    go_enter Tryz.func27, Tryz.ntmps27
    go_wp2_with fail
    go_ret
    first | exact ⟨none, ⟨_, rfl⟩, sl_nil _, Below.refl _ _⟩ | exact ⟨none, _, rfl, sl_nil _, Below.refl _ _⟩
  by_cases h4 : m < 0
  · rw [ext_nil (by omega)]
    have h1' : (0 : Int) ≤ d := by omega
    have h2' : d < (n : Int) := by omega
    have h3' : (0 : Int) ≤ f := by omega
    clear hA hlen
    go_enter Tryz.func27, Tryz.ntmps27
    go_wp2_with fail
    go_ret
    first | exact ⟨none, ⟨_, rfl⟩, sl_nil _, Below.refl _ _⟩ | exact ⟨none, _, rfl, sl_nil _, Below.refl _ _⟩
  obtain ⟨d', rfl⟩ : ∃ d' : Nat, d = (d' : Int) := ⟨d.toNat, by omega⟩
  obtain ⟨f', rfl⟩ : ∃ f' : Nat, f = (f' : Int) := ⟨f.toNat, by omega⟩
  obtain ⟨m', rfl⟩ : ∃ m' : Nat, m = (m' : Int) := ⟨m.toNat, by omega⟩
  have hdn : d' < n := by omega
  obtain ⟨a, Ad, L, C, rfl, hcell, hL, hLC, hnil, hS⟩ := hA.row d' hdn
  have hdi : (d' : Int) < (n : Int) := by omega
  have hdi0 : (0 : Int) ≤ (d' : Int) := by omega
  have hL6 : L ≤ 65535 := by
    have q1 := congrArg List.length (body_take_succ ts d' (by omega))
    have q2 := body_take_le ts (d' + 1)
    rw [List.length_append, txt_length, hL] at q1
    omega
  by_cases h5 : L < f'
  · rw [ext_nil (by right; right; right; right; simp only [Int.toNat_natCast]; omega)]
    have h5i : (L : Int) < (f' : Int) := by omega
    clear h1 h2 h3 h4 hA hlen hb hnil hS hL
    go_enter Tryz.func27, Tryz.ntmps27
    go_wp2_with fail
    go_ret
    first | exact ⟨none, ⟨_, rfl⟩, sl_nil _, Below.refl _ _⟩ | exact ⟨none, _, rfl, sl_nil _, Below.refl _ _⟩
  · have h5i : ¬ (L : Int) < (f' : Int) := by omega
    rw [ext_in]
    obtain ⟨r, hr⟩ : ∃ r, L - f' = r := ⟨_, rfl⟩
    have HS := Lib.hid hS
    have HL := Lib.hid hL
    have Hr := Lib.hid hr
    have Hnil := Lib.hid hnil
    have hfL : f' ≤ L := by omega
    have hfC : f' ≤ C := by omega
    have e1 : L - f' = r := hr
    have e2 : (f' : Int) ≤ (L : Int) := by omega
    have e3 : (f' : Int) ≤ (C : Int) := by omega
    have e4 : (0 : Int) ≤ (f' : Int) := by omega
    have hbl := World.block_lt_of_cell? w _ hcell
    clear h1 h2 h3 h4 h5 hA hlen hb hnil hS hL hr
    obtain ⟨k, hk⟩ : ∃ k, min m' r = k := ⟨_, rfl⟩
    have Hk := Lib.hid (show ((ts.getD d' []).drop f').take m' = ((ts.getD d' []).drop f').take k by
      rw [List.take_eq_take_iff, List.length_drop, HL.out, Hr.out]; omega)
    rw [Hk.out]
    have Hkl := Lib.hid (show (((ts.getD d' []).drop f').take k).length = k by rw [List.length_take, List.length_drop, HL.out, Hr.out]; omega)
    have hkr : k ≤ r := by omega
    have hmin : min (m' : Int) (r : Int) = (k : Int) := by omega
    have hemp : ∀ (W : World) (a : Addr), Sl W (some a) [] := fun W a => ⟨fun _ => rfl, fun a' _ j u hu => by simp at hu⟩
    by_cases h0 : r = 0
    · subst h0
      obtain rfl : k = 0 := by omega
      have hm0 : (0 : Int) ≤ (m' : Int) := by omega
      have hmin0 : min (m' : Int) 0 = 0 := by omega
      clear hmin
      have Hx0 := Lib.hid (show ((ts.getD d' []).drop f').take 0 = [] from List.take_zero)
      rw [Hx0.out]
      have hfl : f' = L := by omega
      cases Ad with
      | none =>
        have hC := Hnil.out rfl
        subst hC
        obtain rfl : f' = 0 := by omega
        obtain rfl : L = 0 := by omega
        clear hfL hfC e1 e2 e3 e4 hkr hL6 hLC hfl hk
        go_enter Tryz.func27, Tryz.ntmps27
        go_wp2_with fail
        go_ret
        exact ⟨_, ⟨_, rfl⟩, hemp _ _, (Below.refl _ w).alloc (Nat.le_refl _) _⟩
      | some ad =>
        subst hfl
        by_cases hCf : C = f'
        · subst hCf
          clear hfL hfC e1 e2 e3 hkr hLC hk
          go_enter Tryz.func27, Tryz.ntmps27
          go_wp2_with (at_builtin; refine app_u8 rfl _ _ rfl w.heap.size _ [] rfl (World.ownsRow_made w #[] 0 (Nat.le_refl _) (by decide) (by simp)) (some ad) 0 0 [] rfl (fun h => by cases h) rfl (hemp _ _) (by simp) (by simp) ?_; intro v1 w1 hown1 hg1; have hB1 := below_app (Below.refl _ w) hg1 (Nat.le_refl _) (fun k hk => by have : some w.heap.size = some k := hk; injection this; omega); obtain ⟨A1, c1, rfl, hS1, hl1, _⟩ := own_sl hown1)
          go_ret
          first | exact ⟨A1, ⟨c1, rfl⟩, hS1, hB1⟩ | exact ⟨A1, c1, rfl, hS1, hB1⟩
        · have hCf2 : (C == f') = false := by rw [beq_eq_false_iff_ne]; exact hCf
          clear hfL e1 e2 hkr hLC hk
          go_enter Tryz.func27, Tryz.ntmps27
          go_wp2_with (at_builtin; refine app_u8 rfl _ _ rfl w.heap.size _ [] rfl (World.ownsRow_made w #[] 0 (Nat.le_refl _) (by decide) (by simp)) (some (ad.add f')) 0 (C - f') [] rfl (fun h => by cases h) rfl (hemp _ _) (by simp) (by simp) ?_; intro v1 w1 hown1 hg1; have hB1 := below_app (Below.refl _ w) hg1 (Nat.le_refl _) (fun k hk => by have : some w.heap.size = some k := hk; injection this; omega); obtain ⟨A1, c1, rfl, hS1, hl1, _⟩ := own_sl hown1)
          go_ret
          first | exact ⟨A1, ⟨c1, rfl⟩, hS1, hB1⟩ | exact ⟨A1, c1, rfl, hS1, hB1⟩
    · obtain ⟨b, off, rfl, _⟩ := HS.out.lit (j := 0) (by rw [VY_length, HL.out]; omega)
      have hCf2 : (C == f') = false := by rw [beq_eq_false_iff_ne]; omega
      have hCf3 : ¬ C = f' := by omega
      have hnews := sl_cutY HS.out f' k
      have hbb := World.block_lt_of_cell? w _ ((HS.out.cell _ rfl 0 _ (VY_get _ 0 (by rw [HL.out]; omega))))
      have Hnw := Lib.hid (hnews.below ((Below.refl _ w).alloc (Nat.le_refl _) (.cells #[] 5)))
      have e5 : (k : Int) ≤ ((C - f' : Nat) : Int) := by omega
      have e6 : k ≤ C - f' := by omega
      have hkl := Hkl.out
      have hk6 : k ≤ 65535 := by omega
      clear hnews hkr hk h0 hLC
      generalize ((ts.getD d' []).drop f').take k = xs at *
      go_enter Tryz.func27, Tryz.ntmps27
      go_wp2_with (at_builtin; refine app_u8 rfl _ _ rfl w.heap.size _ [] rfl (World.ownsRow_made w #[] 0 (Nat.le_refl _) (by decide) (by simp)) (some ⟨b, off + f', none⟩) k (C - f') xs rfl (fun h => by cases h) hkl Hnw.out (by simp; omega) (by simp) ?_; intro v1 w1 hown1 hg1; have hB1 := below_app (Below.refl _ w) hg1 (Nat.le_refl _) (fun k hk => by have : some w.heap.size = some k := hk; injection this; omega); rw [List.nil_append] at hown1; obtain ⟨A1, c1, rfl, hS1, hl1, _⟩ := own_sl hown1)
      go_ret
      first | exact ⟨A1, ⟨c1, ret_val (by rw [hkl])⟩, hS1, hB1⟩ | exact ⟨A1, ⟨c1, rfl⟩, hS1, hB1⟩ | exact ⟨A1, c1, rfl, hS1, hB1⟩
end Go.Proofs.YtfjhcgmaignaoaaGreat
