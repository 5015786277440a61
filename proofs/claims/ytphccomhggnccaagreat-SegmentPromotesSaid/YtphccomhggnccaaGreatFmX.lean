/- haystackref7.Extract; fm.Extract at any numbers; the laws' ints, roomy, stands. -/
import Derived.Test.YtphccomhggnccaaGreatRfB
import Derived.Test.YtphccomhggnccaaGreatFmExt
import Derived.Test.YtphccomhggnccaaGreatFmKnown
import Derived.Test.YtphccomhggnccaaGreatFmLong2
namespace Go.Proofs.YtphccomhggnccaaGreat
set_option maxRecDepth 100000
set_option linter.unusedVariables false
set_option linter.unusedSimpArgs false
set_option maxRecDepth 100000
open Go.RowKit Fm Rank
/-- some bytes of a text, if there is one -/
def ext (ts : List (List Nat)) (d f n : Int) : List Nat := if d < 0 ∨ f < 0 ∨ n < 0 then [] else ((ts.getD d.toNat []).drop f.toNat).take n.toNat
theorem ext_nil {ts : List (List Nat)} {d f n : Int} (h : d < 0 ∨ (ts.length : Int) ≤ d ∨ f < 0 ∨ n ≤ 0 ∨ ((ts.getD d.toNat []).length : Int) ≤ f) : ext ts d f n = [] := by
  unfold ext
  by_cases h0 : d < 0 ∨ f < 0 ∨ n < 0
  · rw [if_pos h0]
  · rw [if_neg h0]
    rcases h with h | h | h | h | h
    · omega
    · have : ts.length ≤ d.toNat := by omega
      simp [List.getD, List.getElem?_eq_none this]
    · omega
    · rw [show n.toNat = 0 by omega]; simp
    · rw [List.drop_eq_nil_of_le (by omega)]; simp
theorem extractX_any {w : World} {base x : Nat} {ts : List (List Nat)} {sa : List Nat} (h : IdxM w base x (rowT ts) sa) (hlt : ∀ t ∈ ts, ∀ b ∈ t, b < 256) (d f n : Int) :
    Calls Tryz.prog 24 #[.pointer (some ⟨x, 0, none⟩), .int .i64 d, .int .i64 f, .int .i64 n] w fun e w' => ∃ A c, e = .returned (.slice A (ext ts d f n).length c) ∧ Sl w' A (VY (ext ts d f n)) ∧ Below w.heap.size w w' := by
  by_cases hin : 0 ≤ d ∧ d < (ts.length : Int) ∧ 0 ≤ f ∧ f < ((ts.getD d.toNat []).length : Int) ∧ 0 < n
  · obtain ⟨h1, h2, h3, h4, h5⟩ := hin
    obtain ⟨d', rfl⟩ : ∃ d' : Nat, d = (d' : Int) := ⟨d.toNat, by omega⟩
    obtain ⟨f', rfl⟩ : ∃ f' : Nat, f = (f' : Int) := ⟨f.toNat, by omega⟩
    obtain ⟨n', rfl⟩ : ∃ n' : Nat, n = (n' : Int) := ⟨n.toNat, by omega⟩
    simp only [Int.toNat_natCast] at h4
    have he : ext ts d' f' n' = ((ts.getD d' []).drop f').take (min n' ((ts.getD d' []).length - f')) := by
      unfold ext
      rw [if_neg (by omega)]
      simp only [Int.toNat_natCast]
      rw [List.take_eq_take_iff, List.length_drop]
      omega
    rw [he]
    refine (extract_in h hlt d' f' (min n' ((ts.getD d' []).length - f')) n' (by omega) (by omega) h5 (by omega)).mono ?_
    rintro e w' ⟨g, rfl, hg, hb, hB⟩
    exact ⟨_, _, rfl, sl_blk hb, hB⟩
  · rw [ext_nil (by omega)]
    by_cases hd : d < 0 ∨ (ts.length : Int) ≤ d
    · have HL := Lib.hid (lenT_out h d hd)
      clear h hlt hin
      by_cases hf : f < 0
      · go_enter Tryz.func24, Tryz.ntmps24
        go_wp2_with (go_at_call 65; refine HL.out.mono ?_; rintro e w' ⟨rfl, rfl⟩)
        go_ret
        exact ⟨none, _, rfl, sl_nil _, Below.refl _ _⟩
      · by_cases hn : n ≤ 0
        · go_enter Tryz.func24, Tryz.ntmps24
          go_wp2_with (go_at_call 65; refine HL.out.mono ?_; rintro e w' ⟨rfl, rfl⟩)
          go_ret
          exact ⟨none, _, rfl, sl_nil _, Below.refl _ _⟩
        · have hf2 : 0 ≤ f := by omega
          go_enter Tryz.func24, Tryz.ntmps24
          go_wp2_with (go_at_call 65; refine HL.out.mono ?_; rintro e w' ⟨rfl, rfl⟩)
          go_ret
          exact ⟨none, _, rfl, sl_nil _, Below.refl _ _⟩
    · obtain ⟨d', rfl⟩ : ∃ d' : Nat, d = (d' : Int) := ⟨d.toNat, by omega⟩
      have HL := Lib.hid (lenT h d' (by omega))
      simp only [Int.toNat_natCast] at hin
      clear h hlt
      obtain ⟨LL, hLL⟩ : ∃ L, (ts.getD d' []).length = L := ⟨_, rfl⟩
      rw [hLL] at HL hin
      clear hLL
      by_cases hf : f < 0
      · go_enter Tryz.func24, Tryz.ntmps24
        go_wp2_with (go_at_call 65; refine HL.out.mono ?_; rintro e w' ⟨rfl, q, rfl⟩)
        go_ret
        exact ⟨none, _, rfl, sl_nil _, below_drewN _ _ _⟩
      · by_cases hn : n ≤ 0
        · go_enter Tryz.func24, Tryz.ntmps24
          go_wp2_with (go_at_call 65; refine HL.out.mono ?_; rintro e w' ⟨rfl, q, rfl⟩)
          go_ret
          exact ⟨none, _, rfl, sl_nil _, below_drewN _ _ _⟩
        · have hf2 : (LL : Int) ≤ f := by omega
          clear hin
          go_enter Tryz.func24, Tryz.ntmps24
          go_wp2_with (go_at_call 65; refine HL.out.mono ?_; rintro e w' ⟨rfl, q, rfl⟩)
          go_ret
          exact ⟨none, _, rfl, sl_nil _, below_drewN _ _ _⟩
theorem own_pos {w : World} {base : Nat} {e : TypeId} {v : Value} {n : Nat} {xs : List Value} (h : w.ownsRow base e 1 v n xs) (hn : 0 < n) : ∃ g cap, v = .slice (some ⟨g, 0, none⟩) n cap ∧ n ≤ cap ∧ base ≤ g ∧ Sl w (some ⟨g, 0, none⟩) xs := by
  have h' := h
  rcases h.2 with ⟨_, e0⟩ | ⟨g, cap, cur, rfl, hg, _, hc, _⟩
  · omega
  · obtain ⟨A, c, hv, hS, _, _⟩ := own_sl h'
    injection hv with q1 q2 q3
    subst q1
    exact ⟨g, cap, rfl, hc, hg, hS⟩
theorem roomy_nums (n cap : Nat) {p : List Nat} (h : ([] ++ p ++ [171] ++ [171]).length ≤ cap) (hl : p.length = n) : (n : Int) + 1 ≤ (cap : Int) ∧ ((n : Int) + 1).toNat = n + 1 ∧ (0 : Int) ≤ (n : Int) + 1 ∧ n + 1 ≤ cap := by
  simp at h
  omega
theorem app_u8_mv {w : World} {ops : Array Oper} {rest : List Oper} {o : Oper} {a : Act} {Q : Exit → Act → World → Prop} (hgd : o.guard = none) (s x : Operand)
    (ho : o.op = .call { callee := .builtin .append, args := #[s, x], argTypes := #[34, 34] })
    (base : Nat) (v : Value) (xs : List Nat) (hs : a.eval s = v) (hown : w.ownsRow base 5 1 v xs.length (VY xs))
    (ad : Addr) (m c : Nat) (news : List Nat) (hx : a.eval x = .slice (some ad) m c) (hl : news.length = m) (hnews : Sl w (some ad) (VY news))
    (h63 : xs.length + m ≤ 1099511627776) (hbase : base ≤ w.heap.size)
    (h : ∀ v' w', w'.ownsRow base 5 1 v' (xs ++ news).length (VY (xs ++ news)) → w.grownBy w' v.ownBlock → (v'.ownBlock = v.ownBlock ∨ v'.ownBlock = some w.heap.size) → wpList Tryz.prog ops Q rest (a.put o.dst v') w') : wpList Tryz.prog ops Q (o :: rest) a w := by
  obtain ⟨i0, hi, hz0, hz1, hz2⟩ := info_parts info_u8
  refine wpList_append_own_at w hgd s x 34 ho base 5 i0 (.int .u8 0) 1 1 Tryz.underlying34 hi hz0 hz1 hz2 rfl (by decide) v xs.length (VY xs) hs hown ad m c (VY news) hx (by rw [VY_length]; omega) (hnews.cell ad rfl) (VY_one _) (by unfold maxLen; omega) (by omega) hbase ?_
  intro v' w' h1 h2 _ h4
  refine h v' w' ?_ h2 h4
  rw [List.length_append, hl, VY_append]
  exact h1
theorem own_blkP {w : World} {base : Nat} {e : TypeId} {v : Value} {n : Nat} {xs : List Value} (h : w.ownsRow base e 1 v n xs) (hn : 0 < n) : ∃ g cap cur, v = .slice (some ⟨g, 0, none⟩) n cap ∧ w.heap[g]? = some (.cells cur e (0, 0)) ∧ n ≤ cur.size ∧ v.ownBlock = some g := by
  rcases h.2 with ⟨_, e0⟩ | ⟨g, cap, cur, rfl, hg, hb, hc, _, hs, _⟩
  · omega
  · exact ⟨g, cap, cur, rfl, hb, by omega, rfl⟩
end Go.Proofs.YtphccomhggnccaaGreat
/- haystackref7.Extract. -/
namespace Go.Proofs.YtphccomhggnccaaGreat
set_option maxRecDepth 100000
set_option linter.unusedVariables false
set_option linter.unusedSimpArgs false
set_option maxRecDepth 100000
open Go.RowKit Fm Rank
theorem ext_in {ts : List (List Nat)} {d f n : Nat} : ext ts (d : Int) (f : Int) (n : Int) = ((ts.getD d []).drop f).take n := by
  unfold ext
  rw [if_neg (by omega)]
  simp only [Int.toNat_natCast]
set_option maxHeartbeats 4000000 in
theorem extract7_any (w : World) (A : Option Addr) (n c : Nat) (ts : List (List Nat)) (d f m : Int) (hA : RArg w A n c ts) (hb : (body ts).length ≤ 65535) :
    Calls Tryz.prog 25 #[.slice A n c, .int .i64 d, .int .i64 f, .int .i64 m] w fun e w' => ∃ B cc, e = .returned (.slice B (ext ts d f m).length cc) ∧ Sl w' B (VY (ext ts d f m)) ∧ Below w.heap.size w w' := by
  have hlen := hA.len
  by_cases h1 : d < 0
  · rw [ext_nil (by omega)]
    go_enter Tryz.func25, Tryz.ntmps25
    go_wp2_with fail
    go_ret
    first | exact ⟨none, ⟨_, rfl⟩, sl_nil _, Below.refl _ _⟩ | exact ⟨none, _, rfl, sl_nil _, Below.refl _ _⟩
  by_cases h2 : (n : Int) ≤ d
  · rw [ext_nil (by omega)]
    have h1' : (0 : Int) ≤ d := by omega
    have z1 : decide ((n : Int) ≤ d) = true := decide_eq_true h2
    clear hA hlen
    go_enter Tryz.func25, Tryz.ntmps25
    go_wp2_with fail
    go_ret
    first | exact ⟨none, ⟨_, rfl⟩, sl_nil _, Below.refl _ _⟩ | exact ⟨none, _, rfl, sl_nil _, Below.refl _ _⟩
  by_cases h3 : f < 0
  · rw [ext_nil (by omega)]
    have h1' : (0 : Int) ≤ d := by omega
    have h2' : d < (n : Int) := by omega
    clear hA hlen
    go_enter Tryz.func25, Tryz.ntmps25
    go_wp2_with fail
    go_ret
    first | exact ⟨none, ⟨_, rfl⟩, sl_nil _, Below.refl _ _⟩ | exact ⟨none, _, rfl, sl_nil _, Below.refl _ _⟩
  by_cases h4 : m < 0
  · rw [ext_nil (by omega)]
    have h1' : (0 : Int) ≤ d := by omega
    have h2' : d < (n : Int) := by omega
    have h3' : (0 : Int) ≤ f := by omega
    clear hA hlen
    go_enter Tryz.func25, Tryz.ntmps25
    go_wp2_with fail
    go_ret
    first | exact ⟨none, ⟨_, rfl⟩, sl_nil _, Below.refl _ _⟩ | exact ⟨none, _, rfl, sl_nil _, Below.refl _ _⟩
  obtain ⟨d', rfl⟩ : ∃ d' : Nat, d = (d' : Int) := ⟨d.toNat, by omega⟩
  obtain ⟨f', rfl⟩ : ∃ f' : Nat, f = (f' : Int) := ⟨f.toNat, by omega⟩
  obtain ⟨m', rfl⟩ : ∃ m' : Nat, m = (m' : Int) := ⟨m.toNat, by omega⟩
  have hdn : d' < n := by omega
  obtain ⟨a, Ad, L, C, rfl, hcell, hL, hLC, hnil, hS⟩ := hA.row d' hdn
  have hdi : (d' : Int) < (n : Int) := by omega
  have hdi0 : (0 : Int) ≤ (d' : Int) := by omega
  have hL6 : L ≤ 65535 := by
    have q1 := congrArg List.length (body_take_succ ts d' (by omega))
    have q2 := body_take_le ts (d' + 1)
    rw [List.length_append, txt_length, hL] at q1
    omega
  by_cases h5 : L < f'
  · rw [ext_nil (by right; right; right; right; simp only [Int.toNat_natCast]; omega)]
    have h5i : (L : Int) < (f' : Int) := by omega
    clear h1 h2 h3 h4 hA hlen hb hnil hS hL
    go_enter Tryz.func25, Tryz.ntmps25
    go_wp2_with fail
    go_ret
    first | exact ⟨none, ⟨_, rfl⟩, sl_nil _, Below.refl _ _⟩ | exact ⟨none, _, rfl, sl_nil _, Below.refl _ _⟩
  · have h5i : ¬ (L : Int) < (f' : Int) := by omega
    rw [ext_in]
    obtain ⟨r, hr⟩ : ∃ r, L - f' = r := ⟨_, rfl⟩
    have HS := Lib.hid hS
    have HL := Lib.hid hL
    have Hr := Lib.hid hr
    have Hnil := Lib.hid hnil
    have hfL : f' ≤ L := by omega
    have hfC : f' ≤ C := by omega
    have e1 : L - f' = r := hr
    have e2 : (f' : Int) ≤ (L : Int) := by omega
    have e3 : (f' : Int) ≤ (C : Int) := by omega
    have e4 : (0 : Int) ≤ (f' : Int) := by omega
    have hbl := World.block_lt_of_cell? w _ hcell
    clear h1 h2 h3 h4 h5 hA hlen hb hnil hS hL hr
    obtain ⟨k, hk⟩ : ∃ k, min m' r = k := ⟨_, rfl⟩
    have Hk := Lib.hid (show ((ts.getD d' []).drop f').take m' = ((ts.getD d' []).drop f').take k by
      rw [List.take_eq_take_iff, List.length_drop, HL.out, Hr.out]; omega)
    rw [Hk.out]
    have Hkl := Lib.hid (show (((ts.getD d' []).drop f').take k).length = k by rw [List.length_take, List.length_drop, HL.out, Hr.out]; omega)
    have hkr : k ≤ r := by omega
    have hmin : min (m' : Int) (r : Int) = (k : Int) := by omega
    have hemp : ∀ (W : World) (a : Addr), Sl W (some a) [] := fun W a => ⟨fun _ => rfl, fun a' _ j u hu => by simp at hu⟩
    by_cases h0 : r = 0
    · subst h0
      obtain rfl : k = 0 := by omega
      have hm0 : (0 : Int) ≤ (m' : Int) := by omega
      have hmin0 : min (m' : Int) 0 = 0 := by omega
      clear hmin
      have Hx0 := Lib.hid (show ((ts.getD d' []).drop f').take 0 = [] from List.take_zero)
      rw [Hx0.out]
      have hfl : f' = L := by omega
      cases Ad with
      | none =>
        have hC := Hnil.out rfl
        subst hC
        obtain rfl : f' = 0 := by omega
        obtain rfl : L = 0 := by omega
        clear hfL hfC e1 e2 e3 e4 hkr hL6 hLC hfl hk
        go_enter Tryz.func25, Tryz.ntmps25
        go_wp2_with fail
        go_ret
        exact ⟨_, ⟨_, rfl⟩, hemp _ _, (Below.refl _ w).alloc (Nat.le_refl _) _⟩
      | some ad =>
        subst hfl
        by_cases hCf : C = f'
        · subst hCf
          clear hfL hfC e1 e2 e3 hkr hLC hk
          go_enter Tryz.func25, Tryz.ntmps25
          go_wp2_with (at_builtin; refine app_u8 rfl _ _ rfl w.heap.size _ [] rfl (World.ownsRow_made w #[] 0 (Nat.le_refl _) (by decide) (by simp)) (some ad) 0 0 [] rfl (fun h => by cases h) rfl (hemp _ _) (by simp) (by simp) ?_; intro v1 w1 hown1 hg1; have hB1 := below_app (Below.refl _ w) hg1 (Nat.le_refl _) (fun k hk => by have : some w.heap.size = some k := hk; injection this; omega); obtain ⟨A1, c1, rfl, hS1, hl1, _⟩ := own_sl hown1)
          go_ret
          first | exact ⟨A1, ⟨c1, rfl⟩, hS1, hB1⟩ | exact ⟨A1, c1, rfl, hS1, hB1⟩
        · have hCf2 : (C == f') = false := by rw [beq_eq_false_iff_ne]; exact hCf
          clear hfL e1 e2 hkr hLC hk
          go_enter Tryz.func25, Tryz.ntmps25
          go_wp2_with (at_builtin; refine app_u8 rfl _ _ rfl w.heap.size _ [] rfl (World.ownsRow_made w #[] 0 (Nat.le_refl _) (by decide) (by simp)) (some (ad.add f')) 0 (C - f') [] rfl (fun h => by cases h) rfl (hemp _ _) (by simp) (by simp) ?_; intro v1 w1 hown1 hg1; have hB1 := below_app (Below.refl _ w) hg1 (Nat.le_refl _) (fun k hk => by have : some w.heap.size = some k := hk; injection this; omega); obtain ⟨A1, c1, rfl, hS1, hl1, _⟩ := own_sl hown1)
          go_ret
          first | exact ⟨A1, ⟨c1, rfl⟩, hS1, hB1⟩ | exact ⟨A1, c1, rfl, hS1, hB1⟩
    · obtain ⟨b, off, rfl, _⟩ := HS.out.lit (j := 0) (by rw [VY_length, HL.out]; omega)
      have hCf2 : (C == f') = false := by rw [beq_eq_false_iff_ne]; omega
      have hCf3 : ¬ C = f' := by omega
      have hnews := sl_cutY HS.out f' k
      have hbb := World.block_lt_of_cell? w _ ((HS.out.cell _ rfl 0 _ (VY_get _ 0 (by rw [HL.out]; omega))))
      have Hnw := Lib.hid (hnews.below ((Below.refl _ w).alloc (Nat.le_refl _) (.cells #[] 5)))
      have e5 : (k : Int) ≤ ((C - f' : Nat) : Int) := by omega
      have e6 : k ≤ C - f' := by omega
      have hkl := Hkl.out
      have hk6 : k ≤ 65535 := by omega
      clear hnews hkr hk h0 hLC
      generalize ((ts.getD d' []).drop f').take k = xs at *
      go_enter Tryz.func25, Tryz.ntmps25
      go_wp2_with (at_builtin; refine app_u8 rfl _ _ rfl w.heap.size _ [] rfl (World.ownsRow_made w #[] 0 (Nat.le_refl _) (by decide) (by simp)) (some ⟨b, off + f', none⟩) k (C - f') xs rfl (fun h => by cases h) hkl Hnw.out (by simp; omega) (by simp) ?_; intro v1 w1 hown1 hg1; have hB1 := below_app (Below.refl _ w) hg1 (Nat.le_refl _) (fun k hk => by have : some w.heap.size = some k := hk; injection this; omega); rw [List.nil_append] at hown1; obtain ⟨A1, c1, rfl, hS1, hl1, _⟩ := own_sl hown1)
      go_ret
      first | exact ⟨A1, ⟨c1, ret_val (by rw [hkl])⟩, hS1, hB1⟩ | exact ⟨A1, ⟨c1, rfl⟩, hS1, hB1⟩ | exact ⟨A1, c1, rfl, hS1, hB1⟩
end Go.Proofs.YtphccomhggnccaaGreat
