/- haystackref7.Extract; fm.Extract at any numbers; the laws' ints, roomy, stands. -/
import Derived.Test.YtfjhcgmaignaoaaGreatRf7B
import Derived.Test.YtfjhcgmaignaoaaGreatFmExt
import Derived.Test.YtfjhcgmaignaoaaGreatFmKnown
import Derived.Test.YtfjhcgmaignaoaaGreatFmLong2
namespace Go.Proofs.YtfjhcgmaignaoaaGreat
set_option linter.unusedVariables false
set_option linter.unusedSimpArgs false
set_option maxRecDepth 100000
open Go.RowKit Fm Rank

/-- some bytes of a text, if there is one -/
def ext (ts : List (List Nat)) (d f n : Int) : List Nat := if d < 0 ∨ f < 0 ∨ n < 0 then [] else ((ts.getD d.toNat []).drop f.toNat).take n.toNat
theorem ext_nil {ts : List (List Nat)} {d f n : Int} (h : d < 0 ∨ (ts.length : Int) ≤ d ∨ f < 0 ∨ n ≤ 0 ∨ ((ts.getD d.toNat []).length : Int) ≤ f) : ext ts d f n = [] := by
  unfold ext
  by_cases h0 : d < 0 ∨ f < 0 ∨ n < 0
  · rw [if_pos h0]
  · rw [if_neg h0]
    rcases h with h | h | h | h | h
    · omega
    · have : ts.length ≤ d.toNat := by omega
      simp [List.getD, List.getElem?_eq_none this]
    · omega
    · rw [show n.toNat = 0 by omega]; simp
    · rw [List.drop_eq_nil_of_le (by omega)]; simp
theorem extractX_any {w : World} {base x : Nat} {ts : List (List Nat)} {sa : List Nat} (h : IdxM w base x (rowT ts) sa) (hlt : ∀ t ∈ ts, ∀ b ∈ t, b < 256) (d f n : Int) :
    Calls Tryz.prog 26 #[.pointer (some ⟨x, 0, none⟩), .int .i64 d, .int .i64 f, .int .i64 n] w fun e w' => ∃ A c, e = .returned (.slice A (ext ts d f n).length c) ∧ Sl w' A (VY (ext ts d f n)) ∧ Below w.heap.size w w' := by
  by_cases hin : 0 ≤ d ∧ d < (ts.length : Int) ∧ 0 ≤ f ∧ f < ((ts.getD d.toNat []).length : Int) ∧ 0 < n
  · obtain ⟨h1, h2, h3, h4, h5⟩ := hin
    obtain ⟨d', rfl⟩ : ∃ d' : Nat, d = (d' : Int) := ⟨d.toNat, by omega⟩
    obtain ⟨f', rfl⟩ : ∃ f' : Nat, f = (f' : Int) := ⟨f.toNat, by omega⟩
    obtain ⟨n', rfl⟩ : ∃ n' : Nat, n = (n' : Int) := ⟨n.toNat, by omega⟩
    simp only [Int.toNat_natCast] at h4
    have he : ext ts d' f' n' = ((ts.getD d' []).drop f').take (min n' ((ts.getD d' []).length - f')) := by
      unfold ext
      rw [if_neg (by omega)]
      simp only [Int.toNat_natCast]
      rw [List.take_eq_take_iff, List.length_drop]
      omega
    rw [he]
    refine (extract_in h hlt d' f' (min n' ((ts.getD d' []).length - f')) n' (by omega) (by omega) h5 (by omega)).mono ?_
    rintro e w' ⟨g, rfl, hg, hb, hB⟩
    exact ⟨_, _, rfl, sl_blk hb, hB⟩
  · rw [ext_nil (by omega)]
    by_cases hd : d < 0 ∨ (ts.length : Int) ≤ d
    · have HL := Lib.hid (lenT_out h d hd)
      clear h hlt hin
      by_cases hf : f < 0
      · go_enter Tryz.func26, Tryz.ntmps26
        go_wp2_with (go_at_call 19; refine HL.out.mono ?_; rintro e w' ⟨rfl, rfl⟩)
        go_ret
        exact ⟨none, _, rfl, sl_nil _, Below.refl _ _⟩
      · by_cases hn : n ≤ 0
        · go_enter Tryz.func26, Tryz.ntmps26
          go_wp2_with (go_at_call 19; refine HL.out.mono ?_; rintro e w' ⟨rfl, rfl⟩)
          go_ret
          exact ⟨none, _, rfl, sl_nil _, Below.refl _ _⟩
        · have hf2 : 0 ≤ f := by omega
          go_enter Tryz.func26, Tryz.ntmps26
          go_wp2_with (go_at_call 19; refine HL.out.mono ?_; rintro e w' ⟨rfl, rfl⟩)
          go_ret
          exact ⟨none, _, rfl, sl_nil _, Below.refl _ _⟩
    · obtain ⟨d', rfl⟩ : ∃ d' : Nat, d = (d' : Int) := ⟨d.toNat, by omega⟩
      have HL := Lib.hid (lenT h d' (by omega))
      simp only [Int.toNat_natCast] at hin
      clear h hlt
      obtain ⟨LL, hLL⟩ : ∃ L, (ts.getD d' []).length = L := ⟨_, rfl⟩
      rw [hLL] at HL hin
      clear hLL
      by_cases hf : f < 0
      · go_enter Tryz.func26, Tryz.ntmps26
        go_wp2_with (go_at_call 19; refine HL.out.mono ?_; rintro e w' ⟨rfl, q, rfl⟩)
        go_ret
        exact ⟨none, _, rfl, sl_nil _, below_drewN _ _ _⟩
      · by_cases hn : n ≤ 0
        · go_enter Tryz.func26, Tryz.ntmps26
          go_wp2_with (go_at_call 19; refine HL.out.mono ?_; rintro e w' ⟨rfl, q, rfl⟩)
          go_ret
          exact ⟨none, _, rfl, sl_nil _, below_drewN _ _ _⟩
        · have hf2 : (LL : Int) ≤ f := by omega
          clear hin
          go_enter Tryz.func26, Tryz.ntmps26
          go_wp2_with (go_at_call 19; refine HL.out.mono ?_; rintro e w' ⟨rfl, q, rfl⟩)
          go_ret
          exact ⟨none, _, rfl, sl_nil _, below_drewN _ _ _⟩
/-- two rows of ints that are alike -/
theorem ints7_any (A B : Option Addr) (xs : List Int) (n n2 c d : Nat) (w : World) (hA : Sl w A (VI xs)) (hB : Sl w B (VI xs)) (hl : xs.length = n) (hl2 : xs.length = n2) (hn : n ≤ 1099511627776) :
    Calls Tryz.prog 14 #[.slice A n c, .slice B n2 d] w fun e w' => e = .returned (.bool true) ∧ ∃ m, w' = w.drewN m := by
  obtain rfl : n = n2 := by omega
  have Hl := Lib.hid hl
  clear hl hl2
  go_enter Tryz.func14, Tryz.ntmps14
  go_wp2
  go_loopw [5] (fun i wr => ∃ k m : Nat, k ≤ n ∧ i = .int .i64 (k : Int) ∧ wr = w.drewN m) (fun i _ => n - (intOf i).toNat)
  case atStart => exact ⟨0, 0, Nat.zero_le _, rfl, rfl⟩
  case round =>
    obtain ⟨k, m, hk, rfl, rfl⟩ := hrel
    by_cases hlt : k < n
    · obtain ⟨a, rfl, hca⟩ := hA.some (j := k) (by rw [VI_length, Hl.out]; exact hlt)
      obtain ⟨b, rfl, hcb⟩ := hB.some (j := k) (by rw [VI_length, Hl.out]; exact hlt)
      rw [VI_get _ _ (by rw [Hl.out]; exact hlt)] at hca hcb
      go_wp2
      go_quiet (fail)
      go_wp2
      go_roundw
      case rel => exact ⟨k + 1, m + nq, by omega, by go_num, by simp⟩
      case measure => simp [intOf]; omega
    · go_wp2
      go_ret
      exact ⟨rfl, m, rfl⟩
theorem own_pos {w : World} {base : Nat} {e : TypeId} {v : Value} {n : Nat} {xs : List Value} (h : w.ownsRow base e 1 v n xs) (hn : 0 < n) : ∃ g cap, v = .slice (some ⟨g, 0, none⟩) n cap ∧ n ≤ cap ∧ base ≤ g ∧ Sl w (some ⟨g, 0, none⟩) xs := by
  have h' := h
  rcases h.2 with ⟨_, e0⟩ | ⟨g, cap, cur, rfl, hg, _, hc, _⟩
  · omega
  · obtain ⟨A, c, hv, hS, _, _⟩ := own_sl h'
    injection hv with q1 q2 q3
    subst q1
    exact ⟨g, cap, rfl, hc, hg, hS⟩
theorem roomy_nums (n cap : Nat) {p : List Nat} (h : ([] ++ p ++ [171] ++ [171]).length ≤ cap) (hl : p.length = n) : (n : Int) + 1 ≤ (cap : Int) ∧ ((n : Int) + 1).toNat = n + 1 ∧ (0 : Int) ≤ (n : Int) + 1 ∧ n + 1 ≤ cap := by
  simp at h
  omega
/-- bytes in a list of their own, with room behind them -/
theorem roomy_any (w : World) (A : Option Addr) (n c : Nat) (p : List Nat) (hA : Sl w A (VY p)) (hl : p.length = n) (hc : A = none → c = 0) (hn : n ≤ 65536) :
    Calls Tryz.prog 20 #[.slice A n c] w fun e w' => ∃ g cc, e = .returned (.slice (some ⟨g, 0, none⟩) (n + 1) cc) ∧ n + 1 ≤ cc ∧ w.heap.size ≤ g ∧ Sl w' (some ⟨g, 0, none⟩) (VY (p ++ [171])) ∧ Below w.heap.size w w' := by
  have HA := Lib.hid hA
  have Hl := Lib.hid hl
  have Hc := Lib.hid hc
  clear hA hl hc
  have hl1 : (([] : List Nat) ++ p).length + 1 ≤ 1099511627776 := by rw [List.nil_append, Hl.out]; omega
  have hl2 : (([] : List Nat) ++ p ++ [171]).length + 1 ≤ 1099511627776 := by rw [List.nil_append, List.length_append, Hl.out]; simp; omega
  go_enter Tryz.func20, Tryz.ntmps20
  go_wp2_with (first
    | (at_builtin; refine app_u8 rfl _ _ rfl w.heap.size _ ([] ++ p ++ [171]) rfl (World.ownsRow.alloc hown2 _) (some ⟨w2.heap.size, 0, none⟩) 1 1 [171] rfl (fun h => by cases h) rfl (sl_blk (heap_alloc_new w2 _)) hl2 hs2 ?_; intro v3 w3 hown3 hg3; have hB3 := below_app hB2 hg3 (Nat.le_refl _) (fun k hk => (World.ownsRow.lt hown2 k hk).1); obtain ⟨g, cap, rfl, hcap, hge, hsl⟩ := own_pos hown3 (by simp); have hj := roomy_nums n cap hcap Hl.out; obtain ⟨j1, j2, j3, j4⟩ := hj)
    | (at_builtin; refine app_u8 rfl _ _ rfl w.heap.size _ ([] ++ p) rfl (World.ownsRow.alloc hown1 _) (some ⟨w1.heap.size, 0, none⟩) 1 1 [171] rfl (fun h => by cases h) rfl (sl_blk (heap_alloc_new w1 _)) hl1 hs1 ?_; intro v2 w2 hown2 hg2; have hB2 := below_app hB1 hg2 (Nat.le_refl _) (fun k hk => (World.ownsRow.lt hown1 k hk).1); have hs2 : w.heap.size ≤ (w2.alloc (.cells #[.int .u8 171] 5)).heap.size := by have := hB2.size; simp; omega)
    | (at_builtin; refine app_u8 rfl _ _ rfl w.heap.size _ [] rfl (World.ownsRow_made w #[] 0 (Nat.le_refl _) (by decide) (by simp)) A n c p rfl Hc.out Hl.out (HA.out.below ((Below.refl _ w).alloc (Nat.le_refl _) _)) (by simp; omega) (by simp) ?_; intro v1 w1 hown1 hg1; have hB1 := below_app (Below.refl _ w) hg1 (Nat.le_refl _) (fun k hk => by have : some w.heap.size = some k := hk; injection this; omega); have hs1 : w.heap.size ≤ (w1.alloc (.cells #[.int .u8 171] 5)).heap.size := by have := hB1.size; simp; omega))
  go_ret
  have hpre := hsl
  refine ⟨g, cap, rfl, by omega, hge, ?_, hB3⟩
  have h9 := sl_cutY hsl 0 (n + 1)
  rw [Nat.add_zero, List.drop_zero, List.nil_append, List.take_left' (by rw [List.length_append, Hl.out]; rfl)] at h9
  exact h9
/-- are the bytes what they were, and the room behind them? -/
theorem stands_any (w : World) (g cc : Nat) (B : Option Addr) (n d : Nat) (p : List Nat) (hS : Sl w (some ⟨g, 0, none⟩) (VY (p ++ [171]))) (hB : Sl w B (VY p)) (hl : p.length = n) (hc : n + 1 ≤ cc) (hn : n ≤ 65536) :
    Calls Tryz.prog 25 #[.slice (some ⟨g, 0, none⟩) (n + 1) cc, .slice B n d] w fun e w' => e = .returned (.bool true) ∧ ∃ q, w' = w.drewN q := by
  have hlast := hS.cell _ rfl n _ (VY_get (p ++ [171]) n (by simp; omega))
  rw [show (⟨g, 0, none⟩ : Addr).add n = ⟨g, n, none⟩ by unfold Addr.add; split <;> simp_all] at hlast
  have e171 : List.getD (p ++ [171]) n 0 = 171 := by subst hl; simp [List.getD]
  rw [e171] at hlast
  have hS0 := sl_cutY hS 0 n
  rw [Nat.add_zero, List.drop_zero, List.take_left' hl] at hS0
  have HSm := Lib.hid (same_true w (some ⟨g, 0, none⟩) B n cc d p hS0 hB hl (by omega))
  have j1 : (n : Int) ≤ (cc : Int) := by omega
  have j2 : (n : Int) < (n : Int) + 1 := by omega
  have j3 : n ≤ cc := by omega
  clear hS hB hl hS0
  go_enter Tryz.func25, Tryz.ntmps25
  go_wp2_with (go_at_call 8; refine HSm.out.mono ?_; rintro e w' ⟨rfl, q, rfl⟩)
  go_ret
  exact ⟨rfl, q, rfl⟩
theorem app_u8_mv {w : World} {ops : Array Oper} {rest : List Oper} {o : Oper} {a : Act} {Q : Exit → Act → World → Prop} (hgd : o.guard = none) (s x : Operand)
    (ho : o.op = .call { callee := .builtin .append, args := #[s, x], argTypes := #[25, 25] })
    (base : Nat) (v : Value) (xs : List Nat) (hs : a.eval s = v) (hown : w.ownsRow base 5 1 v xs.length (VY xs))
    (ad : Addr) (m c : Nat) (news : List Nat) (hx : a.eval x = .slice (some ad) m c) (hl : news.length = m) (hnews : Sl w (some ad) (VY news))
    (h63 : xs.length + m ≤ 1099511627776) (hbase : base ≤ w.heap.size)
    (h : ∀ v' w', w'.ownsRow base 5 1 v' (xs ++ news).length (VY (xs ++ news)) → w.grownBy w' v.ownBlock → (v'.ownBlock = v.ownBlock ∨ v'.ownBlock = some w.heap.size) → wpList Tryz.prog ops Q rest (a.put o.dst v') w') : wpList Tryz.prog ops Q (o :: rest) a w := by
  obtain ⟨i0, hi, hz0, hz1, hz2⟩ := info_parts info_u8
  refine wpList_append_own_at w hgd s x 25 ho base 5 i0 (.int .u8 0) 1 1 Tryz.underlying25 hi hz0 hz1 hz2 rfl (by decide) v xs.length (VY xs) hs hown ad m c (VY news) hx (by rw [VY_length]; omega) (hnews.cell ad rfl) (VY_one _) (by unfold maxLen; omega) (by omega) hbase ?_
  intro v' w' h1 h2 _ h4
  refine h v' w' ?_ h2 h4
  rw [List.length_append, hl, VY_append]
  exact h1
theorem own_blkP {w : World} {base : Nat} {e : TypeId} {v : Value} {n : Nat} {xs : List Value} (h : w.ownsRow base e 1 v n xs) (hn : 0 < n) : ∃ g cap cur, v = .slice (some ⟨g, 0, none⟩) n cap ∧ w.heap[g]? = some (.cells cur e (0, 0)) ∧ n ≤ cur.size ∧ v.ownBlock = some g := by
  rcases h.2 with ⟨_, e0⟩ | ⟨g, cap, cur, rfl, hg, hb, hc, _, hs, _⟩
  · omega
  · exact ⟨g, cap, cur, rfl, hb, by omega, rfl⟩
end Go.Proofs.YtfjhcgmaignaoaaGreat
