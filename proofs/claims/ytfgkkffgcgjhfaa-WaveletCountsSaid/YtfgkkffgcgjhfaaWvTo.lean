/- wavelet: a Tree in memory; level.to, Len, Width, within, bit, isSym. -/
import Derived.Test.YtfgkkffgcgjhfaaBtLawB
import Derived.Test.YtfgkkffgcgjhfaaWvMath
namespace Go.Proofs.Ytfgkkffgcgjhfaa
set_option linter.unusedVariables false
set_option linter.unusedSimpArgs false
open Go.RowKit PkMath Pop Rank BtMath Wv

theorem i64_and_nat (a b : Nat) (ha : a < 9223372036854775808) (hb : b < 9223372036854775808) : bits .and .i64 (a : Int) (b : Int) = ((a &&& b : Nat) : Int) := by
  have hx : a &&& b < 2 ^ 63 := Nat.and_lt_two_pow _ (by omega)
  show IntKind.i64.wrap ((BitVec.ofInt 64 (a : Int) &&& BitVec.ofInt 64 (b : Int)).toNat : Int) = _
  rw [BitVec.toNat_and, ofInt_u64 a (by omega), ofInt_u64 b (by omega)]
  exact wrap_small _ (by omega) (by omega)
theorem i64_or_nat (a b : Nat) (ha : a < 9223372036854775808) (hb : b < 9223372036854775808) : bits .or .i64 (a : Int) (b : Int) = ((a ||| b : Nat) : Int) := by
  have hx : a ||| b < 2 ^ 63 := Nat.or_lt_two_pow (by omega) (by omega)
  show IntKind.i64.wrap ((BitVec.ofInt 64 (a : Int) ||| BitVec.ofInt 64 (b : Int)).toNat : Int) = _
  rw [BitVec.toNat_or, ofInt_u64 a (by omega), ofInt_u64 b (by omega)]
  exact wrap_small _ (by omega) (by omega)
theorem i64_bit (c D : Nat) (hc : c < 2 ^ 63) : bits BinOp.and IntKind.i64 ((c : Int) / 2 ^ D) 1 = (((c.testBit D).toNat : Nat) : Int) := by
  have hs : (c : Int) / 2 ^ D = ((c / 2 ^ D : Nat) : Int) := by rw [Int.natCast_ediv, Int.natCast_pow]; rfl
  rw [hs]
  have := i64_and_nat (c / 2 ^ D) 1 (Nat.lt_of_le_of_lt (Nat.div_le_self _ _) hc) (by decide)
  rw [show ((1 : Int)) = ((1 : Nat) : Int) from rfl, this]
  congr 1
  rw [Nat.and_one_is_mod, Nat.toNat_testBit]
theorem pow_small (W : Nat) (h : W ≤ 16) : RowKit.wrap64 (2 ^ W) = 2 ^ W := by
  have h1 : (2 : Nat) ^ W ≤ 2 ^ 16 := Nat.pow_le_pow_right (by decide) h
  have h2 : ((2 : Int) ^ W) = ((2 ^ W : Nat) : Int) := by rw [Int.natCast_pow]; rfl
  rw [h2]
  clear h2
  generalize (2 : Nat) ^ W = p at *
  unfold RowKit.wrap64
  omega

/-- where a place goes on the next level -/
theorem nx_any {w : World} {base v d : Nat} {l : List Nat} (h : BVec w base v (bitsOf d l)) (b : Bool) (i : Nat) :
    Calls Try.prog 52 #[.agg #[.pointer (some ⟨v, 0, none⟩), .int .i64 ((zeros d l : Nat) : Int)], .bool b, .int .i64 (i : Int)] w (IntBelow ((nx d l b i : Nat) : Int) w) := by
  have hA : BVec (w.alloc (.cells #[.pointer (some ⟨v, 0, none⟩), .int .i64 ((zeros d l : Nat) : Int)] 74)) base v (bitsOf d l) := h.keep fun k _ hk => Below.heap_alloc _ _ _ hk
  have hB : Below w.heap.size w (w.alloc (.cells #[.pointer (some ⟨v, 0, none⟩), .int .i64 ((zeros d l : Nat) : Int)] 74)) := (Below.refl _ w).alloc (Nat.le_refl _) _
  have hlen := h.len
  rw [bitsOf_length] at hlen
  have hto := nx_le d l b i
  have HR := Lib.hid (fun m : Nat => rank_any (hA.drewN m) b (i : Int))
  rw [Int.toNat_natCast] at HR
  cases b with
  | true =>
    have hr : nx d l true i = zeros d l + rk (bitsOf d l) true i := rfl
    rw [hr] at hto ⊢
    have hnew := heap_alloc_new w (.cells #[.pointer (some ⟨v, 0, none⟩), .int .i64 ((zeros d l : Nat) : Int)] 74)
    generalize zeros d l = z at *
    generalize rk (bitsOf d l) true i = r at *
    clear hr
    go_enter Try.func52, Try.ntmps52
    go_wp2_with fail
    go_quiet ((go_at_call 19; exact Calls.quiet_of (HR.out _)))
    go_wp2_with fail
    go_ret
    exact ⟨rfl, hB.trans (below_drewN _ _ _)⟩
  | false =>
    have hr : nx d l false i = rk (bitsOf d l) false i := rfl
    rw [hr] at hto ⊢
    generalize zeros d l = z at *
    generalize rk (bitsOf d l) false i = r at *
    clear hr
    go_enter Try.func52, Try.ntmps52
    go_wp2_with fail
    go_at_call 19
    refine (HR.out 0).mono ?_
    rintro e w1 ⟨rfl, m, rfl⟩
    go_wp2_with fail
    go_ret
    exact ⟨rfl, hB.trans (below_drewN _ _ _)⟩

/-- a wavelet.Tree in memory: block b, its blocks from base on -/
structure TM (w : World) (base b W : Nat) (l : List Nat) : Prop where
  W1 : 1 ≤ W
  W2 : W ≤ 16
  len : l.length ≤ 131072
  lt : ∀ x ∈ l, x < 2 ^ W
  ge : base ≤ b
  blk : ∃ (h cap : Nat) (cur : Array Value) (vb : Nat → Nat), base ≤ h ∧
    w.heap[b]? = some (.cells #[.int .i64 (l.length : Int), .slice (some ⟨h, 0, none⟩) W cap] 71 (0, 0)) ∧
    w.heap[h]? = some (.cells cur 74 (0, 0)) ∧
    ∀ k, k < W → cur[2 * k]? = some (.pointer (some ⟨vb k, 0, none⟩)) ∧ cur[2 * k + 1]? = some (.int .i64 ((zeros (W - 1 - k) (lvl W l k) : Nat) : Int)) ∧ BVec w base (vb k) (bitsOf (W - 1 - k) (lvl W l k))
theorem TM.keep {w w' : World} {base b W : Nat} {l : List Nat} (h : TM w base b W l) (hk : ∀ k, base ≤ k → k < w.heap.size → w'.heap[k]? = w.heap[k]?) : TM w' base b W l := by
  obtain ⟨h1, h2, h3, h4, h5, hh, cap, cur, vb, hg, hb, hc, hl⟩ := h
  exact ⟨h1, h2, h3, h4, h5, hh, cap, cur, vb, hg, (hk b h5 (blk_lt hb)).trans hb, (hk hh hg (blk_lt hc)).trans hc, fun k hkW => ⟨(hl k hkW).1, (hl k hkW).2.1, (hl k hkW).2.2.keep hk⟩⟩
theorem TM.below {w w' : World} {base b W : Nat} {l : List Nat} (h : TM w base b W l) (hb : Below w.heap.size w w') : TM w' base b W l :=
  h.keep fun k _ hk => hb.block k hk
theorem TM.c0 {w : World} {base b W : Nat} {l : List Nat} (h : TM w base b W l) : w.cell? ⟨b, 0, none⟩ = some (.int .i64 (l.length : Int)) := by
  obtain ⟨h1, h2, h3, h4, h5, hh, cap, cur, vb, hg, hb, hc, hl⟩ := h
  rw [cell_blk hb]; rfl
theorem TM.c1 {w : World} {base b W : Nat} {l : List Nat} (h : TM w base b W l) : ∃ hh cap, w.cell? ⟨b, 1, none⟩ = some (.slice (some ⟨hh, 0, none⟩) W cap) ∧
    ∀ k, k < W → ∃ v, w.cell? ⟨hh, k * 2, none⟩ = some (.pointer (some ⟨v, 0, none⟩)) ∧ w.cell? ⟨hh, k * 2 + 1, none⟩ = some (.int .i64 ((zeros (W - 1 - k) (lvl W l k) : Nat) : Int)) ∧ BVec w base v (bitsOf (W - 1 - k) (lvl W l k)) := by
  obtain ⟨h1, h2, h3, h4, h5, hh, cap, cur, vb, hg, hb, hc, hl⟩ := h
  refine ⟨hh, cap, by rw [cell_blk hb]; rfl, fun k hk => ?_⟩
  obtain ⟨a1, a2, a3⟩ := hl k hk
  refine ⟨vb k, ?_, ?_, a3⟩
  · rw [cell_blk hc, Nat.mul_comm]; exact a1
  · rw [cell_blk hc, Nat.mul_comm]; exact a2

theorem tlen_nil (w : World) : Calls Try.prog 32 #[.pointer none] w fun e w' => e = .returned (.int .i64 0) ∧ w = w' := by
  go_enter Try.func32, Try.ntmps32
  go_wp2
  go_ret
  exact ⟨rfl, rfl⟩
theorem tlen_cell (b : Nat) (n : Int) (w : World) (h1 : w.cell? ⟨b, 0, none⟩ = some (.int .i64 n)) :
    Calls Try.prog 32 #[.pointer (some ⟨b, 0, none⟩)] w fun e w' => e = .returned (.int .i64 n) ∧ w = w' := by
  go_enter Try.func32, Try.ntmps32
  go_wp2
  go_ret
  exact ⟨rfl, rfl⟩
theorem twid_nil (w : World) : Calls Try.prog 35 #[.pointer none] w fun e w' => e = .returned (.int .i64 0) ∧ w = w' := by
  go_enter Try.func35, Try.ntmps35
  go_wp2
  go_ret
  exact ⟨rfl, rfl⟩
theorem twid_any {w : World} {base b W : Nat} {l : List Nat} (h : TM w base b W l) :
    Calls Try.prog 35 #[.pointer (some ⟨b, 0, none⟩)] w fun e w' => e = .returned (.int .i64 (W : Int)) ∧ w = w' := by
  obtain ⟨hh, cap, hc, _⟩ := h.c1
  have h2 := h.W2
  clear h
  go_enter Try.func35, Try.ntmps35
  go_wp2
  go_ret
  exact ⟨rfl, rfl⟩
theorem bit_any {w : World} {base b W : Nat} {l : List Nat} (h : TM w base b W l) (c k : Nat) (hk : k < W) (hc : c < 2 ^ 63) :
    Calls Try.prog 51 #[.pointer (some ⟨b, 0, none⟩), .int .i64 (c : Int), .int .i64 (k : Int)] w fun e w' => e = .returned (.bool (c.testBit (W - 1 - k))) ∧ w = w' := by
  obtain ⟨hh, cap, hcell, _⟩ := h.c1
  have h2 := h.W2
  have Hc := Lib.hid hc
  clear h hc
  obtain ⟨D, hD⟩ : ∃ D, W - 1 - k = D := ⟨_, rfl⟩
  have e1 : (W : Int) - 1 - (k : Int) = (D : Int) := by omega
  rw [hD]
  clear hD
  go_enter Try.func51, Try.ntmps51
  go_wp2_with fail
  go_ret
  refine ⟨ret_bool ?_, rfl⟩
  rw [i64_bit _ _ Hc.out]
  cases c.testBit D <;> rfl
theorem isSym_nil (c : Int) (w : World) : Calls Try.prog 49 #[.pointer none, .int .i64 c] w fun e w' => e = .returned (.bool false) ∧ w = w' := by
  go_enter Try.func49, Try.ntmps49
  go_wp2
  go_ret
  exact ⟨rfl, rfl⟩
theorem isSym_any {w : World} {base b W : Nat} {l : List Nat} (h : TM w base b W l) (c : Int) :
    Calls Try.prog 49 #[.pointer (some ⟨b, 0, none⟩), .int .i64 c] w fun e w' => e = .returned (.bool (decide (0 ≤ c ∧ c < 2 ^ W))) ∧ w = w' := by
  have HW := Lib.hid (twid_any h)
  have h2 := h.W2
  clear h
  by_cases hc : c < 0
  · have hd : decide (0 ≤ c ∧ c < 2 ^ W) = false := decide_eq_false (by omega)
    rw [hd]
    clear hd
    go_enter Try.func49, Try.ntmps49
    go_wp2
    go_ret
    exact ⟨rfl, rfl⟩
  go_enter Try.func49, Try.ntmps49
  go_wp2_with (go_at_call 35; refine HW.out.mono ?_; rintro e w' ⟨rfl, rfl⟩)
  go_ret
  refine ⟨ret_bool ?_, rfl⟩
  rw [pow_small W h2]
  have h0 : 0 ≤ c := by omega
  simp only [h0, true_and]
end Go.Proofs.Ytfgkkffgcgjhfaa
