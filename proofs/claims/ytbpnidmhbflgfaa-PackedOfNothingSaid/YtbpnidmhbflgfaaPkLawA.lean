/- The law PackedPacks, walked. -/
import Derived.Test.YtbpnidmhbflgfaaPkAlike
namespace Go.Proofs.Ytbpnidmhbflgfaa
set_option linter.unusedVariables false
set_option linter.unusedSimpArgs false
open Go.RowKit PkMath

/-- a slice of numbers of the kind uint64 that came in -/
structure Arg (w : World) (A : Option Addr) (n c : Nat) (l : List Nat) : Prop where
  sl : Sl w A (V l)
  len : l.length = n
  cap : n ≤ c
  nil : A = none → c = 0
  lt : ∀ x ∈ l, x < 2 ^ 64
theorem arg_of_row {w : World} {a : Option Addr} {len cap : Nat} {zs : List Int}
    (h : (a = none ∧ len = 0 ∧ cap = 0 ∧ zs = []) ∨
      ∃ x, a = some x ∧ len ≤ cap ∧ cap ≤ maxLen ∧ zs.length = cap ∧ (∀ i, i < zs.length → w.cell? (x.add i) = some (.int .u64 (zs.getD i 0))) ∧ ∀ n ∈ zs, (Lit.int .u64 n).wf = true) :
    ∃ l, Arg w a len cap l := by
  rcases h with ⟨rfl, rfl, rfl, rfl⟩ | ⟨x, rfl, hlen, _, hz, hc, hw⟩
  · exact ⟨[], sl_nil w, rfl, Nat.le_refl _, fun _ => rfl, fun x hx => by cases hx⟩
  · have hb : ∀ n ∈ zs, 0 ≤ n ∧ n < 18446744073709551616 := fun n hn => by
      have := hw n hn
      simp [Lit.wf, IntKind.min, IntKind.max, IntKind.signed, IntKind.bits] at this
      omega
    refine ⟨(zs.take len).map Int.toNat, ⟨fun e => (by cases e), fun a ha j u hu => ?_⟩, by simp; omega, hlen, fun e => (by cases e), fun y hy => ?_⟩
    · cases ha
      simp only [V, List.map_map] at hu
      rw [List.getElem?_map, List.getElem?_take] at hu
      split at hu
      · rename_i hj
        have hjz : j < zs.length := by omega
        rw [List.getElem?_eq_getElem hjz] at hu
        simp only [Option.map_some, Option.some.injEq, Function.comp] at hu
        rw [hc j hjz, ← hu]
        simp only [List.getD, List.getElem?_eq_getElem hjz, Option.getD_some]
        rw [Int.toNat_of_nonneg (hb _ (List.getElem_mem hjz)).1]
      · simp at hu
    · obtain ⟨n, hn, rfl⟩ := List.mem_map.1 hy
      have := hb n (List.mem_of_mem_take hn)
      omega

/-- a row of the call's own that is no nil -/
theorem own_blk {w : World} {base : Nat} {e : TypeId} {v : Value} {n : Nat} {xs : List Value} (h : w.ownsRow base e 1 v n xs) (hv : v ≠ .slice none 0 0) :
    ∃ g cap cur, v = .slice (some ⟨g, 0, none⟩) n cap ∧ base ≤ g ∧ w.heap[g]? = some (.cells cur e (0, 0)) ∧ n ≤ cap ∧ n ≤ cur.size ∧ cur.toList.take n = xs := by
  rcases h.2 with ⟨rfl, _⟩ | ⟨g, cap, cur, rfl, hg, hb, hn, _, hs, ht⟩
  · exact absurd rfl hv
  · rw [Nat.mul_one] at ht
    exact ⟨g, cap, cur, rfl, hg, hb, hn, by omega, ht⟩
theorem sl_take {w : World} {g n : Nat} {cur : Array Value} {xs : List Value} {t : TypeId} {fr : Nat × Nat} (hb : w.heap[g]? = some (.cells cur t fr)) (ht : cur.toList.take n = xs) : Sl w (some ⟨g, 0, none⟩) xs :=
  ⟨fun h => (by cases h), fun a ha j u hu => by
    cases ha
    rw [show (⟨g, 0, none⟩ : Addr).add j = ⟨g, j, none⟩ by unfold Addr.add; split <;> simp_all, cell_blk hb]
    rw [← ht, List.getElem?_take] at hu
    split at hu
    · simpa using hu
    · cases hu⟩
/-- a block whose first n cells are numbers -/
def NumBlk (w : World) (g n : Nat) : Prop := ∃ cur : Array Value, w.heap[g]? = some (.cells cur 25 (0, 0)) ∧ ∀ i, i < n → ∃ x : Int, cur[i]? = some (.int .u64 x)
theorem NumBlk.set {w : World} {g n : Nat} (h : NumBlk w g n) (j : Nat) (x : Int) : NumBlk (w.setCell ⟨g, j, none⟩ (.int .u64 x)) g n := by
  obtain ⟨cur, hb, hc⟩ := h
  refine ⟨_, blk_set hb j _, fun i hi => ?_⟩
  obtain ⟨y, hy⟩ := hc i hi
  have hlt : i < cur.size := (Array.getElem?_eq_some_iff.1 hy).1
  rw [Array.getElem?_setIfInBounds]
  by_cases he : j = i
  · subst he; exact ⟨x, by simp [hlt]⟩
  · exact ⟨y, by simp [he, hy]⟩
theorem NumBlk.of_take {w : World} {g n : Nat} {cur : Array Value} {l : List Nat} (hb : w.heap[g]? = some (.cells cur 25 (0, 0))) (ht : cur.toList.take n = V l) (hl : l.length = n) : NumBlk w g n := by
  refine ⟨cur, hb, fun i hi => ?_⟩
  have h := V_get l i (by omega)
  rw [← ht, List.getElem?_take, if_pos hi] at h
  exact ⟨_, by simpa using h⟩
theorem NumBlk.cell {w : World} {g n : Nat} (h : NumBlk w g n) {i : Nat} (hi : i < n) : ∃ x : Int, w.cell? ⟨g, i, none⟩ = some (.int .u64 x) ∧ w.frozen? ⟨g, i, none⟩ = false := by
  obtain ⟨cur, hb, hc⟩ := h
  obtain ⟨x, hx⟩ := hc i hi
  exact ⟨x, by rw [cell_blk hb, hx], frozen_blk hb _⟩

theorem lawPacks (A : Option Addr) (n c : Nat) (l : List Nat) (w : World) (h : Arg w A n c l) :
    Calls Try.prog 3 #[.slice A n c] w (TrueBelow w) := by
  by_cases hbig : 500 < n
  · go_enter Try.func3, Try.ntmps3
    go_wp2_with fail
    go_ret
    exact ⟨rfl, Below.refl _ _⟩
  · obtain ⟨hA, hl, hc, hcn, h64⟩ := h
    have Hl := Lib.hid hl
    have Hc := Lib.hid hcn
    have HO := Lib.hid h64
    clear hl hcn h64
    go_enter Try.func3, Try.ntmps3
    go_wp2_with (at_builtin; refine app_u64 rfl _ _ rfl w.heap.size _ [] rfl (World.ownsRow_made w #[] 0 (Nat.le_refl _) (by decide) (by simp)) A n c l rfl Hc.out Hl.out (hA.below ((Below.refl _ w).alloc (Nat.le_refl _) _)) (by simp; omega) (by simp) ?_; intro v' w1 hown1 hgrow hnil)
    obtain ⟨g, cap, cur, rfl, hg, hblk, hcap, hcs, htake⟩ := own_blk hown1 (fun e => by have := (hnil.1 e).1; cases this)
    have hB1 : Below w.heap.size w w1 := ((Below.refl _ w).alloc (Nat.le_refl _) _).grown hgrow (by simp) (fun k hk => by have hk' : some w.heap.size = some k := hk; injection hk' with hk'; omega)
    rw [List.nil_append] at hcap hcs htake hown1 ⊢
    rw [Hl.out] at hcap hcs htake hown1 ⊢
    have hs1 := sl_take hblk htake
    have hN1 := NumBlk.of_take hblk htake Hl.out
    have hgl := blk_lt hblk
    clear hown1 hgrow hnil hblk htake hcs
    go_wp2_with fail
    refine (pack_any _ l n cap w1 hs1 Hl.out hcap (by omega) HO.out).mono ?_
    rintro e w2 ⟨b, q, rfl, hP, hbb, hqq, hB2⟩
    have hN2 : NumBlk w2 g n := by
      obtain ⟨cur, hb, hc⟩ := hN1
      exact ⟨cur, (hB2.block g hgl).trans hb, hc⟩
    have hB3 := below_trans hB1 hB2
    have hgb : ¬ b = g := by omega
    have hgq : ¬ q = g := by omega
    clear hB2 hN1 hs1 hbb hqq hgl
    go_wp2_with fail
    go_loopw [5] (fun i wr => ∃ j : Nat, j ≤ n ∧ i = .int .i64 (j : Int) ∧ NumBlk wr g n ∧ PArr wr b q (wid l) l ∧ Below w.heap.size w wr) (fun i _ => n - (intOf i).toNat)
    case atStart => exact ⟨0, Nat.zero_le _, rfl, hN2, hP, hB3⟩
    case round =>
      clear hN2 hP hB3 hB1
      obtain ⟨j, hj, rfl, hN, hP, hB⟩ := hrel
      by_cases hlt : j < n
      · obtain ⟨x, hx, hfr⟩ := hN.cell hlt
        go_wp2_with fail
        go_roundw
        case rel =>
          refine ⟨j + 1, by omega, by go_num, hN.set j _, hP.kept (Below.heap_setCell _ _ _ _ hgb) (Below.heap_setCell _ _ _ _ hgq), hB.setCell hg _⟩
        case measure => simp [intOf]; omega
      · clear hN
        go_wp2_with fail
        refine (refPack_any A l n c _ (hA.below hB) Hl.out Hc.out (by omega) HO.out).mono ?_
        rintro e w3 ⟨v3, rfl, hown3, hB3⟩
        obtain ⟨A3, c3, rfl, hs3, _, _⟩ := own_sl hown3
        clear hown3
        go_wp2_with fail
        refine (alike_any (hP.below hB3) A3 _ c3 hs3 rfl).mono ?_
        rintro e w4 ⟨rfl, hB4⟩
        go_wp2_with fail
        refine (known_any w4).mono ?_
        rintro e w5 ⟨rfl, hB5⟩
        go_wp2_with fail
        go_ret
        exact ⟨rfl, below_trans (below_trans (below_trans hB hB3) hB4) hB5⟩

end Go.Proofs.Ytbpnidmhbflgfaa
