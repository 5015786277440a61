/- slices.Collect, Sort, Sorted, Clone, Concat, BinarySearch at strings. -/
import Derived.Test.YtphccomhggnccaaGreatSgA
import Derived.Test.YtphccomhggnccaaGreatShelf
import Derived.Sort.OwnSorted
import Derived.Lib.AppendZeros
import Derived.Test.YtphccomhggnccaaGreatSk3
namespace Go.Proofs.YtphccomhggnccaaGreat
set_option maxRecDepth 100000
set_option linter.unusedVariables false
set_option linter.unusedSimpArgs false
set_option maxRecDepth 100000
open Go.RowKit Go.Shelf Go.Sort Sg
def OwnS (w : World) (t : List Key) (e : Ending) (W' : World) : Prop := ∃ v, e = .returned v ∧ W'.ownsRow w.heap.size 9 1 v t.length (VS t) ∧ Below w.heap.size w W'
theorem collectS_any (Bv n₀ : Nat) (sv : Value) (xs : List Key) (hlen : xs.length ≤ 1099511627776) (w : World) (hBv : Bv < w.heap.size) (hn0 : n₀ ≤ w.heap.size) (hcv : w.cell? ⟨Bv, 0, none⟩ = some sv) (hL : SgS.Ints n₀ w sv xs) :
    Calls Tryz.prog 97 #[.func (.func 99) #[] #[.pointer (some ⟨Bv, 0, none⟩)]] w (OwnS w xs) := by
  have hA := callsIn_wide.1 (SgS.appendSeq_any Fence.wide 5 trivial trivial rfl (by omega) Bv n₀ sv xs (by unfold maxLen; omega) (by omega) w hBv hn0 hcv hL)
  have HA := Lib.hid hA
  clear hA hcv hL
  go_enter Tryz.func97, Tryz.ntmps97
  go_wp2_with (go_at_call 134; refine HA.out.mono ?_; rintro e w' ⟨v, rfl, h1, h2, h3⟩)
  go_ret
  exact ⟨v, rfl, h1, h3⟩
theorem sortS_own {base : Nat} {w : World} {v : Value} {t : List Key} (h : w.ownsRow base 9 1 v t.length (VS t)) (hl : t.length ≤ 1099511627776) (hb : base ≤ w.heap.size) :
    Calls Tryz.prog 98 #[v] w fun e W' => e = .returned (.tuple #[]) ∧ W'.ownsRow base 9 1 v (srt t).length (VS (srt t)) ∧ Below base w W' := by
  rcases h.2 with ⟨rfl, h0⟩ | ⟨g, cap, cur, rfl, hg, hbk, hn, hm, hs, ht⟩
  · obtain rfl := List.eq_nil_of_length_eq_zero h0
    refine (Tryz.slices_Sort_string_none none 0 w).mono ?_
    rintro e W' ⟨rfl, rfl⟩
    exact ⟨rfl, by simpa [srt] using h, Below.refl _ _⟩
  · refine (Tryz.slices_Sort_string g 0 cap t w (holds_of_block hbk (by simpa [VS] using ht)) (blk_lt hbk) (by omega)).mono ?_
    rintro e W' ⟨rfl, n, os, rfl⟩
    have hl2 : (t.mergeSort fun x y => decide (x ≤ y)).length = t.length := List.length_mergeSort ..
    refine ⟨rfl, ?_, grown_below (grownBy_sorted _) (fun k hk => by injection hk with hk; omega) hb⟩
    rw [srt_length]
    exact ownsRow_sorted hl2 hg hbk hn hm hs
theorem sortedS_any (Bv n₀ : Nat) (sv : Value) (xs : List Key) (hlen : xs.length ≤ 1099511627776) (w : World) (hBv : Bv < w.heap.size) (hn0 : n₀ ≤ w.heap.size) (hcv : w.cell? ⟨Bv, 0, none⟩ = some sv) (hL : SgS.Ints n₀ w sv xs) :
    Calls Tryz.prog 49 #[.func (.func 99) #[] #[.pointer (some ⟨Bv, 0, none⟩)]] w (OwnS w (srt xs)) := by
  have HC := Lib.hid (collectS_any Bv n₀ sv xs hlen w hBv hn0 hcv hL)
  clear hcv hL
  go_enter Tryz.func49, Tryz.ntmps49
  go_wp2_with fail
  go_at_call 97
  refine HC.out.mono ?_
  rintro e w1 ⟨v, rfl, h1, h3⟩
  have HS := Lib.hid (sortS_own h1 hlen h3.size)
  have H3 := Lib.hid h3
  clear h1 h3 HC
  go_wp2_with fail
  go_at_call 98
  refine HS.out.mono ?_
  rintro e w2 ⟨rfl, h4, h5⟩
  have H4 := Lib.hid h4
  have H5 := Lib.hid (H3.out.trans h5)
  clear h4 h5 HS
  go_wp2_with fail
  go_ret
  exact ⟨v, rfl, H4.out, H5.out⟩
theorem ints_of_sl {w : World} {A : Option Addr} {n c : Nat} {l : List Key} (hS : Sl w A (VS l)) (hl : l.length = n) (hc : A = none → c = 0) (hlt : ∀ a, A = some a → a.block < w.heap.size ∧ a.spot = none) : SgS.Ints w.heap.size w (.slice A n c) l := by
  cases A with
  | none =>
    have h := hS.nil rfl
    have h2 : l.length = 0 := by rw [← VS_length, h]; rfl
    have h3 := List.eq_nil_of_length_eq_zero h2
    subst h3
    rw [hc rfl, ← hl]
    exact .inl ⟨_, _, rfl, rfl⟩
  | some a =>
    obtain ⟨h1, h2⟩ := hlt a rfl
    obtain ⟨b, off, sp⟩ := a
    have h2' : sp = none := h2
    subst h2'
    refine .inr ⟨b, off, c, by rw [hl], h1, fun j hj => ?_⟩
    have h3 := hS.cell _ rfl j _ (VS_get l j hj)
    rwa [show (⟨b, off, none⟩ : Addr).add j = ⟨b, off + j, none⟩ by unfold Addr.add; split <;> simp_all] at h3
abbrev ba (k : Key) : ByteArray := ⟨k.toArray⟩
theorem ba_inj {a b : Key} (h : ba a = ba b) : a = b := by
  have : a.toArray = b.toArray := congrArg ByteArray.data h
  simpa using this
theorem bytesLess_ba (a b : Key) : Op.bytesLess (ba a).toList (ba b).toList = decide (a < b) := by
  rw [bytesLess_eq, Lib.toList_data, Lib.toList_data]
theorem bsGo_key {l : List Key} (hs : l.Pairwise (· ≤ ·)) (x : Key) : Lib.bsGo (fun t => Op.bytesLess (ba (l.getD t [])).toList (ba x).toList) l.length 0 l.length = l.countP fun y => decide (y < x) := by
  have e : Lib.bsGo (fun t => Op.bytesLess (ba (l.getD t [])).toList (ba x).toList) l.length 0 l.length = Lib.bsGo (fun t => decide (t < l.length) && Op.bytesLess (ba (l.getD t [])).toList (ba x).toList) l.length 0 l.length := by
    have key : ∀ (f lo hi : Nat), hi ≤ l.length → Lib.bsGo (fun t => Op.bytesLess (ba (l.getD t [])).toList (ba x).toList) f lo hi = Lib.bsGo (fun t => decide (t < l.length) && Op.bytesLess (ba (l.getD t [])).toList (ba x).toList) f lo hi := by
      intro f
      induction f with
      | zero => intro lo hi _; rfl
      | succ f ih =>
        intro lo hi hh
        unfold Lib.bsGo
        by_cases hl : lo < hi
        · rw [if_pos hl, if_pos hl]
          have hm : (lo + hi) / 2 < l.length := by omega
          simp only [hm, decide_true, Bool.true_and]
          rw [ih _ _ hh, ih _ _ (by omega)]
        · rw [if_neg hl, if_neg hl]
    exact key _ _ _ (Nat.le_refl _)
  rw [e]
  have hcnt : ∀ t, t < l.length → (t < (l.countP fun y => decide (y < x)) ↔ l.getD t [] < x) := by
    have gen : ∀ (m : List Key), m.Pairwise (· ≤ ·) → ∀ t, t < m.length → (t < (m.countP fun y => decide (y < x)) ↔ m.getD t [] < x) := by
      intro m
      induction m with
      | nil => intro _ t ht; cases ht
      | cons a r ih =>
        intro hp t ht
        obtain ⟨h1, h2⟩ := List.pairwise_cons.1 hp
        rw [List.countP_cons]
        by_cases ha : a < x
        · simp only [ha, decide_true, if_true]
          cases t with
          | zero => simp [ha]
          | succ t => rw [List.getD_cons_succ, ← ih h2 t (by simpa using ht)]; omega
        · have hr : r.countP (fun y => decide (y < x)) = 0 := List.countP_eq_zero.2 fun y hy => by
            have := h1 y hy
            simp only [decide_eq_true_eq]
            intro h
            exact ha (List.lt_of_le_of_lt this h)
          rw [hr]
          simp only [ha, decide_false]
          have hn : ¬ (a :: r).getD t [] < x := by
            intro h
            cases t with
            | zero => exact ha h
            | succ t =>
              rw [List.getD_cons_succ] at h
              have := h1 _ (getD_memK (l := r) (i := t) (by simpa using ht))
              exact ha (List.lt_of_le_of_lt this h)
          constructor
          · intro h; simp at h
          · intro h; exact absurd h hn
    exact gen l hs
  refine Lib.bsGo_spec _ _ (fun t ht => ?_) (fun t ht => ?_) _ _ _ (by omega) (Nat.zero_le _) List.countP_le_length
  · have hl : t < l.length := Nat.lt_of_lt_of_le ht List.countP_le_length
    rw [bytesLess_ba]
    rw [decide_eq_true hl, decide_eq_true ((hcnt t hl).1 ht)]
    rfl
  · by_cases hl : t < l.length
    · rw [bytesLess_ba]
      have := mt (hcnt t hl).2 (by omega)
      rw [decide_eq_false this, Bool.and_false]
    · simp [hl]
theorem countP_mem {l : List Key} (hs : l.Pairwise (· ≤ ·)) (hn : l.Nodup) (x : Key) : decide ((l.countP fun y => decide (y < x)) < l.length ∧ ba (l.getD (l.countP fun y => decide (y < x)) []) = ba x) = l.contains x := by
  rw [Bool.eq_iff_iff, decide_eq_true_iff, List.contains_iff_mem]
  constructor
  · rintro ⟨h1, h2⟩
    rw [← ba_inj h2]
    exact getD_memK h1
  · intro hx
    obtain ⟨i, hi, rfl⟩ := List.getElem_of_mem hx
    have hc : (l.countP fun y => decide (y < l[i])) = i := by
      have e1 : l = l.take i ++ l[i] :: l.drop (i + 1) := by rw [List.getElem_cons_drop, List.take_append_drop]
      have hlt := List.pairwise_iff_getElem.1 hs
      have ht : (l.take i).countP (fun y => decide (y < l[i])) = i := by
        rw [List.countP_eq_length.2 fun y hy => ?_, List.length_take, Nat.min_eq_left (by omega)]
        obtain ⟨j, hj, rfl⟩ := List.getElem_of_mem hy
        rw [List.length_take] at hj
        rw [List.getElem_take]
        have h1 := hlt j i (by omega) hi (by omega)
        simp only [decide_eq_true_eq]
        exact Decidable.by_contra fun h3 => absurd (nodup_inj hn (by omega) hi (List.le_antisymm h1 (List.not_lt.1 h3))) (by omega)
      have hd : (l[i] :: l.drop (i + 1)).countP (fun y => decide (y < l[i])) = 0 := List.countP_eq_zero.2 fun y hy => by
        simp only [decide_eq_true_eq]
        rcases List.mem_cons.1 hy with rfl | hy
        · exact ltK_irrefl _
        · obtain ⟨j, hj, rfl⟩ := List.getElem_of_mem hy
          rw [List.getElem_drop]
          rw [List.length_drop] at hj
          have h1 := hlt i (i + 1 + j) hi (by omega) (by omega)
          exact List.not_lt.2 h1
      have e2 := congrArg (List.countP fun y => decide (y < l[i])) e1
      rw [List.countP_append, ht, hd] at e2
      omega
    rw [hc]
    exact ⟨hi, by simp [List.getD, List.getElem?_eq_getElem hi]⟩
theorem searchS_any (w : World) (A : Option Addr) (n c : Nat) (l : List Key) (x : Key) (hS : Sl w A (VS l)) (hl : l.length = n) (hsp : ∀ a, A = some a → a.spot = none) (hn : n ≤ 1099511627776) (hs : l.Pairwise (· ≤ ·)) (hd : l.Nodup) :
    Calls Tryz.prog 71 #[.slice A n c, .string (ba x)] w fun e w' => e = .returned (.tuple #[.int .i64 ((l.countP fun y => decide (y < x) : Nat) : Int), .bool (l.contains x)]) ∧ ∃ q, w' = w.drewN q := by
  by_cases h0 : n = 0
  · subst h0
    obtain rfl := List.eq_nil_of_length_eq_zero hl
    refine (Any2.slices_BinarySearch_string_empty Tryz.searchS A c (ba x) w).mono ?_
    rintro e w' ⟨rfl, rfl⟩
    exact ⟨by simp, 0, rfl⟩
  · cases A with
    | none =>
      have h := hS.nil rfl
      have h2 : l.length = 0 := by rw [← VS_length, h]; rfl
      omega
    | some a =>
      obtain ⟨b, off, sp⟩ := a
      have h2' : sp = none := hsp _ rfl
      subst h2'
      refine (Any2.slices_BinarySearch_string Tryz.searchS b off n c (fun t => ba (l.getD t [])) (ba x) w (by omega) (fun j hj => ?_)).mono ?_
      · have h3 := hS.cell _ rfl j _ (VS_get l j (by omega))
        rwa [show (⟨b, off, none⟩ : Addr).add j = ⟨b, off + j, none⟩ by unfold Addr.add; split <;> simp_all] at h3
      · rintro e w' ⟨rfl, hq⟩
        subst hl
        rw [bsGo_key hs x, countP_mem hs hd x]
        exact ⟨rfl, hq⟩
end Go.Proofs.YtphccomhggnccaaGreat
namespace Go.Proofs.YtphccomhggnccaaGreat
set_option maxRecDepth 100000
set_option linter.unusedVariables false
set_option linter.unusedSimpArgs false
set_option maxRecDepth 100000
open Go.RowKit Go.Shelf Go.Sort Sg
theorem alloc_growD (w : World) (o : Obj) : w.alloc o = Sort.grow w #[o] := by
  unfold World.alloc Sort.grow
  rw [Array.push_eq_append]
theorem lessD_any (x y : De) (w : World) :
    Calls Tryz.prog 47 #[.agg (encD x).toArray, .agg (encD y).toArray] w fun e w' => e = .returned (.int .i64 (Lib.compareBytes x.k y.k)) ∧ ∃ q os', w' = Sort.grow (w.drewN q) os' := by
  have HC := Lib.hid (fun W => Tryz.strings_Compare ⟨x.k.toArray⟩ ⟨y.k.toArray⟩ W)
  dsimp only [encD, encStr]
  go_enter Tryz.func47, Tryz.ntmps47
  go_wp2_with fail
  go_at_call 48
  refine (HC.out _).mono ?_
  rintro e w' ⟨rfl, hw⟩
  subst hw
  have e0 : (ByteArray.mk x.k.toArray).data.toList = x.k := rfl
  have e1 : (ByteArray.mk y.k.toArray).data.toList = y.k := rfl
  clear HC
  go_wp2_with fail
  go_ret
  refine ⟨rfl, 0, #[.cells #[.string ⟨x.k.toArray⟩, .slice x.a x.n x.c] 36, .cells #[.string ⟨y.k.toArray⟩, .slice y.a y.n y.c] 36], ?_⟩
  rw [alloc_growD, alloc_growD, Sort.grow_grow]
  rfl
theorem VD_flat (l : List De) (t : Nat) (h : t < l.length * 2) : (VD l)[t]? = some ((flatK encD 2 l.toArray)[t]!) := by
  rw [get_flatK _ _ _ _ (by simpa using h)]
  have hi : t / 2 < l.length := by omega
  have e : l.toArray[t / 2]! = l[t / 2]?.getD default := by
    simp [getElem!_def, List.getElem?_eq_getElem hi]
  rw [e]
  rcases Nat.mod_two_eq_zero_or_one t with hm | hm
  · rw [hm]
    have := VD_get0 l (t / 2) hi
    rw [show t / 2 * 2 = t by omega] at this
    exact this
  · rw [hm]
    have := VD_get1 l (t / 2) hi
    rw [show t / 2 * 2 + 1 = t by omega] at this
    exact this
theorem holds_docs {w : World} {base g n cap : Nat} {e : TypeId} {l : List De} (h : w.ownsRow base e 2 (.slice (some ⟨g, 0, none⟩) n cap) l.length (VD l)) : HoldsK encD 2 w g 0 l.toArray := by
  intro j hj
  have hj' : j < l.length * 2 := by simpa using hj
  have hf := VD_flat l j hj'
  rcases h.2 with ⟨h0, _⟩ | ⟨g', cap', cur, h0, hg, hb, hn, hm, hs, ht⟩
  · cases h0
  · injection h0 with h1 h2 h3
    injection h1 with h1
    injection h1 with h1
    subst h1
    rw [Nat.zero_add, cell_blk hb, frozen_blk hb]
    refine ⟨?_, rfl⟩
    rw [← ht, List.getElem?_take, if_pos hj'] at hf
    simpa using hf
theorem sl_docs {w : World} {g : Nat} {l : List De} (h : HoldsK encD 2 w g 0 l.toArray) : Sl w (some ⟨g, 0, none⟩) (VD l) :=
  ⟨fun e => (by cases e), fun a ha j u hu => by
    cases ha
    have hj : j < l.length * 2 := by
      rcases Nat.lt_or_ge j (l.length * 2) with h1 | h1
      · exact h1
      · rw [List.getElem?_eq_none (by rw [VD_length]; exact h1)] at hu; cases hu
    have h1 := (h j (by simpa using hj)).1
    rw [Nat.zero_add] at h1
    rw [show (⟨g, 0, none⟩ : Addr).add j = ⟨g, j, none⟩ by unfold Addr.add; split <;> simp_all, h1, ← hu, VD_flat l j hj]
    rfl⟩
theorem grown_mapD (w : World) (blk : Nat) (f : Array Value → Array Value) : w.grownBy (mapBlock w blk f) (some blk) :=
  ⟨rfl, rfl, rfl, by simp [mapBlock], fun k _ hne => by
    have h : blk ≠ k := fun e => hne (by rw [e])
    simp [mapBlock, Array.getElem?_modify, h]⟩
theorem grown_growD (w : World) (os : Array Obj) (r : Option Nat) : w.grownBy (grow w os) r :=
  ⟨rfl, rfl, rfl, by simp [grow], fun k hk _ => by simp [grow, Array.getElem?_append, hk]⟩
theorem grown_putD (w : World) (q blk off : Nat) (d : Array De) : w.grownBy (putRowK encD 2 (Sort.ahead w q) blk off d) (some blk) :=
  grown_trans (b := Sort.ahead w q) ⟨rfl, rfl, rfl, Nat.le_refl _, fun _ _ _ => rfl⟩ (grown_mapD _ _ _)
theorem swk_frame {w0 W : World} {blk off : Nat} {dk : Array De} (h : SWK encD 2 w0 blk off dk W) : w0.grownBy W (some blk) := by
  obtain ⟨n, os, rfl⟩ := h
  exact grown_trans (grown_putD w0 n blk off dk) (grown_growD _ os (some blk))
theorem shuf_perm {α : Type} [Inhabited α] {n : Nat} {d dk : Array α} (hd : d.size = n) (hk : dk.size = n) (h : St.Shuf 0 n (Sk.fA d) (Sk.fA dk)) : dk.toList.Perm d.toList := by
  obtain ⟨σ, τ, p1, p2, p3, p4⟩ := h
  have hin : ∀ x, x < n → σ x < n := fun x hx => by
    by_cases h : σ x < n
    · exact h
    · have h4 := congrArg τ (p3 (σ x) (by omega))
      rw [p2, p2] at h4
      omega
  have hit : ∀ x, x < n → τ x < n := fun x hx => by
    by_cases h : τ x < n
    · exact h
    · have h4 := p3 (τ x) (by omega)
      rw [p1] at h4
      omega
  have hl : ∀ (a : Array α), a.size = n → a.toList = (List.range n).map (Sk.fA a) := fun a ha => by
    apply List.ext_getElem
    · simp [ha]
    · intro i h1 h2
      have : i < a.size := by simpa using h1
      simp [Sk.fA, getElem!_def, this]
  rw [hl d hd, hl dk hk]
  have e1 : (List.range n).map (Sk.fA dk) = ((List.range n).map σ).map (Sk.fA d) := by
    rw [List.map_map]
    exact List.map_congr_left fun x _ => p4 x
  rw [e1]
  refine List.Perm.map _ ?_
  rw [List.perm_iff_count]
  intro a
  have e1 : ((List.range n).map σ).count a = (List.range n).count (τ a) := by
    unfold List.count
    rw [List.countP_map]
    refine List.countP_congr fun x _ => ?_
    simp only [Function.comp, beq_iff_eq]
    constructor
    · intro h; rw [← h, p2]
    · intro h; rw [h, p1]
  rw [e1, List.nodup_range.count, List.nodup_range.count]
  by_cases h : a < n
  · rw [if_pos (List.mem_range.2 (hit a h)), if_pos (List.mem_range.2 h)]
  · have h2 : ¬ τ a < n := fun q => h (by have := hin _ q; rwa [p1] at this)
    rw [if_neg (fun q => h2 (List.mem_range.1 q)), if_neg (fun q => h (List.mem_range.1 q))]
theorem aggDoc (w : World) : (isAgg 36).run Tryz.prog w = .ok true w := by kernel_rfl
theorem sizeDoc (w : World) : (Go.sizeOf 36).run Tryz.prog w = .ok 2 w := by kernel_rfl
def ByKey (l : List De) : Prop := l.Pairwise fun a b => a.k ≤ b.k
theorem stableD_any {base : Nat} {w : World} {g cap : Nat} {l : List De} (h : w.ownsRow base 36 2 (.slice (some ⟨g, 0, none⟩) l.length cap) l.length (VD l)) (h0 : 0 < l.length) (hl : l.length ≤ 1099511627776) (hb : base ≤ w.heap.size) :
    Calls Tryz.prog 132 #[.slice (some ⟨g, 0, none⟩) l.length cap, .int .i64 (l.length : Int), .func (.func 47) #[] #[]] w fun e w' => e = .returned (.tuple #[]) ∧ (∃ m : List De, m.Perm l ∧ ByKey m ∧ Sl w' (some ⟨g, 0, none⟩) (VD m)) ∧ Below base w w' := by
  have hH := holds_docs h
  have hgb : base ≤ g ∧ g < w.heap.size := by
    have := h.lt g rfl
    exact ⟨this.1, this.2⟩
  have hR : RowK encD 2 w g 0 l.toArray := ⟨fun _ => rfl, fun x v hv => encD_one x v hv, hH, hgb.2⟩
  have hcmp : CmpLays Tryz.prog 47 #[] encD 2 (fun x y : De => Lib.compareBytes x.k y.k) g 0 l.toArray.size w := fun m os dk hd x y => lessD_any x y _
  have hT : St.Weak (fun x y : De => x.k < y.k) := ⟨fun x y h h2 => ltK_irrefl _ (List.lt_trans h h2), fun x y z h1 h2 => List.not_lt.2 (List.le_trans (List.not_lt.1 h1) (List.not_lt.1 h2))⟩
  have := Sk.stable_any encD 2 aggDoc sizeDoc (fun x y : De => Lib.compareBytes x.k y.k) (fun x y : De => x.k < y.k) hT 47 #[] g 0 cap l.toArray l.toArray w w (fun _ _ => rfl) hcmp hR (by simp; omega) rfl (by simpa using h0) (SWK.start hH) (fun i j _ _ => compare_lt _ _)
  rw [List.size_toArray] at this
  refine this.mono ?_
  rintro e w' ⟨rfl, dk, hSW, hM⟩
  have hds : dk.size = l.length := by rw [hM.size]; simp
  refine ⟨rfl, ⟨dk.toList, ?_, ?_, ?_⟩, grown_below (swk_frame hSW) (fun k hk => by injection hk with hk; omega) hb⟩
  · have := shuf_perm (n := l.length) (d := l.toArray) (dk := dk) (by simp) hds (by simpa using hM.shuf)
    simpa using this
  · refine List.pairwise_iff_getElem.2 fun i j hi hj hij => ?_
    have hi' : i < dk.size := by simpa using hi
    have hj' : j < dk.size := by simpa using hj
    have h1 := hM.srt i j (Nat.zero_le _) hij (by omega)
    have e1 : Sk.fA dk i = dk[i] := by simp [Sk.fA, getElem!_def, hi']
    have e2 : Sk.fA dk j = dk[j] := by simp [Sk.fA, getElem!_def, hj']
    rw [e1, e2] at h1
    simpa using List.not_lt.1 h1
  · obtain ⟨n, os, rfl⟩ := hSW
    have h2 := holdsK_sortWorldK_c encD 2 w g 0 l.toArray dk n os hH hgb.2 (by simp [hds])
    refine sl_docs (l := dk.toList) ?_
    simpa using h2
theorem stableNilD_any (w : World) : Calls Tryz.prog 94 #[.slice none 0 0, .func (.func 47) #[] #[]] w fun e w' => e = .returned (.tuple #[]) ∧ w' = w := by
  have HI : Calls Tryz.prog 176 #[.slice none 0 0, .int .i64 0, .int .i64 0, .func (.func 47) #[] #[]] w fun e w' => e = .returned (.tuple #[]) ∧ w' = w := by
    go_enter Tryz.func176, Tryz.ntmps176
    go_wp2_with fail
    go_loopw [8] (fun s8 wr => s8 = .int .i64 1 ∧ wr = w) (fun _ _ => 0)
    case atStart => exact ⟨rfl, rfl⟩
    case round =>
      obtain ⟨rfl, rfl⟩ := hrel
      go_wp2_with fail
      go_end0
      exact ⟨rfl, rfl⟩
  have HII := Lib.hid HI
  have HS : Calls Tryz.prog 132 #[.slice none 0 0, .int .i64 0, .func (.func 47) #[] #[]] w fun e w' => e = .returned (.tuple #[]) ∧ w' = w := by
    clear HI
    go_enter Tryz.func132, Tryz.ntmps132
    go_wp2_with fail
    go_loopw [7, 8] (fun s7 s8 wr => s7 = .int .i64 0 ∧ s8 = .int .i64 20 ∧ wr = w) (fun _ _ _ => 0)
    case atStart => exact ⟨rfl, rfl, rfl⟩
    case round =>
      obtain ⟨rfl, rfl, rfl⟩ := hrel
      go_wp2_with fail
      go_at_call 176
      refine HII.out.mono ?_
      rintro e w' ⟨rfl, hw⟩
      subst hw
      go_wp2_with fail
      go_loopw [6] (fun s6 wr => s6 = .int .i64 20 ∧ wr = w') (fun _ _ => 0)
      case atStart => exact ⟨rfl, rfl⟩
      case round =>
        obtain ⟨rfl, rfl⟩ := hrel
        go_wp2_with fail
        go_end0
        exact ⟨rfl, rfl⟩
  have HSS := Lib.hid HS
  clear HI HS HII
  go_enter Tryz.func94, Tryz.ntmps94
  go_wp2_with fail
  go_at_call 132
  refine HSS.out.mono ?_
  rintro e w' ⟨rfl, hw⟩
  subst hw
  go_wp2_with fail
  go_end0
  exact ⟨rfl, rfl⟩
def RowD (w : World) (v : Value) (m : List De) : Prop := ∃ A c, v = .slice A m.length c ∧ m.length ≤ c ∧ Sl w A (VD m) ∧ (A = none → c = 0)
theorem RowD.below {w w' : World} {v : Value} {m : List De} (h : RowD w v m) (hb : Below w.heap.size w w') : RowD w' v m := by
  obtain ⟨A, c, h1, h2, h3, h4⟩ := h
  exact ⟨A, c, h1, h2, h3.below hb, h4⟩
def ByKeyP (w : World) (xs : List De) (e : Ending) (w' : World) : Prop := ∃ v m, e = .returned v ∧ m.Perm xs ∧ ByKey m ∧ RowD w' v m ∧ Below w.heap.size w w'
theorem sortD_own {base : Nat} {w : World} {v : Value} {l : List De} (h : w.ownsRow base 36 2 v l.length (VD l)) (hnil : v = .slice none 0 0 ↔ l = []) (hl : l.length ≤ 1099511627776) (hb : base ≤ w.heap.size) :
    Calls Tryz.prog 94 #[v, .func (.func 47) #[] #[]] w fun e w' => e = .returned (.tuple #[]) ∧ (∃ m : List De, m.Perm l ∧ ByKey m ∧ RowD w' v m) ∧ Below base w w' := by
  rcases h.2 with ⟨rfl, h0⟩ | ⟨g, cap, cur, rfl, hg, hbk, hn, hm, hs, ht⟩
  · obtain rfl := List.eq_nil_of_length_eq_zero h0
    refine (stableNilD_any w).mono ?_
    rintro e w' ⟨rfl, rfl⟩
    exact ⟨rfl, ⟨[], List.Perm.refl _, List.Pairwise.nil, none, 0, rfl, Nat.le_refl _, sl_nil _, fun _ => rfl⟩, Below.refl _ _⟩
  · have hpos : 0 < l.length := by
      rcases Nat.eq_zero_or_pos l.length with h1 | h1
      · have := hnil.2 (List.eq_nil_of_length_eq_zero h1)
        cases this
      · exact h1
    have HS := Lib.hid (stableD_any h hpos hl hb)
    have Hc := Lib.hid hn
    clear h hnil hbk hn hm hs ht hpos
    go_enter Tryz.func94, Tryz.ntmps94
    go_wp2_with fail
    go_at_call 132
    refine HS.out.mono ?_
    rintro e w' ⟨rfl, ⟨m, h1, h2, h3⟩, h4⟩
    have H1 := Lib.hid h1
    have H2 := Lib.hid h2
    have H3 := Lib.hid h3
    have H4 := Lib.hid h4
    clear h1 h2 h3 h4 HS
    go_wp2_with fail
    go_end0
    exact ⟨rfl, ⟨m, H1.out, H2.out, some ⟨g, 0, none⟩, cap, by rw [H1.out.length_eq], by rw [H1.out.length_eq]; exact Hc.out, H3.out, fun e => by cases e⟩, H4.out⟩
theorem collectD_any (Bv n₀ : Nat) (sv : Value) (xs : List De) (hlen : xs.length ≤ 109951162777) (w : World) (hBv : Bv < w.heap.size) (hn0 : n₀ ≤ w.heap.size) (hcv : w.cell? ⟨Bv, 0, none⟩ = some sv) (hL : SgD.Docs n₀ w sv xs) :
    Calls Tryz.prog 93 #[.func (.func 95) #[] #[.pointer (some ⟨Bv, 0, none⟩)]] w (SgD.Gathers w xs) := by
  have hA := callsIn_wide.1 (SgD.appendSeq_any Fence.wide 5 trivial trivial rfl (by omega) Bv n₀ sv xs (by unfold maxLen; omega) (by omega) w hBv hn0 hcv hL)
  have HA := Lib.hid hA
  clear hA hcv hL
  go_enter Tryz.func93, Tryz.ntmps93
  go_wp2_with (go_at_call 131; refine HA.out.mono ?_; rintro e w' ⟨v, rfl, h1, h2, h3⟩; have H1 := Lib.hid h1; have H2 := Lib.hid h2; have H3 := Lib.hid h3; clear h1 h2 h3)
  go_ret
  exact ⟨v, rfl, H1.out, H2.out, H3.out⟩
theorem sortedStableD_any (Bv n₀ : Nat) (sv : Value) (xs : List De) (hlen : xs.length ≤ 109951162777) (w : World) (hBv : Bv < w.heap.size) (hn0 : n₀ ≤ w.heap.size) (hcv : w.cell? ⟨Bv, 0, none⟩ = some sv) (hL : SgD.Docs n₀ w sv xs) :
    Calls Tryz.prog 45 #[.func (.func 95) #[] #[.pointer (some ⟨Bv, 0, none⟩)], .func (.func 47) #[] #[]] w (ByKeyP w xs) := by
  have HC := Lib.hid (collectD_any Bv n₀ sv xs hlen w hBv hn0 hcv hL)
  clear hcv hL
  go_enter Tryz.func45, Tryz.ntmps45
  go_wp2_with fail
  go_at_call 93
  refine HC.out.mono ?_
  rintro e w1 ⟨v, rfl, h1, h2, h3⟩
  have HS := Lib.hid (sortD_own h1 h2 (by omega) h3.size)
  have H3 := Lib.hid h3
  clear h1 h2 h3 HC
  go_wp2_with fail
  go_at_call 94
  refine HS.out.mono ?_
  rintro e w2 ⟨rfl, ⟨m, h4, h6, h7⟩, h5⟩
  have H4 := Lib.hid h4
  have H6 := Lib.hid h6
  have H7 := Lib.hid h7
  have H5 := Lib.hid (H3.out.trans h5)
  clear h4 h5 h6 h7 HS
  go_wp2_with fail
  go_ret
  exact ⟨v, m, rfl, H4.out, H6.out, H7.out, H5.out⟩
end Go.Proofs.YtphccomhggnccaaGreat
namespace Go.Proofs.YtphccomhggnccaaGreat
set_option maxRecDepth 100000
set_option linter.unusedVariables false
set_option linter.unusedSimpArgs false
set_option maxRecDepth 100000
open Go.RowKit Go.Shelf Sg
theorem growS_any (w : World) (n : Nat) (hn : n ≤ 1099511627776) :
    Calls Tryz.prog 100 #[.slice none 0 0, .int .i64 (n : Int)] w (OwnS w []) := by
  rcases Nat.eq_zero_or_pos n with h0 | h0
  · subst h0
    go_enter Tryz.func100, Tryz.ntmps100
    go_wp2_with fail
    go_ret
    exact ⟨_, rfl, World.ownsRow_nil _ _ _ _, Below.refl _ _⟩
  · obtain ⟨i0, hi, hz0, hz1, hz2⟩ := info_parts el_str.inf
    have hrun := Lib.run_append_nil_zeros (P := Tryz.prog) w 23 3 23 9 i0 (.string ByteArray.empty) .i64 .i64 Tryz.underlying23 Tryz.underlying3 hi hz0 n h0 (by rw [hz1]; decide) (by omega) (by rw [hz2]; omega)
    have h0i : (0 : Int) < (n : Int) := by omega
    have hge := grownCap_ge w n 0 9
    have hle := grownCap_le_maxLen w n 0 9 (by unfold maxLen; omega)
    have hsz : (Builtin.zeroCells (Value.string ByteArray.empty).cells n ++ Builtin.zeroCells (Value.string ByteArray.empty).cells (grownCap w n 0 9 - n)).size = grownCap w n 0 9 * 1 := by
      rw [Array.size_append, size_zeroCells, size_zeroCells]
      show n * 1 + (grownCap w n 0 9 - n) * 1 = _
      omega
    have HO : Hid (∃ v, OwnS w [] (.returned v) ((w.drew.alloc (.cells (Builtin.zeroCells (Value.string ByteArray.empty).cells n ++ Builtin.zeroCells (Value.string ByteArray.empty).cells (grownCap w n 0 9 - n)) 9))) ∧ v = .slice (some ⟨w.heap.size, 0, none⟩) 0 (grownCap w n 0 9)) := by
      refine ⟨_, ⟨_, rfl, ?_, (below_drewN w.heap.size w 1).trans ((Below.refl _ w.drew).alloc (Nat.le_refl _) _)⟩, rfl⟩
      exact ⟨rfl, .inr ⟨w.heap.size, grownCap w n 0 9, _, rfl, Nat.le_refl _, heap_alloc_new w.drew _, Nat.zero_le _, hle, hsz, by simp [VS]⟩⟩
    generalize Builtin.zeroCells (Value.string ByteArray.empty).cells n ++ Builtin.zeroCells (Value.string ByteArray.empty).cells (grownCap w n 0 9 - n) = cells0 at *
    generalize grownCap w n 0 9 = cap0 at *
    have HR := Lib.hid hrun
    clear hrun hge hle hsz hi hz0 hz1 hz2
    go_enter Tryz.func100, Tryz.ntmps100
    go_wp2_with (at_builtin; refine Lib.wpList_append_run _ rfl _ _ 23 3 rfl _ _ rfl rfl _ _ HR.out ?_)
    go_ret
    obtain ⟨v, h1, rfl⟩ := HO.out
    exact h1
set_option maxHeartbeats 2000000 in
theorem concat_any (w : World) (b o cc : Nat) (A1 A2 : Option Addr) (n1 n2 c1 c2 : Nat) (l1 l2 : List Key) (h1 : w.cell? ⟨b, o, none⟩ = some (.slice A1 n1 c1)) (h2 : w.cell? ⟨b, o + 1, none⟩ = some (.slice A2 n2 c2)) (hS1 : Sl w A1 (VS l1)) (hS2 : Sl w A2 (VS l2)) (hl1 : l1.length = n1) (hl2 : l2.length = n2)
    (hc1 : A1 = none → c1 = 0) (hc2 : A2 = none → c2 = 0) (hn1 : n1 ≤ 109951162777) (hn2 : n2 ≤ 109951162777) :
    Calls Tryz.prog 51 #[.slice (some ⟨b, o, none⟩) 2 cc] w (OwnS w (l1 ++ l2)) := by
  have HS1 := Lib.hid hS1
  have HS2 := Lib.hid hS2
  have Hl1 := Lib.hid hl1
  have Hl2 := Lib.hid hl2
  have Hc1 := Lib.hid hc1
  have Hc2 := Lib.hid hc2
  have hbb := World.block_lt_of_cell? w _ h1
  have Hh1 := Lib.hid h1
  have Hh2 := Lib.hid h2
  have HG := Lib.hid (growS_any w (n1 + n2) (by omega))
  have e12 : ((n1 + n2 : Nat) : Int) = (n1 : Int) + (n2 : Int) := by omega
  rw [e12] at HG
  clear hS1 hS2 hl1 hl2 hc1 hc2 e12
  go_enter Tryz.func51, Tryz.ntmps51
  go_wp2_with fail
  go_loopw [3, 11] (fun s3 q wr => ((q = .int .i64 0 ∧ s3 = .int .i64 0) ∨ (q = .int .i64 1 ∧ s3 = .int .i64 (n1 : Int)) ∨ (q = .int .i64 2 ∧ s3 = .int .i64 ((n1 : Int) + (n2 : Int)))) ∧ w = wr) (fun _ q _ => 2 - (intOf q).toNat)
  case atStart => exact ⟨.inl ⟨rfl, rfl⟩, rfl⟩
  case round =>
    obtain ⟨hq, rfl⟩ := hrel
    rcases hq with ⟨rfl, rfl⟩ | ⟨rfl, rfl⟩ | ⟨rfl, rfl⟩
    · have z1 : ¬ (n1 : Int) < 0 := by omega
      go_wp2_with fail
      refine ⟨⟨.inr (.inl ⟨rfl, by first | rfl | go_num⟩), trivial⟩, by decide⟩
    · have z1 : ¬ (n1 : Int) + (n2 : Int) < 0 := by omega
      go_wp2_with fail
      refine ⟨⟨.inr (.inr ⟨rfl, by first | rfl | go_num⟩), trivial⟩, by decide⟩
    · clear h1 h2
      go_wp2_with fail
      go_at_call 100
      refine HG.out.mono ?_
      rintro e w1 ⟨v, rfl, hown, hB⟩
      obtain ⟨A3, c3, hv3, -, -, -, -, -, -⟩ := own_form hown
      subst hv3
      have Hown := Lib.hid hown
      have HB := Lib.hid hB
      clear hown hB HG
      go_wp2_with fail
      go_loopw [6, 27] (fun s6 q wr => ∃ (k : Nat) (t : List Key), q = .int .i64 (k : Int) ∧ Hid ((k = 0 ∧ t = []) ∨ (k = 1 ∧ t = l1) ∨ (k = 2 ∧ t = l1 ++ l2)) ∧ wr.ownsRow w.heap.size 9 1 s6 t.length (VS t) ∧ Hid (Below w.heap.size w wr)) (fun _ q _ => 2 - (intOf q).toNat)
      case atStart => exact ⟨0, [], rfl, Lib.hid (.inl ⟨rfl, rfl⟩), Hown.out, HB⟩
      case round =>
        clear Hown HB
        obtain ⟨k, t, rfl, Hk, hown, HB⟩ := hrel
        obtain ⟨A5, c5, hv5, -, -, -, -, -, -⟩ := own_form hown
        subst hv5
        have hsz := HB.out.size
        rcases Hk.out with ⟨rfl, rfl⟩ | ⟨rfl, ht⟩ | ⟨rfl, ht⟩
        · have hcell := (World.cell?_of_block (HB.out.block b hbb)).trans Hh1.out
          have Hown := Lib.hid hown
          clear hown Hk
          go_wp2_with (at_builtin; refine appE el_str rfl _ _ rfl w.heap.size _ ([] : List Key).length (VS []) rfl Hown.out A1 n1 c1 (VS l1) rfl Hc1.out (by rw [VS_length, Hl1.out, Nat.mul_one]) (HS1.out.below HB.out) (VS_one _) (by simp; omega) hsz ?_; intro v7 w7 hown7 hg7 _ _; have hB7 := HB.out.grown hg7 hsz (fun k hk => (World.ownsRow.lt Hown.out k hk).1); have H7 := Lib.hid hown7; have HB7 := Lib.hid hB7; clear hown7 hg7 hB7)
          go_roundw
          case rel => exact ⟨1, l1, rfl, Lib.hid (.inr (.inl ⟨rfl, rfl⟩)), by have := H7.out; rw [show VS ([] : List Key) = [] from rfl, List.nil_append] at this; simpa [Hl1.out] using this, HB7⟩
          case measure => decide
        · have hcell := (World.cell?_of_block (HB.out.block b hbb)).trans Hh2.out
          have Hown := Lib.hid hown
          have Ht := Lib.hid ht
          have htl : t.length ≤ 109951162777 := by rw [ht, Hl1.out]; exact hn1
          clear hown Hk ht
          go_wp2_with (at_builtin; refine appE el_str rfl _ _ rfl w.heap.size _ t.length (VS t) rfl Hown.out A2 n2 c2 (VS l2) rfl Hc2.out (by rw [VS_length, Hl2.out, Nat.mul_one]) (HS2.out.below HB.out) (VS_one _) (by omega) hsz ?_; intro v7 w7 hown7 hg7 _ _; have hB7 := HB.out.grown hg7 hsz (fun k hk => (World.ownsRow.lt Hown.out k hk).1); have H7 := Lib.hid hown7; have HB7 := Lib.hid hB7; clear hown7 hg7 hB7)
          go_roundw
          case rel => exact ⟨2, l1 ++ l2, rfl, Lib.hid (.inr (.inr ⟨rfl, rfl⟩)), by have := H7.out; rw [Ht.out] at this; rw [List.length_append, VS_append, Hl2.out]; exact this, HB7⟩
          case measure => decide
        · have Hown := Lib.hid hown
          have Ht := Lib.hid ht
          clear hown Hk ht
          go_wp2_with fail
          go_ret
          exact ⟨_, by rfl, by rw [← Ht.out]; exact Hown.out, HB.out⟩
theorem cloneS_any (w : World) (A : Option Addr) (n c : Nat) (l : List Key) (hS : Sl w A (VS l)) (hl : l.length = n) (hsp : ∀ a, A = some a → a.spot = none) (hn : n ≤ 1099511627776) :
    Calls Tryz.prog 72 #[.slice A n c] w (OwnS w l) := by
  cases A with
  | none =>
    have h := hS.nil rfl
    have h2 : l.length = 0 := by rw [← VS_length, h]; rfl
    obtain rfl := List.eq_nil_of_length_eq_zero h2
    refine (Tryz.slices_Clone_string_nil n c w).mono ?_
    rintro e w' ⟨rfl, rfl⟩
    exact ⟨_, rfl, World.ownsRow_nil _ _ _ _, Below.refl _ _⟩
  | some a =>
    obtain ⟨b, off, sp⟩ := a
    have h2' : sp = none := hsp _ rfl
    subst h2'
    refine (Tryz.slices_Clone_string b off n c (l.map ba) w (by simp [hl]) (by omega) (fun j hj => ?_)).mono ?_
    · have hj' : j < l.length := by simpa using hj
      have h3 := hS.cell _ rfl j _ (VS_get l j hj')
      rw [show (⟨b, off, none⟩ : Addr).add j = ⟨b, off + j, none⟩ by unfold Addr.add; split <;> simp_all] at h3
      rw [h3]
      simp [List.getD, hj']
    · rintro e w' ⟨v, rfl, h1, _, h3⟩
      refine ⟨v, rfl, ?_, h3⟩
      have e1 : ((l.map ba).take n).map Value.string = VS l := by
        rw [List.take_of_length_le (by simp [hl])]
        simp [VS]
      rw [e1] at h1
      rw [hl]
      exact h1
theorem isKey_any (w : World) (k : Key) (hk : k.length ≤ 1099511627776) : Calls Tryz.prog 101 #[.string (ba k)] w fun e w' => e = .returned (.bool (decide (1 ≤ k.length ∧ k.length ≤ 64))) ∧ w = w' := by
  have hs : (ba k).size = k.length := by simp [ba, ByteArray.size]
  rcases Nat.eq_zero_or_pos k.length with h0 | h0
  · have e1 : decide (1 ≤ k.length ∧ k.length ≤ 64) = false := decide_eq_false (by omega)
    have j1 : ¬ (1 : Int) ≤ (k.length : Int) := by omega
    rw [e1]
    generalize k.length = n at *
    generalize ba k = s at *
    go_enter Tryz.func101, Tryz.ntmps101
    go_wp2_with fail
    go_ret
    exact ⟨rfl, rfl⟩
  · by_cases h1 : k.length ≤ 64
    · have e1 : decide (1 ≤ k.length ∧ k.length ≤ 64) = true := decide_eq_true (by omega)
      have j1 : (1 : Int) ≤ (k.length : Int) := by omega
      have j2 : (k.length : Int) ≤ 64 := by omega
      rw [e1]
      generalize k.length = n at *
      generalize ba k = s at *
      go_enter Tryz.func101, Tryz.ntmps101
      go_wp2_with fail
      go_ret
      exact ⟨rfl, rfl⟩
    · have e1 : decide (1 ≤ k.length ∧ k.length ≤ 64) = false := decide_eq_false (by omega)
      have j1 : (1 : Int) ≤ (k.length : Int) := by omega
      have j2 : ¬ (k.length : Int) ≤ 64 := by omega
      rw [e1]
      generalize k.length = n at *
      generalize ba k = s at *
      go_enter Tryz.func101, Tryz.ntmps101
      go_wp2_with fail
      go_ret
      exact ⟨rfl, rfl⟩
open Sg in
theorem VS_cell {w : World} {b off : Nat} {l : List Key} (h : Sl w (some ⟨b, off, none⟩) (VS l)) {i : Nat} (hi : i < l.length) : w.cell? ⟨b, off + i, none⟩ = some (.string (ba (l.getD i []))) := by
  have := h.cell _ rfl i _ (VS_get l i hi)
  rwa [show (⟨b, off, none⟩ : Addr).add i = ⟨b, off + i, none⟩ by unfold Addr.add; split <;> simp_all] at this
theorem beq_key {a b : Key} : (a == b) = decide (a = b) := by
  rw [Bool.eq_iff_iff, beq_iff_eq, decide_eq_true_iff]
set_option maxHeartbeats 4000000 in
theorem rise_any (w : World) (A : Option Addr) (n c : Nat) (l : List Key) (hS : Sl w A (VS l)) (hl : l.length = n) (hsp : ∀ a, A = some a → a.spot = none) (hn : n ≤ 1099511627776) (hk : ∀ k ∈ l, k.length ≤ 1099511627776) (hs : l.Pairwise (· ≤ ·)) :
    Calls Tryz.prog 52 #[.slice A n c] w fun e w' => e = .returned (.bool (decide (Rise l))) ∧ w = w' := by
  have HS := Lib.hid hS
  have Hl := Lib.hid hl
  have Hsp := Lib.hid hsp
  have Hk := Lib.hid hk
  have HR := Lib.hid (rise_iff hs)
  rw [hl] at HR
  clear hS hl hsp hk hs
  go_enter Tryz.func52, Tryz.ntmps52
  go_wp2_with fail
  go_loopw [7] (fun q wr => ∃ i : Nat, i ≤ n ∧ q = .int .i64 (i : Int) ∧ Hid (riseN l i) ∧ w = wr) (fun q _ => n - (intOf q).toNat)
  case atStart => exact ⟨0, Nat.zero_le _, rfl, Lib.hid (riseN_zero l), rfl⟩
  case round =>
    obtain ⟨i, hi, rfl, HN, rfl⟩ := hrel
    by_cases hin : i < n
    · cases A with
      | none =>
        exfalso
        have h := HS.out.nil rfl
        have h2 : l.length = 0 := by rw [← VS_length, h]; rfl
        have := Hl.out
        omega
      | some a =>
        obtain ⟨b, off, sp⟩ := a
        have h2' : sp = none := Hsp.out _ rfl
        subst h2'
        have hcell := VS_cell HS.out (i := i) (by rw [Hl.out]; exact hin)
        have hmem := getD_memK (l := l) (i := i) (by rw [Hl.out]; exact hin)
        have HI := Lib.hid (isKey_any w (l.getD i []) (Hk.out _ hmem))
        have HNs := Lib.hid (riseN_succ (l := l) (n := i))
        have Hno : Hid (¬ riseN l (i + 1) → decide (Rise l) = false) := Lib.hid (fun h => decide_eq_false (fun hr => h (fun j hj => HR.out.2 hr j (by omega))))
        have hci : 0 < i → w.cell? ⟨b, off + (i - 1), none⟩ = some (.string (ba (l.getD (i - 1) []))) := fun h => VS_cell HS.out (i := i - 1) (by rw [Hl.out]; omega)
        have Hci := Lib.hid hci
        obtain ⟨k, hk⟩ : ∃ k, l.getD i [] = k := ⟨_, rfl⟩
        obtain ⟨k0, hk0⟩ : ∃ k, l.getD (i - 1) [] = k := ⟨_, rfl⟩
        rw [hk] at hcell HI HNs
        rw [hk0] at Hci HNs
        clear hmem hci hk hk0
        by_cases hkey : 1 ≤ k.length ∧ k.length ≤ 64
        · rw [decide_eq_true hkey] at HI
          rcases Nat.eq_zero_or_pos i with h0 | h0
          · subst h0
            have HN2 : Hid (riseN l (0 + 1)) := Lib.hid (HNs.out.2 ⟨HN.out, hkey, fun h => absurd h (Nat.lt_irrefl 0)⟩)
            clear hkey
            rw [Nat.add_zero] at hcell
            go_wp2_with (go_at_call 101; refine HI.out.mono ?_; rintro e w' ⟨rfl, rfl⟩)
            go_roundw
            case rel => exact ⟨1, by omega, rfl, HN2, trivial⟩
            case measure => simp [intOf]; omega
          · have hc2 := Hci.out h0
            have h0i : (0 : Int) < (i : Int) := by omega
            obtain ⟨i1, hi1⟩ : ∃ i1, i - 1 = i1 := ⟨_, rfl⟩
            rw [hi1] at hc2
            have ei1 : (i : Int) - 1 = (i1 : Int) := by omega
            have ei2 : (i1 : Int) < (n : Int) := by omega
            have heq := beq_key (a := k) (b := k0)
            by_cases hkk : k = k0
            · have Hno2 : Hid (decide (Rise l) = false) := Lib.hid (Hno.out fun h => (HNs.out.1 h).2.2 h0 hkk)
              rw [decide_eq_true hkk] at heq
              clear hkey hkk hi1
              go_wp2_with (go_at_call 101; refine HI.out.mono ?_; rintro e w' ⟨rfl, rfl⟩)
              go_ret
              exact ⟨by rw [Hno2.out]; rfl, rfl⟩
            · have HN2 : Hid (riseN l (i + 1)) := Lib.hid (HNs.out.2 ⟨HN.out, hkey, fun _ => hkk⟩)
              rw [decide_eq_false hkk] at heq
              clear hkey hkk hi1
              go_wp2_with (go_at_call 101; refine HI.out.mono ?_; rintro e w' ⟨rfl, rfl⟩)
              go_roundw
              case rel => exact ⟨i + 1, by omega, by go_num, HN2, trivial⟩
              case measure => simp [intOf]; omega
        · rw [decide_eq_false hkey] at HI
          have Hno2 : Hid (decide (Rise l) = false) := Lib.hid (Hno.out fun h => hkey (HNs.out.1 h).2.1)
          clear hkey
          rcases Nat.eq_zero_or_pos i with h0 | h0
          · subst h0
            rw [Nat.add_zero] at hcell
            go_wp2_with (go_at_call 101; refine HI.out.mono ?_; rintro e w' ⟨rfl, rfl⟩)
            go_ret
            exact ⟨by rw [Hno2.out]; rfl, rfl⟩
          · have h0i : (0 : Int) < (i : Int) := by omega
            go_wp2_with (go_at_call 101; refine HI.out.mono ?_; rintro e w' ⟨rfl, rfl⟩)
            go_ret
            exact ⟨by rw [Hno2.out]; rfl, rfl⟩
    · obtain rfl : i = n := by omega
      have HRR : Hid (decide (Rise l) = true) := Lib.hid (decide_eq_true (HR.out.1 HN.out))
      go_wp2_with fail
      go_ret
      exact ⟨by rw [HRR.out]; rfl, rfl⟩
end Go.Proofs.YtphccomhggnccaaGreat
