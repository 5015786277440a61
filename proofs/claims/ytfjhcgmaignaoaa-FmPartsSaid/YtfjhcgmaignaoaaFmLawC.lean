/- The law FmLong, walked. -/
import Derived.Test.YtfjhcgmaignaoaaFmLawA
namespace Go.Proofs.Ytfjhcgmaignaoaa
set_option linter.unusedVariables false
set_option linter.unusedSimpArgs false
set_option maxRecDepth 100000
open Go.RowKit Fm Rank

theorem info_u8 : (Try.prog.info? 5).map (fun i => (i.zero, i.size, i.bytes)) = some (some (.int .u8 0), 1, 1) := by kernel_rfl
theorem info_bytes : (Try.prog.info? 24).map (fun i => (i.zero, i.size, i.bytes)) = some (some (.slice none 0 0), 1, 24) := by kernel_rfl
/-- bytes made -/
def Z8 (c : Nat) : Array Value := (VY (List.replicate c 0)).toArray
theorem make_u8 (c : Nat) (hc : c ≤ 1099511627776) (w : World) :
    (Instr.makeSlice 24 (.int .i64 (c : Int)) (.int .i64 (c : Int))).run Try.prog w = .ok (.slice (some ⟨w.heap.size, 0, none⟩) c c) (w.alloc (.cells (Z8 c) 5)) := by
  obtain ⟨i0, hi, hz0, hz1, hz2⟩ := info_parts info_u8
  have h := run_make (P := Try.prog) w 24 5 i0 (.int .u8 0) Try.underlying24 hi hz0 .i64 .i64 (c : Int) (c : Int) (by omega) (by omega) (by rw [hz2]; omega) (by omega)
  rw [h]
  have e : madeCells (Value.int .u8 0).cells (c * i0.size) = Z8 c := by
    rw [hz1, Nat.mul_one, madeCells_one _ rfl]
    simp [Z8, VY]
  simp only [Int.toNat_natCast]
  rw [e]
theorem app_row {w : World} {ops : Array Oper} {rest : List Oper} {o : Oper} {a : Act} {Q : Exit → Act → World → Prop} (hgd : o.guard = none) (s x : Operand)
    (ho : o.op = .call { callee := .builtin .append, args := #[s, x], argTypes := #[23, 23] })
    (base : Nat) (v : Value) (xs : List Value) (hs : a.eval s = v) (hown : w.ownsRow base 24 1 v xs.length xs)
    (ad : Addr) (c : Nat) (A1 : Option Addr) (n1 c1 : Nat) (hx : a.eval x = .slice (some ad) 1 c) (hnews : Sl w (some ad) [.slice A1 n1 c1])
    (h63 : xs.length + 1 ≤ 1099511627776) (hbase : base ≤ w.heap.size)
    (h : ∀ v' w', w'.ownsRow base 24 1 v' (xs ++ [Value.slice A1 n1 c1]).length (xs ++ [Value.slice A1 n1 c1]) → w.grownBy w' v.ownBlock → wpList Try.prog ops Q rest (a.put o.dst v') w') : wpList Try.prog ops Q (o :: rest) a w := by
  obtain ⟨i0, hi, hz0, hz1, hz2⟩ := info_parts info_bytes
  refine wpList_append_own w hgd s x 23 ho base 24 i0 (.slice none 0 0) 1 24 Try.underlying23 hi hz0 hz1 hz2 rfl (by decide) v xs.length xs hs hown ad 1 c [.slice A1 n1 c1] hx rfl (hnews.cell ad rfl) (by simp [Value.oneCell']) (by unfold maxLen; omega) (by omega) hbase ?_
  intro v' w' h1 h2 _
  refine h v' w' ?_ h2
  rw [List.length_append]
  exact h1
/-- a row of slices of the call's own, each of so many noughts in a block of its own -/
def Zs (w : World) (base size : Nat) (v : Value) (k : Nat) : Prop :=
  ∃ vs : List Value, vs.length = k ∧ w.ownsRow base 24 1 v k vs ∧ ∀ u ∈ vs, ∃ g, u = .slice (some ⟨g, 0, none⟩) size size ∧ w.heap[g]? = some (.cells (Z8 size) 5 (0, 0))
theorem body_rep (n size : Nat) : (body (List.replicate n (List.replicate size 0))).length = n * (size + 1) := by
  induction n with
  | zero => simp [body]
  | succ n ih => rw [List.replicate_succ, body_cons, List.length_append, txt_length, ih, List.length_replicate, Nat.succ_mul]; omega
theorem own_tag {w : World} {base : Nat} {e : TypeId} {size : Nat} {v : Value} {n : Nat} {xs : List Value} (h : w.ownsRow base e size v n xs) {k : Nat} (hk : v.ownBlock = some k) : ∃ cur, w.heap[k]? = some (.cells cur e (0, 0)) := by
  rcases h.2 with ⟨rfl, _⟩ | ⟨g, cap, cur, rfl, hg, hb, _⟩
  · cases hk
  · cases hk
    exact ⟨cur, hb⟩
theorem Zs.arg {w : World} {base size n : Nat} {v : Value} (h : Zs w base size v n) (hs : size ≤ 4096) (hn : n ≤ 40) : ∃ A c, v = .slice A n c ∧ RArg w A n c (List.replicate n (List.replicate size 0)) := by
  obtain ⟨vs, hl, hown, hv⟩ := h
  obtain ⟨A, c, rfl, hS, _, _⟩ := own_sl hown
  refine ⟨A, c, rfl, by simp, by omega, ?_, ?_, fun d hd => ?_⟩
  · intro t ht
    rw [(List.mem_replicate.1 ht).2, List.length_replicate]
    omega
  · intro t ht b hb
    rw [(List.mem_replicate.1 ht).2] at hb
    rw [(List.mem_replicate.1 hb).2]
    decide
  · obtain ⟨a, rfl, hc⟩ := hS.some (j := d) (by omega)
    have hm : vs[d]? = some vs[d] := List.getElem?_eq_getElem (by omega)
    rw [hm] at hc
    obtain ⟨g, hg, hb⟩ := hv vs[d] (List.getElem_mem _)
    rw [hg] at hc
    have e : (List.replicate n (List.replicate size 0)).getD d [] = List.replicate size 0 := by simp [List.getD, hd]
    exact ⟨a, some ⟨g, 0, none⟩, size, size, rfl, hc, by rw [e]; simp, Nat.le_refl _, (fun h => (by cases h)), by rw [e]; exact sl_blk hb⟩
theorem Zs.step {w w' : World} {base size : Nat} {v v' : Value} {vs : List Value} (hown : w.ownsRow base 24 1 v vs.length vs) (hv : ∀ u ∈ vs, ∃ g, u = .slice (some ⟨g, 0, none⟩) size size ∧ w.heap[g]? = some (.cells (Z8 size) 5 (0, 0)))
    (o : Obj) (h : w'.ownsRow base 24 1 v' (vs ++ [Value.slice (some ⟨w.heap.size, 0, none⟩) size size]).length (vs ++ [Value.slice (some ⟨w.heap.size, 0, none⟩) size size]))
    (hg : ((w.alloc (.cells (Z8 size) 5)).alloc o).grownBy w' v.ownBlock) : Zs w' base size v' (vs.length + 1) := by
  have hkeep : ∀ g (ob : Obj), ((w.alloc (.cells (Z8 size) 5)).alloc o).heap[g]? = some ob → (∀ k, v.ownBlock = some k → k ≠ g) → w'.heap[g]? = some ob := fun g ob hb hne => grown_blk hg hb (fun e => hne g e.symm rfl)
  refine ⟨vs ++ [Value.slice (some ⟨w.heap.size, 0, none⟩) size size], by simp, by simpa using h, fun u hu => ?_⟩
  rcases List.mem_append.1 hu with hu | hu
  · obtain ⟨g, rfl, hb⟩ := hv u hu
    refine ⟨g, rfl, hkeep g _ (blk_alloc (blk_alloc hb _) _) fun k hk e => ?_⟩
    obtain ⟨cur, hc⟩ := own_tag hown hk
    rw [e, hb] at hc
    simp at hc
  · have : u = _ := List.mem_singleton.1 hu
    subst this
    refine ⟨_, rfl, hkeep _ _ (blk_alloc (heap_alloc_new w _) _) fun k hk e => ?_⟩
    have := (World.ownsRow.lt hown k hk).2
    omega
set_option maxHeartbeats 4000000 in
theorem lawLong7 (n size : Int) (w : World) : Calls Try.prog 3 #[.int .i64 n, .int .i64 size] w (TrueBelow w) := by
  have HK := Lib.hid (fun w => known_any w)
  by_cases h1 : n < 0 ∨ 40 < n ∨ size < 0 ∨ 4096 < size
  · by_cases h2 : n < 0
    · go_enter Try.func3, Try.ntmps3
      go_wp2_with fail
      refine (HK.out _).mono ?_
      rintro e w9 ⟨rfl, hB9⟩
      go_wp2_with fail
      go_ret
      exact ⟨rfl, hB9⟩
    by_cases h3 : 40 < n
    · go_enter Try.func3, Try.ntmps3
      go_wp2_with fail
      refine (HK.out _).mono ?_
      rintro e w9 ⟨rfl, hB9⟩
      go_wp2_with fail
      go_ret
      exact ⟨rfl, hB9⟩
    by_cases h4 : size < 0
    · go_enter Try.func3, Try.ntmps3
      go_wp2_with fail
      refine (HK.out _).mono ?_
      rintro e w9 ⟨rfl, hB9⟩
      go_wp2_with fail
      go_ret
      exact ⟨rfl, hB9⟩
    · have h5 : 4096 < size := by omega
      clear h1
      go_enter Try.func3, Try.ntmps3
      go_wp2_with fail
      refine (HK.out _).mono ?_
      rintro e w9 ⟨rfl, hB9⟩
      go_wp2_with fail
      go_ret
      exact ⟨rfl, hB9⟩
  · obtain ⟨m, rfl⟩ : ∃ m : Nat, n = (m : Int) := ⟨n.toNat, by omega⟩
    obtain ⟨z, rfl⟩ : ∃ z : Nat, size = (z : Int) := ⟨size.toNat, by omega⟩
    have hm : m ≤ 40 := by omega
    have hz : z ≤ 4096 := by omega
    clear h1
    have hmul : m * (z + 1) ≤ 40 * 4097 := Nat.mul_le_mul hm (by omega)
    obtain ⟨t, ht⟩ : ∃ t, m * (z + 1) = t := ⟨_, rfl⟩
    rw [ht] at hmul
    have e0 : ((m : Int) * ((z : Int) + 1)) = (t : Int) := by rw [← ht]; simp
    have Ht := Lib.hid ht
    have Hz := Lib.hid hz
    have i1 : (0 : Int) ≤ (m : Int) := by omega
    have i2 : (m : Int) ≤ 40 := by omega
    have i3 : (0 : Int) ≤ (z : Int) := by omega
    have i4 : (z : Int) ≤ 4096 := by omega
    obtain ⟨u, hu⟩ : ∃ u, t + 1 = u := ⟨_, rfl⟩
    have e2 : Go.RowKit.wrap64 (t : Int) = (t : Int) := by unfold Go.RowKit.wrap64; omega
    have e3 : Go.RowKit.wrap64 ((t : Int) + 1) = (u : Int) := by unfold Go.RowKit.wrap64; omega
    have Hu := Lib.hid hu
    clear hu
    by_cases hlo : u ≤ 65536
    · have hlo2 : (u : Int) ≤ 65536 := by omega
      clear hmul ht hz hlo
      go_enter Try.func3, Try.ntmps3
      go_wp2_with fail
      refine (HK.out _).mono ?_
      rintro e w9 ⟨rfl, hB9⟩
      go_wp2_with fail
      go_ret
      exact ⟨rfl, hB9⟩
    · have hlo2 : ¬ (u : Int) ≤ 65536 := by omega
      have Hlo := Lib.hid hlo
      clear hmul ht hz hlo
      have hmk := make_u8 z (by have := Hz.out; omega)
      have HM := Lib.hid hm
      clear hm
      go_enter Try.func3, Try.ntmps3
      go_wp2_with fail
      go_loopw [5, 6] (fun v q wr => ∃ k : Nat, Hid (k ≤ m) ∧ q = .int .i64 (k : Int) ∧ Hid (Zs wr w.heap.size z v k) ∧ Hid (Below w.heap.size w wr)) (fun _ q _ => m - (intOf q).toNat)
      case atStart => exact ⟨0, Lib.hid (Nat.zero_le _), rfl, Lib.hid ⟨[], rfl, World.ownsRow_nil _ _ _ _, fun u hu => (by cases hu)⟩, Lib.hid (Below.refl _ _)⟩
      case round =>
        obtain ⟨k, Hk, rfl, HZ, HB⟩ := hrel
        by_cases hkm : k < m
        · have j1 : (k : Int) < (m : Int) := by omega
          obtain ⟨vs, hvl, hown, hvs⟩ := HZ.out
          obtain ⟨A5, c5, hv5, _, _, _⟩ := own_sl hown
          subst hv5
          subst hvl
          have hbs := HB.out.size
          have Hown := Lib.hid hown
          have Hvs := Lib.hid hvs
          clear hvs
          have hown2 := World.ownsRow.alloc (World.ownsRow.alloc hown (.cells (Z8 z) 5)) (.cells #[.slice (some ⟨wr.heap.size, 0, none⟩) z z] 24)
          clear hown
          have hY0 := heap_alloc_new (wr.alloc (.cells (Z8 z) 5)) (.cells #[.slice (some ⟨wr.heap.size, 0, none⟩) z z] 24)
          rw [World.size_alloc] at hY0
          have HY := Lib.hid hY0
          have Hvk := Lib.hid (show vs.length + 1 ≤ 1099511627776 by have := Hk.out; have := HM.out; omega)
          clear hY0
          go_wp2_with (at_builtin; refine app_row rfl _ _ rfl w.heap.size _ vs rfl hown2 ⟨wr.heap.size + 1, 0, none⟩ 1 (some ⟨wr.heap.size, 0, none⟩) z z rfl (sl_blk HY.out) Hvk.out (by simp; omega) ?_; intro v7 w7 hown7 hg7)
          have HZ7 := Lib.hid (Zs.step Hown.out Hvs.out _ hown7 hg7)
          have HB7 := Lib.hid (show Below w.heap.size w w7 from ((HB.out.alloc HB.out.size _).alloc (by simp; omega) _).grown hg7 (by simp; omega) (fun q hq => (World.ownsRow.lt Hown.out q hq).1))
          clear hown7 hg7 hown2
          go_roundw
          case rel => exact ⟨vs.length + 1, Lib.hid (by omega), congrArg (Value.int .i64) (by omega), HZ7, HB7⟩
          case measure =>
            show m - ((vs.length : Int) + 1).toNat < m - ((vs.length : Int)).toNat
            omega
        · obtain rfl : m = k := by have := Hk.out; omega
          obtain ⟨A, c, hv, hR⟩ := HZ.out.arg Hz.out HM.out
          subst hv
          have hlen : (rowT (List.replicate m (List.replicate z 0))).length = u := by rw [rowT_length, body_rep]; have := Ht.out; have := Hu.out; omega
          have hm40 := HM.out
          have hz4 := Hz.out
          have HBd := Lib.hid (build_fm wr A m c _ hR (by omega) (fun t ht => by rw [(List.mem_replicate.1 ht).2, List.length_replicate]; omega))
          rw [hlen] at HBd
          clear hR hlen hm40 hz4
          go_wp2_with fail
          go_at_call 10
          refine HBd.out.mono ?_
          rintro e w8 (⟨h9, _⟩ | ⟨h9, rfl, hB8⟩)
          · exact absurd h9 Hlo.out
          have HB8 := Lib.hid (below_step HB.out hB8)
          clear hB8 HBd h9
          go_wp2_with fail
          refine (HK.out _).mono ?_
          rintro e w9 ⟨rfl, hB9⟩
          have HB9 := Lib.hid (below_step HB8.out hB9)
          clear hB9
          go_wp2_with fail
          go_ret
          exact ⟨rfl, HB9.out⟩
end Go.Proofs.Ytfjhcgmaignaoaa
