/- bwt.Back. -/
import Derived.Test.YtfjhcgmaignaoaaGreatBkX
import Derived.Deep.RegionLawGrows
import Derived.Test.YtfjhcgmaignaoaaGreatFmBuild
import Derived.Test.YtfjhcgmaignaoaaGreatFmAlike
namespace Go.Proofs.YtfjhcgmaignaoaaGreat
set_option maxRecDepth 100000
set_option linter.unusedVariables false
set_option linter.unusedSimpArgs false
set_option maxRecDepth 100000
open Go.RowKit Fm Rank
theorem slNk {w : World} {b off : Nat} {t : List Nat} (h : Sl w (some ⟨b, off, none⟩) (VI (NI t))) {i : Nat} (hi : i < t.length) : w.cell? ⟨b, off + i, none⟩ = some (.int .i64 ((t.getD i 0 : Nat) : Int)) := by
  have := h.cell _ rfl i _ (VI_get (NI t) i (by rw [NI_length]; exact hi))
  rwa [NI_getD _ _ hi, show (⟨b, off, none⟩ : Addr).add i = ⟨b, off + i, none⟩ by unfold Addr.add; split <;> simp_all] at this
theorem slIk {w : World} {b off : Nat} {t : List Int} (h : Sl w (some ⟨b, off, none⟩) (VI t)) {i : Nat} (hi : i < t.length) : w.cell? ⟨b, off + i, none⟩ = some (.int .i64 (t.getD i 0)) := by
  have := h.cell _ rfl i _ (VI_get t i hi)
  rwa [show (⟨b, off, none⟩ : Addr).add i = ⟨b, off + i, none⟩ by unfold Addr.add; split <;> simp_all] at this
/-- places told by the first j of an order -/
structure Toj (o N : List Nat) (n j : Nat) : Prop where
  len : N.length = n
  at' : ∀ i, i < j → N.getD (o.getD i 0) 0 = i
  lt : 0 < n → ∀ p, N.getD p 0 < n
theorem Toj.start (o : List Nat) (n : Nat) : Toj o (List.replicate n 0) n 0 := by
  refine ⟨by simp, fun i hi => absurd hi (Nat.not_lt_zero _), fun hn p => ?_⟩
  have : (List.replicate n 0).getD p 0 = 0 := by
    simp only [List.getD]
    cases h : (List.replicate n 0)[p]? with
    | none => rfl
    | some v => rw [(List.mem_replicate.1 (List.mem_of_getElem? h)).2]; rfl
  omega
theorem Toj.step {o N : List Nat} {n j : Nat} (h : Toj o N n j) (hp : o.Perm (List.range n)) (hj : j < n) : Toj o (N.set (o.getD j 0) j) n (j + 1) := by
  obtain ⟨bl, bs, blt, binj⟩ := perm_at hp
  have hN : N.length = n := h.len
  refine ⟨by rw [List.length_set]; exact h.len, fun i hi => ?_, fun hn p => ?_⟩
  · by_cases e : i = j
    · subst e
      have := blt i hj
      simp [List.getD, List.getElem?_set, hN, this, show (o[i]?.getD 0) < n from by simpa [List.getD] using this]
    · have hne : o.getD j 0 ≠ o.getD i 0 := fun e2 => e (binj _ _ (by omega) hj e2.symm)
      have := h.at' i (by omega)
      simp only [List.getD] at *
      rw [List.getElem?_set_ne hne]
      exact this
  · have h0 := h.lt hn p
    by_cases e : o.getD j 0 = p
    · subst e
      have := blt j hj
      have e2 : (N.set (o.getD j 0) j).getD (o.getD j 0) 0 = j := by simp [List.getD, List.getElem?_set, hN, show (o[j]?.getD 0) < n from by simpa [List.getD] using this]
      omega
    · simp only [List.getD] at *
      rw [List.getElem?_set_ne e]
      exact h0
theorem Toj.done {o N : List Nat} {n : Nat} (h : Toj o N n n) (hp : o.Perm (List.range n)) : Inv1 o N := ⟨by rw [h.len, hp.length_eq, List.length_range], fun i hi => h.at' i (by rw [hp.length_eq, List.length_range] at hi; exact hi)⟩
/-- what is read on the way, the last first: the first k of it, at the row's end -/
def wayK (l : List Int) (t : List Nat) (n k : Nat) : List Int := List.replicate (n - k) 0 ++ (List.range k).map fun j => l.getD (itr t (k - 1 - j)) 0
theorem wayK_length (l : List Int) (t : List Nat) (n k : Nat) (h : k ≤ n) : (wayK l t n k).length = n := by unfold wayK; simp; omega
theorem wayK_zero (l : List Int) (t : List Nat) (n : Nat) : wayK l t n 0 = List.replicate n 0 := by simp [wayK]
theorem wayK_set (l : List Int) (t : List Nat) (n k : Nat) (h : k < n) : (wayK l t n k).set (n - 1 - k) (l.getD (itr t k) 0) = wayK l t n (k + 1) := by
  unfold wayK
  rw [List.set_append_left _ _ (by simp; omega), show n - k = (n - (k + 1)) + 1 by omega, List.replicate_succ', show n - 1 - k = n - (k + 1) by omega]
  rw [List.set_append_right _ _ (by simp)]
  simp only [List.length_replicate, Nat.sub_self, List.set_cons_zero, List.append_assoc, List.singleton_append]
  congr 1
  rw [List.range_succ_eq_map, List.map_cons, List.map_map]
  congr 1
  refine List.map_congr_left fun j hj => ?_
  simp only [Function.comp]
  congr 2
  omega
/-- rotated by one, it is the way itself, and the last that was read behind it -/
theorem wayK_rot (l : List Int) (t : List Nat) (n : Nat) (hl : l.length = n) (hn : 0 < n) : (wayK l t n n).drop 1 ++ [(wayK l t n n).getD 0 0] = wayS l t (l.getD (itr t (n - 1)) 0) := by
  unfold wayK wayS
  rw [hl, Nat.sub_self, List.replicate_zero, List.nil_append]
  obtain ⟨m, rfl⟩ : ∃ m, n = m + 1 := ⟨n - 1, by omega⟩
  rw [List.range_succ_eq_map, List.map_cons, List.drop_succ_cons, List.drop_zero, List.map_map]
  simp only [Nat.add_sub_cancel]
  congr 1
  refine List.map_congr_left fun j hj => ?_
  simp only [Function.comp]
  congr 2
  omega
theorem stable0_any (w : World) (g bx : Nat) : Calls Tryz.prog 51 #[.slice (some ⟨g, 0, none⟩) 0 0, .func (.func 52) #[] #[.pointer (some ⟨bx, 0, none⟩)]] w fun e w' => e = .returned (.tuple #[]) ∧ w' = w := by
  have HI : Calls Tryz.prog 105 #[.slice (some ⟨g, 0, none⟩) 0 0, .int .i64 0, .int .i64 0, .func (.func 52) #[] #[.pointer (some ⟨bx, 0, none⟩)]] w fun e w' => e = .returned (.tuple #[]) ∧ w' = w := by
    go_enter Tryz.func105, Tryz.ntmps105
    go_wp2_with fail
    go_loopw [8] (fun s8 wr => s8 = .int .i64 1 ∧ wr = w) (fun _ _ => 0)
    case atStart => exact ⟨rfl, rfl⟩
    case round =>
      obtain ⟨rfl, rfl⟩ := hrel
      go_wp2_with fail
      go_end0
      exact ⟨rfl, rfl⟩
  have HII := Lib.hid HI
  have HS : Calls Tryz.prog 80 #[.slice (some ⟨g, 0, none⟩) 0 0, .int .i64 0, .func (.func 52) #[] #[.pointer (some ⟨bx, 0, none⟩)]] w fun e w' => e = .returned (.tuple #[]) ∧ w' = w := by
    clear HI
    go_enter Tryz.func80, Tryz.ntmps80
    go_wp2_with fail
    go_loopw [7, 8] (fun s7 s8 wr => s7 = .int .i64 0 ∧ s8 = .int .i64 20 ∧ wr = w) (fun _ _ _ => 0)
    case atStart => exact ⟨rfl, rfl, rfl⟩
    case round =>
      obtain ⟨rfl, rfl, rfl⟩ := hrel
      go_wp2_with fail
      go_at_call 105
      refine HII.out.mono ?_
      rintro e w' ⟨rfl, hw⟩
      subst hw
      go_wp2_with fail
      go_loopw [6] (fun s6 wr => s6 = .int .i64 20 ∧ wr = w') (fun _ _ => 0)
      case atStart => exact ⟨rfl, rfl⟩
      case round =>
        obtain ⟨rfl, rfl⟩ := hrel
        go_wp2_with fail
        go_end0
        exact ⟨rfl, rfl⟩
  have HSS := Lib.hid HS
  clear HI HS HII
  go_enter Tryz.func51, Tryz.ntmps51
  go_wp2_with fail
  go_at_call 80
  refine HSS.out.mono ?_
  rintro e w' ⟨rfl, hw⟩
  subst hw
  go_wp2_with fail
  go_end0
  exact ⟨rfl, rfl⟩
theorem sortAll_any (w : World) (g bx n : Nat) (A : Option Addr) (c : Nat) (l : List Int) (hl : l.length = n) (hn : n ≤ 65536) (hO : IB w g (NI (List.range n))) (hbx : w.cell? ⟨bx, 0, none⟩ = some (.slice A n c)) (hS : Sl w A (VI l)) (hgb : bx ≠ g) (hgA : ∀ a, A = some a → a.block ≠ g) :
    Calls Tryz.prog 51 #[.slice (some ⟨g, 0, none⟩) n n, .func (.func 52) #[] #[.pointer (some ⟨bx, 0, none⟩)]] w
      fun e w' => e = .returned (.tuple #[]) ∧ ∃ o, IsStable l o ∧ Sl w' (some ⟨g, 0, none⟩) (VI (NI o)) ∧ w.grownBy w' (some g) := by
  by_cases h0 : n = 0
  · subst h0
    refine (stable0_any w g bx).mono ?_
    rintro e w' ⟨rfl, hw⟩
    subst hw
    exact ⟨rfl, [], ⟨by rw [hl]; exact List.Perm.refl _, List.Pairwise.nil⟩, ⟨fun _ => rfl, fun a _ j u hu => by simp [VI, NI] at hu⟩, grown_refl _ _⟩
  · exact sortB_any w g bx n A c l hl (by omega) hn hO hbx hS hgb hgA
/-- what Back hands back: the row that was turned, or a refusal -/
def BackP (w : World) (n : Nat) (l : List Int) (e : Ending) (w' : World) : Prop :=
  (∃ B c s, e = .returned (.tuple #[.slice B n c, .int .i64 0]) ∧ Turns l s ∧ (∀ s', Turns l s' → s' = s) ∧ Sl w' B (VI (NI s)) ∧ Below w.heap.size w w') ∨
  (e = .returned (.tuple #[.slice none 0 0, .int .i64 3]) ∧ (∀ s, ¬ Turns l s) ∧ Below w.heap.size w w')
/-- an append for which there is no room, as one step of a region that draws -/
theorem step_grow_int {w : World} {ops : Array Oper} {o : Oper} {a : Act} {K : Act → World → Prop} {Q : Exit → Act → World → Prop} {E : Prop} (hgd : o.guard = none) (s x : Operand)
    (ho : o.op = .call { callee := .builtin .append, args := #[s, x], argTypes := #[23, 23] })
    (ao : Addr) (n : Nat) (olds : List Int) (hs : a.eval s = .slice (some ao) n n) (hlo : olds.length = n) (holds : Sl w (some ao) (VI olds))
    (ad : Addr) (y : Int) (hx : a.eval x = .slice (some ad) 1 1) (hnews : Sl w (some ad) (VI [y])) (hn : n ≤ 65536)
    (hK : ∀ v' w', w'.ownsRow w.heap.size 3 1 v' (n + 1) (VI (olds ++ [y])) → w.grownBy w' none → K (a.put o.dst v') w') :
    if Region.wanted o (yielded ops a.tmps) = true then Oper.wp Tryz.prog o a w K Q else E := by
  obtain ⟨i0, hi, hz0, hz1, hz2⟩ := info_parts info_int
  refine step_append_grows hgd s x 23 ho 3 i0 (.int .i64 0) 1 8 Tryz.underlying23 hi hz0 hz1 hz2 rfl (by decide) (some ao) n n (VI olds) hs (fun h => by cases h) (by rw [VI_length, Nat.mul_one]; exact hlo) (fun b hb => by cases hb; exact holds.cell ao rfl) ad 1 1 (VI [y]) hx rfl (hnews.cell ad rfl) (VI_one _) (by omega) (by unfold maxLen; omega) (by omega) ?_
  intro v' w' h1 h2
  refine hK v' w' ?_ h2
  rw [VI_append]
  exact h1
set_option maxHeartbeats 8000000 in
theorem back_any (w : World) (A : Option Addr) (n c : Nat) (l : List Int) (hl : l.length = n) (hn : n ≤ 65536) (hS : Sl w A (VI l)) (hlt : ∀ a, A = some a → a.block < w.heap.size) :
    Calls Tryz.prog 28 #[.slice A n c] w (BackP w n l) := by
  have HS := Lib.hid hS
  have Hl := Lib.hid hl
  have Hlt := Lib.hid hlt
  have hmk := fun W => make_int n (by omega) W
  clear hS hl hlt
  go_enter Tryz.func28, Tryz.ntmps28
  go_wp2_with fail
  obtain ⟨q0, hq0⟩ : ∃ q, w.heap.size = q := ⟨_, rfl⟩
  obtain ⟨w2, hw2⟩ : ∃ w2, ((w.alloc (.cells #[.slice A n c] 23)).alloc (.cells (I (List.replicate n 0)) 3)) = w2 := ⟨_, rfl⟩
  have hBx2 : w2.heap[q0]? = some (.cells #[.slice A n c] 23 (0, 0)) := by rw [← hw2, ← hq0]; exact blk_alloc (heap_alloc_new w _) _
  have hO2 : IB w2 (q0 + 1) (half (NI (List.range n)) 0) := by
    rw [half_zero, NI_length, List.length_range, ← hw2, ← hq0]
    have := heap_alloc_new (w.alloc (.cells #[.slice A n c] 23)) (.cells (I (List.replicate n 0)) 3)
    rw [World.size_alloc] at this
    exact this
  have hB2 : Below w.heap.size w w2 := by rw [← hw2]; exact ((Below.refl _ w).alloc (Nat.le_refl _) _).alloc (by simp) _
  rw [hw2, hq0]
  have Hq0 := Lib.hid hq0
  clear hw2 hq0
  go_loopw [5, 22] (fun s5 q wr => ∃ j : Nat, j ≤ n ∧ q = .int .i64 (j : Int) ∧ IB wr (q0 + 1) (half (NI (List.range n)) j) ∧ wr.heap[q0]? = some (.cells #[.slice A n c] 23 (0, 0)) ∧ Below w.heap.size w wr) (fun _ q _ => n - (intOf q).toNat)
  case atStart => exact ⟨0, Nat.zero_le _, rfl, hO2, hBx2, hB2⟩
  case round =>
    clear hO2 hBx2 hB2
    obtain ⟨j, hj, rfl, hO, hBx, hB⟩ := hrel
    have hle := half_length (NI (List.range n)) j (by rw [NI_length, List.length_range]; exact hj)
    rw [NI_length, List.length_range] at hle
    by_cases hjn : j < n
    · have hc := hO.cell (i := j) (by omega)
      have hf := hO.free j
      have hset := half_set (NI (List.range n)) j (by rw [NI_length, List.length_range]; exact hjn)
      rw [show (NI (List.range n)).getD j 0 = (j : Int) by rw [NI_getD _ _ (by simpa using hjn)]; simp [List.getD, hjn]] at hset
      have Hset := Lib.hid hset
      have HO := Lib.hid hO
      have HBx := Lib.hid hBx
      have HB := Lib.hid hB
      clear hset hO hBx hB hle
      generalize (half (NI (List.range n)) j).getD j 0 = y at *
      go_wp2_with fail
      refine ⟨⟨j + 1, by omega, by go_num, ?_, blk_other HBx.out (by omega) _ _, below_cell HB.out (by have := Hq0.out; omega) _ _ rfl⟩, by simp [intOf]; omega⟩
      rw [← Hset.out]
      exact HO.out.set _ _
    · obtain rfl : n = j := by omega
      have e1 : half (NI (List.range n)) n = NI (List.range n) := by
        have := half_all (NI (List.range n)); rwa [NI_length, List.length_range] at this
      rw [e1] at hO
      have hsz := hB.size
      have HSr := Lib.hid (sortAll_any wr (q0 + 1) q0 n A c l Hl.out hn hO ((cell_blk hBx 0).trans rfl) (HS.out.below hB) (by omega) (fun a ha => by have := Hlt.out a ha; have := Hq0.out; omega))
      have HBx := Lib.hid hBx
      have HB := Lib.hid hB
      have hq1 := hO.lt
      clear hO hBx hB e1 hle
      go_wp2_with fail
      go_at_call 51
      refine HSr.out.mono ?_
      rintro e w3 ⟨rfl, o, ho, hSo, hg3⟩
      have HO := Lib.hid ho
      have hpo : o.Perm (List.range n) := by have := ho.perm; rwa [Hl.out] at this
      have HPo := Lib.hid hpo
      have HSo := Lib.hid hSo
      have HBx3 := Lib.hid (grown_blk hg3 HBx.out (by simp))
      have HB3 := Lib.hid (HB.out.grown hg3 hsz (fun k hk => by injection hk with hk; have := Hq0.out; omega))
      have hbx3 := (cell_blk HBx3.out 0).trans rfl
      have hq3 := blk_lt HBx3.out
      have hs3 := hg3.size
      clear HSr ho hpo hSo hg3 HB HBx
      go_wp2_with fail
      have hN0 : IB (w3.alloc (.cells (I (List.replicate n 0)) 3)) w3.heap.size (NI (List.replicate n 0)) := by
        have := heap_alloc_new w3 (.cells (I (List.replicate n 0)) 3)
        have e : NI (List.replicate n 0) = List.replicate n 0 := by simp [NI]
        unfold IB
        rw [e]; exact this
      go_loopw [7, 8, 38] (fun s7 s8 q wr => ∃ (j : Nat) (N : List Nat), j ≤ n ∧ q = .int .i64 (j : Int) ∧ IB wr w3.heap.size (NI N) ∧ Hid (Toj o N n j) ∧ Below w3.heap.size w3 wr) (fun _ _ q _ => n - (intOf q).toNat)
      case atStart => exact ⟨0, _, Nat.zero_le _, rfl, hN0, Lib.hid (Toj.start o n), (Below.refl _ w3).alloc (Nat.le_refl _) _⟩
      case round =>
        clear hN0
        obtain ⟨j, N, hj, rfl, hN, HT, hB⟩ := hrel
        have hNl := HT.out.len
        by_cases hjn : j < n
        · obtain ⟨bl, bs, blt, binj⟩ := perm_at HPo.out
          have hco := slNk (HSo.out.below hB) (i := j) (by rw [bl]; exact hjn)
          rw [Nat.zero_add] at hco
          have hlo := blt j hjn
          have hc := hN.cell (i := o.getD j 0) (by rw [NI_length, hNl]; exact hlo)
          have hf := hN.free (o.getD j 0)
          have HT2 := Lib.hid (HT.out.step HPo.out hjn)
          have HN := Lib.hid (fun v => hN.set (o.getD j 0) v)
          have HB := Lib.hid hB
          clear hN hB bl bs blt binj hNl HT
          generalize (NI N).getD (o.getD j 0) 0 = y at *
          generalize o.getD j 0 = p at *
          go_wp2_with fail
          refine ⟨⟨j + 1, N.set p j, by omega, by go_num, ?_, HT2, below_cell HB.out (Nat.le_refl _) _ _ rfl⟩, by simp [intOf]; omega⟩
          have := HN.out (j : Int)
          rwa [show (NI N).set p (j : Int) = NI (N.set p j) by simp [NI, List.map_set]] at this
        · obtain rfl : n = j := by omega
          have HI1 := Lib.hid (HT.out.done HPo.out)
          have Hlt2 := Lib.hid HT.out.lt
          have HN := Lib.hid hN
          have Hnl := Lib.hid hNl
          have HB4 := Lib.hid (below_step HB3.out hB)
          have hbx4 := (hB.cell (p := ⟨q0, 0, none⟩) hq3).trans hbx3
          have hq4 : q0 < wr.heap.size := by have := hB.size; omega
          have hg24 := hN.lt
          clear hN hB hNl HT hbx3 HB3
          obtain ⟨w4, hw4⟩ : ∃ W, W = wr := ⟨_, rfl⟩
          subst hw4
          go_wp2_with fail
          clear hmk
          have hS0 : IB (w4.alloc (.cells (I (List.replicate n 0)) 3)) w4.heap.size (wayK l N n 0) := by
            rw [wayK_zero]; exact heap_alloc_new w4 _
          go_loopw [10, 11] (fun s10 s11 wr => ∃ k : Nat, k ≤ n ∧ s10 = .int .i64 ((itr N k : Nat) : Int) ∧ s11 = .int .i64 ((n : Int) - 1 - (k : Int)) ∧ IB wr w4.heap.size (wayK l N n k) ∧ Below w4.heap.size w4 wr) (fun _ s11 _ => ((intOf s11) + 1).toNat)
          case atStart => exact ⟨0, Nat.zero_le _, rfl, by first | rfl | go_num, hS0, (Below.refl _ w4).alloc (Nat.le_refl _) _⟩
          case round =>
            clear hS0
            obtain ⟨k, hk, rfl, rfl, hX, hB⟩ := hrel
            by_cases hkn : k < n
            · obtain ⟨ii, hii⟩ : ∃ q, n - 1 - k = q := ⟨_, rfl⟩
              have e1 : (n : Int) - 1 - (k : Int) = (ii : Int) := by omega
              have hat : itr N k < n := by
                cases k with
                | zero => exact hkn
                | succ k => exact Hlt2.out (by omega) _
              obtain ⟨ba, oa, rfl, hca⟩ := (HS.out.below (below_step HB4.out hB)).lit (j := itr N k) (by rw [VI_length, Hl.out]; exact hat)
              rw [VI_get _ _ (by rw [Hl.out]; exact hat)] at hca
              have hba := Hlt.out _ rfl
              have hbx5 := (hB.cell (p := ⟨q0, 0, none⟩) hq4).trans hbx4
              have hct := (HN.out.below hB).cell (i := itr N k) (by rw [NI_length, Hnl.out]; exact hat)
              rw [NI_getD _ _ (by rw [Hnl.out]; exact hat)] at hct
              have hcx := hX.cell (i := ii) (by rw [wayK_length _ _ _ _ hk]; omega)
              have hfx := hX.free ii
              have hset := wayK_set l N n k hkn
              rw [hii] at hset
              have Hset := Lib.hid hset
              have HX := Lib.hid hX
              have HB := Lib.hid hB
              have Hit := Lib.hid (show N.getD (itr N k) 0 = itr N (k + 1) from rfl)
              have hne1 : ¬ ba = w4.heap.size := by have := HB4.out.size; have : ba < w.heap.size := hba; omega
              have hne2 : ¬ q0 = w4.heap.size := by omega
              have hne3 : ¬ w3.heap.size = w4.heap.size := by omega
              have j1 : (itr N k : Int) < (n : Int) := by omega
              have j2 : (0 : Int) ≤ ((itr N k : Nat) : Int) := by omega
              have j3 : (ii : Int) < (n : Int) := by omega
              clear hset hX hB hba
              rw [Hit.out] at hct
              generalize (wayK l N n k).getD ii 0 = y at *
              obtain ⟨v, hv⟩ : ∃ v, l.getD (itr N k) 0 = v := ⟨_, rfl⟩
              rw [hv] at hca Hset
              clear hv Hit
              generalize itr N k = at0 at *
              obtain ⟨at1, hat1⟩ : ∃ q, itr N (k + 1) = q := ⟨_, rfl⟩
              rw [hat1] at hct
              have Hat1 := Lib.hid hat1
              clear hat1
              rw [e1]
              go_wp2_with fail
              refine ⟨⟨k + 1, by omega, by rw [Hat1.out], congrArg (Value.int .i64) (by omega), ?_, below_cell HB.out (Nat.le_refl _) _ _ rfl⟩, by first | (simp [intOf]; omega) | simp [intOf]⟩
              rw [← Hset.out]
              exact HX.out.set _ _
            · obtain rfl : n = k := by omega
              have ek : ¬ (0 : Int) ≤ (n : Int) - 1 - (n : Int) := by omega
              have HB5 := Lib.hid (below_step HB4.out hB)
              have hbx5 := (hB.cell (p := ⟨q0, 0, none⟩) hq4).trans hbx4
              have HSl := Lib.hid (HS.out.below HB5.out)
              have hwl := wayK_length l N n n (Nat.le_refl _)
              have hq5 : q0 < wr.heap.size := by have := hB.size; omega
              obtain ⟨w5, hw5⟩ : ∃ W, W = wr := ⟨_, rfl⟩
              subst hw5
              by_cases h0 : n = 0
              · subst h0
                have hnt : ∀ s, ¬ Turns l s := fun s h => by
                  have h1 := (h.way HO.out HI1.out).1
                  have h2 := h.1.pos
                  rw [Hl.out] at h1
                  omega
                have Hnt := Lib.hid hnt
                have HTn := Lib.hid (turnG_any w5 (some ⟨w4.heap.size, 0, none⟩) 0 0 [] rfl (by omega) ⟨fun _ => rfl, fun a _ j u hu => by simp [VI] at hu⟩)
                clear hX hB hnt hwl
                go_wp2_with fail
                go_at_call 33
                refine HTn.out.mono ?_
                rintro e w6 (⟨B, cb, t, sa, rfl, hct, ht, _⟩ | ⟨_, rfl, hB6⟩)
                · have := congrArg List.length ht
                  have hp := hct.pos
                  rw [NI_length] at this
                  have h0 : 0 = t.length := this
                  omega
                · have HB6 := Lib.hid (below_step HB5.out hB6)
                  clear hB6 HTn
                  go_wp2_with fail
                  go_ret2
                  exact .inr ⟨rfl, Hnt.out, HB6.out⟩
              · obtain ⟨s0, hs0⟩ : ∃ v, (wayK l N n n).getD 0 0 = v := ⟨_, rfl⟩
                have hrot := wayK_rot l N n Hl.out (by omega)
                have Hrot := Lib.hid hrot
                have Hway := Lib.hid (fun s (h : Turns l s) => (show wayS l N (l.getD (itr N (n - 1)) 0) = NZ s by
                  obtain ⟨_, _, h3, h4⟩ := h.way HO.out HI1.out
                  rw [Hl.out] at h3
                  rw [h3]; exact h4))
                clear hrot
                have hcx := hX.cell (i := 0) (by rw [hwl]; omega)
                rw [hs0] at hcx
                rw [hs0] at Hrot
                have hSx := sl_blk (xs := VI (wayK l N n n)) hX
                have hn1 : (0 : Int) < (n : Int) := by omega
                have Hwl := Lib.hid hwl
                have hrt : VI ((wayK l N n n).drop 1 ++ [s0]) = VI (wayS l N (l.getD (itr N (n - 1)) 0)) := by rw [Hrot.out]
                have hnn : n - 1 + 1 = n := by omega
                have hlo : ((wayK l N n n).drop 1).length = n - 1 := by rw [List.length_drop, Hwl.out]
                clear hwl
                have hsz5 := HB5.out.size
                have hrow : ∀ W, Below w5.heap.size w5 W → Sl W (some ⟨w4.heap.size, if n = 1 then 0 else 1, none⟩) (VI ((wayK l N n n).drop 1)) := fun W hW => by
                  have hk := hSx.below hW
                  refine ⟨fun e => (by cases e), fun a ha j u hu => ?_⟩
                  have hj : j < ((wayK l N n n).drop 1).length := by
                    rcases Nat.lt_or_ge j ((wayK l N n n).drop 1).length with h | h
                    · exact h
                    · rw [List.getElem?_eq_none (by rw [VI_length]; exact h)] at hu; cases hu
                  rw [hlo] at hj
                  rw [if_neg (by omega)] at ha
                  cases ha
                  have h9 := hk.cell _ rfl (1 + j) u (by
                    unfold VI at hu ⊢
                    rw [List.getElem?_map] at hu ⊢
                    rwa [List.getElem?_drop] at hu)
                  rw [← h9]
                  congr 1
                  unfold Addr.add
                  split <;> simp_all
                go_upto_region 24 with fail
                go_cut [9] (fun s9 wx => ∃ A6 c6, s9 = .slice A6 n c6 ∧ Sl wx A6 (VI (wayS l N (l.getD (itr N (n - 1)) 0))) ∧ Below w5.heap.size w5 wx)
                case first =>
                  by_cases h1 : n = 1
                  · subst h1
                    have hslW := fun W hW => hrow W hW
                    rw [if_pos rfl] at hslW
                    go_region_law (first | (refine step_grow_int rfl _ _ rfl ⟨w4.heap.size, 0, none⟩ 0 ((wayK l N 1 1).drop 1) rfl hlo (hslW _ ?_) ⟨w5.heap.size, 0, none⟩ s0 rfl (sl_blk (heap_alloc_new w5.drew _)) (by omega) ?_; exact ((Below.refl _ w5).trans (below_drewN _ w5 1)).alloc (Nat.le_refl _) _; intro v6 w6 hown6 hg6; rw [hrt] at hown6; obtain ⟨A6, c6, rfl, hS6, _, _⟩ := own_sl hown6))
                    all_goals go_wp2_with fail
                    all_goals go_meet
                    all_goals exact ⟨A6, c6, rfl, hS6, (((Below.refl _ w5).alloc (Nat.le_refl _) _).trans (below_drewN _ _ 1)).grown hg6 (by simp) (fun q hq => by cases hq)⟩
                  · have j1 : (n == 1) = false := by rw [beq_eq_false_iff_ne]; exact h1
                    have j2 : (1 : Int) ≤ (n : Int) := by omega
                    have hslW := fun W hW => hrow W hW
                    rw [if_neg h1] at hslW
                    go_region_law (first | (refine step_grow_int rfl _ _ rfl ⟨w4.heap.size, 1, none⟩ (n - 1) ((wayK l N n n).drop 1) rfl hlo (hslW _ ?_) ⟨w5.heap.size, 0, none⟩ s0 rfl (sl_blk (heap_alloc_new w5.drew _)) (by omega) ?_; exact ((Below.refl _ w5).trans (below_drewN _ w5 1)).alloc (Nat.le_refl _) _; intro v6 w6 hown6 hg6; rw [hrt, hnn] at hown6; obtain ⟨A6, c6, rfl, hS6, _, _⟩ := own_sl hown6))
                    all_goals go_wp2_with fail
                    all_goals go_meet
                    all_goals exact ⟨A6, c6, rfl, hS6, (((Below.refl _ w5).alloc (Nat.le_refl _) _).trans (below_drewN _ _ 1)).grown hg6 (by simp) (fun q hq => by cases hq)⟩
                case rest =>
                  have hwl2 : (wayS l N (l.getD (itr N (n - 1)) 0)).length = n := by rw [wayS_length _ _ _ (by rw [Hl.out]; omega)]; exact Hl.out
                  clear hX hB hrow hSx hcx hrt hlo
                  obtain ⟨A6, c6, rfl, hS6, hB6⟩ := hcut
                  have HTn := Lib.hid (turnG_any wc A6 n c6 _ hwl2 hn hS6)
                  have HS6 := Lib.hid hS6
                  have hbx6 := (hB6.cell (p := ⟨q0, 0, none⟩) hq5).trans hbx5
                  have hs6 := hB6.size
                  have HB6 := Lib.hid (below_step HB5.out hB6)
                  have Hwl2 := Lib.hid hwl2
                  clear hS6 hB6 hbx5 hwl2
                  go_wp2_with fail
                  go_at_call 33
                  refine HTn.out.mono ?_
                  rintro e w7 (⟨B, cb, t, sa, rfl, hct, hts, hsa, hSt, hB7⟩ | ⟨hnc, rfl, hB7⟩)
                  · have hbx7 := (hB7.cell (p := ⟨q0, 0, none⟩) (show q0 < wc.heap.size by omega)).trans hbx6
                    have hlt7 : (NI (trn t sa)).length = n := by
                      have h3 := congrArg List.length hts
                      rw [NI_length, Hwl2.out] at h3
                      rw [NI_length, trn_length hsa, ← h3]
                    have HB8 := Lib.hid (below_step HB6.out hB7)
                    have HSt := Lib.hid (HS6.out.below hB7)
                    have HEq := Lib.hid (equal_any w7 B A n cb n c (NI (trn t sa)) l hSt (HS.out.below HB8.out) hlt7 Hl.out (by omega))
                    have Hts := Lib.hid hts
                    have Hct := Lib.hid hct
                    have Hsa := Lib.hid hsa
                    clear hts hct hsa hSt hB7 HTn hbx6 hlt7
                    go_wp2_with fail
                    go_at_call 53
                    refine HEq.out.mono ?_
                    rintro e w8 ⟨b, rfl, hb, q, rfl⟩
                    cases b with
                    | true =>
                      have hlt := hb.1 rfl
                      have HB9 := Lib.hid (HB8.out.trans (below_drewN _ _ q))
                      have HS9 := Lib.hid (HSt.out.below (below_drewN w7.heap.size w7 q))
                      have Hlt9 := Lib.hid hlt
                      clear hb hlt HEq hbx7
                      go_wp2_with fail
                      go_ret2
                      refine .inl ⟨A6, c6, t, rfl, ⟨Hct.out, sa, Hsa.out, Hlt9.out.symm⟩, fun s' h => NZ_inj ((Hway.out s' h).symm.trans Hts.out), ?_, HB9.out⟩
                      rw [← Hts.out]
                      exact HS9.out
                    | false =>
                      have hnt : ∀ s, ¬ Turns l s := fun s h => by
                        have e1 : NZ s = NI t := (Hway.out s h).symm.trans Hts.out
                        have e2 : s = t := NZ_inj e1
                        subst e2
                        obtain ⟨_, sa2, h2, h3⟩ := h
                        rw [h2.unique Hsa.out] at h3
                        exact absurd (hb.2 h3.symm) (by simp)
                      have Hnt := Lib.hid hnt
                      have HB9 := Lib.hid (HB8.out.trans (below_drewN _ _ q))
                      clear hb hnt HEq hbx7
                      go_wp2_with fail
                      go_ret2
                      exact .inr ⟨rfl, Hnt.out, HB9.out⟩
                  · have hnt : ∀ s, ¬ Turns l s := fun s h => hnc (by rw [Hway.out s h]; exact closedI_nat h.1)
                    have Hnt := Lib.hid hnt
                    have HB8 := Lib.hid (below_step HB6.out hB7)
                    clear hnt hnc hB7 HTn
                    go_wp2_with fail
                    go_ret2
                    exact .inr ⟨rfl, Hnt.out, HB8.out⟩
end Go.Proofs.YtfjhcgmaignaoaaGreat
/- fm.From: an Index of a row that was turned. -/
namespace Go.Proofs.YtfjhcgmaignaoaaGreat
set_option maxRecDepth 100000
set_option linter.unusedVariables false
set_option linter.unusedSimpArgs false
set_option maxRecDepth 100000
open Go.RowKit Fm Rank
/-- a row that texts lay -/
def Good (s : List Nat) : Prop := (∀ x ∈ s, x < 258) ∧ (1 < s.length → s.getD (s.length - 2) 0 = 1)
def FromP (w : World) (l : List Int) (e : Ending) (w' : World) : Prop :=
  (∃ x s sa, e = .returned (.tuple #[.pointer (some ⟨x, 0, none⟩), .int .i64 0]) ∧ Turns l s ∧ (∀ s', Turns l s' → s' = s) ∧ Good s ∧ IdxM w' w.heap.size x s sa ∧ Below w.heap.size w w') ∨
  (e = .returned (.tuple #[.pointer none, .int .i64 3]) ∧ (∀ s, Turns l s → ¬ Good s) ∧ Below w.heap.size w w')
set_option maxHeartbeats 8000000 in
theorem from_any (w : World) (A : Option Addr) (n c : Nat) (l : List Int) (hl : l.length = n) (hn : n ≤ 65536) (hS : Sl w A (VI l)) (hlt : ∀ a, A = some a → a.block < w.heap.size) :
    Calls Tryz.prog 12 #[.slice A n c] w (FromP w l) := by
  have HBk := Lib.hid (back_any w A n c l hl hn hS hlt)
  have Hl := Lib.hid hl
  clear hS hlt hl
  go_enter Tryz.func12, Tryz.ntmps12
  go_wp2_with fail
  go_at_call 28
  refine HBk.out.mono ?_
  rintro e w1 (⟨B, cb, s, rfl, ht, hu, hSb, hB1⟩ | ⟨rfl, hno, hB1⟩)
  · have hc := ht.1
    have hsl : s.length = n := by
      obtain ⟨_, sa, h1, h2⟩ := ht
      rw [← Hl.out, h2, NZ_length, trn_length h1]
    have hpos : 0 < n := by rw [← hsl]; exact hc.pos
    obtain ⟨b, off, rfl, _⟩ := hSb.lit (j := 0) (by rw [VI_length, NI_length]; omega)
    have hb : b < w1.heap.size := hSb.lt _ rfl (fun e => by have := congrArg List.length e; rw [VI_length, NI_length] at this; have h0 : s.length = 0 := this; omega)
    have HSb := Lib.hid hSb
    have Ht := Lib.hid ht
    have Hu := Lib.hid hu
    have Hsl := Lib.hid hsl
    have HB1 := Lib.hid hB1
    have Hno : Hid (¬ Good s → ∀ s', Turns l s' → ¬ Good s') := Lib.hid (fun h s' h1 h2 => h (by rw [← hu s' h1]; exact h2))
    clear hSb ht hu hsl hB1 HBk hc
    go_wp2_with fail
    go_loopw [7, 19] (fun s7 q wr => ∃ i : Nat, i ≤ n ∧ q = .int .i64 (i : Int) ∧ Hid (∀ j, j < i → s.getD j 0 < 258) ∧ w1 = wr) (fun _ q _ => n - (intOf q).toNat)
    case atStart => exact ⟨0, Nat.zero_le _, rfl, Lib.hid (fun j hj => absurd hj (Nat.not_lt_zero _)), rfl⟩
    case round =>
      obtain ⟨i, hi, rfl, HA, rfl⟩ := hrel
      by_cases hin : i < n
      · have hcell := slNk HSb.out (i := i) (by rw [Hsl.out]; exact hin)
        have hgi : s.getD i 0 = s.getD i 0 := rfl
        have hmem : s.getD i 0 ∈ s := by
          rw [show s.getD i 0 = s[i]'(by rw [Hsl.out]; exact hin) by simp [List.getD, List.getElem?_eq_getElem (show i < s.length by rw [Hsl.out]; exact hin)]]
          exact List.getElem_mem _
        obtain ⟨v, hv⟩ : ∃ v, s.getD i 0 = v := ⟨_, rfl⟩
        rw [hv] at hcell hmem
        have Hv := Lib.hid hv
        have Hmem := Lib.hid hmem
        clear hv hmem hgi
        by_cases hbig : 258 ≤ v
        · have hbi : (258 : Int) ≤ (v : Int) := by omega
          go_wp2_with fail
          go_ret2
          exact .inr ⟨rfl, Hno.out (fun h => by have := h.1 v Hmem.out; omega), HB1.out⟩
        · have hbi : (v : Int) < (258 : Int) := by omega
          go_wp2_with fail
          go_roundw
          case rel => exact ⟨i + 1, by omega, by go_num, Lib.hid (fun j hj => by
            rcases Nat.lt_succ_iff_lt_or_eq.1 hj with h | h
            · exact HA.out j h
            · subst h; rw [Hv.out]; omega), trivial⟩
          case measure => simp [intOf]; omega
      · obtain rfl : n = i := by omega
        have HMd := fun (hx : ∀ x ∈ s, x < 512) => made_fm w1 b off n cb s Hsl.out Ht.out.1 hn HSb.out hb hx
        have hx258 : ∀ x ∈ s, x < 258 := fun x hx => by
          obtain ⟨k, hk, rfl⟩ := List.getElem_of_mem hx
          have := HA.out k (by rw [← Hsl.out]; exact hk)
          rwa [show s.getD k 0 = s[k] by simp [List.getD, List.getElem?_eq_getElem hk]] at this
        have HM := Lib.hid (HMd (fun x hx => by have := hx258 x hx; omega))
        have Hx := Lib.hid hx258
        clear HMd hx258 HA
        by_cases h1 : n = 1
        · have hGood : Good s := ⟨Hx.out, fun h => by rw [Hsl.out] at h; omega⟩
          have HG := Lib.hid hGood
          clear hGood
          subst h1
          go_wp2_with fail
          go_at_call 16
          refine HM.out.mono ?_
          rintro e w2 ⟨x, sa, rfl, hI, hB2⟩
          have HI := Lib.hid hI
          have HB2 := Lib.hid hB2
          clear hI hB2 HM
          go_wp2_with fail
          go_ret2
          exact .inl ⟨x, s, sa, rfl, Ht.out, Hu.out, HG.out, HI.out.mono HB1.out.size, below_step HB1.out HB2.out⟩
        · have hcell := slNk HSb.out (i := n - 2) (by rw [Hsl.out]; omega)
          have j1 : (1 : Int) < (n : Int) := by omega
          obtain ⟨v, hv⟩ : ∃ v, s.getD (n - 2) 0 = v := ⟨_, rfl⟩
          rw [hv] at hcell
          have Hv := Lib.hid hv
          have j2 : (n : Int) - 2 < (n : Int) := by omega
          have j3 : (0 : Int) ≤ (n : Int) - 2 := by omega
          have j4 : ((n : Int) - 2).toNat = n - 2 := by omega
          clear hv
          by_cases hv1 : v = 1
          · subst hv1
            have HG := Lib.hid (show Good s from ⟨Hx.out, fun h => by rw [Hsl.out]; exact Hv.out⟩)
            go_wp2_with fail
            go_at_call 16
            refine HM.out.mono ?_
            rintro e w2 ⟨x, sa, rfl, hI, hB2⟩
            have HI := Lib.hid hI
            have HB2 := Lib.hid hB2
            clear hI hB2 HM
            go_wp2_with fail
            go_ret2
            exact .inl ⟨x, s, sa, rfl, Ht.out, Hu.out, HG.out, HI.out.mono HB1.out.size, below_step HB1.out HB2.out⟩
          · have hv1i : ((v : Int) == 1) = false := by rw [beq_eq_false_iff_ne]; omega
            have HG := Lib.hid (show ¬ Good s from fun h => hv1 (by have := h.2 (by rw [Hsl.out]; omega); rw [Hsl.out, Hv.out] at this; exact this))
            go_wp2_with fail
            go_ret2
            exact .inr ⟨rfl, Hno.out HG.out, HB1.out⟩
  · have HB1 := Lib.hid hB1
    have Hno := Lib.hid hno
    clear hB1 hno HBk
    go_wp2_with fail
    go_ret2
    exact .inr ⟨rfl, fun s h => absurd h (Hno.out s), HB1.out⟩
end Go.Proofs.YtfjhcgmaignaoaaGreat
/- The law FmRound, walked. -/
namespace Go.Proofs.YtfjhcgmaignaoaaGreat
set_option maxRecDepth 100000
set_option linter.unusedVariables false
set_option linter.unusedSimpArgs false
set_option maxRecDepth 100000
open Go.RowKit Fm Rank
theorem body_eachH {ts : List (List Nat)} {m : Nat} (h : (body ts).length ≤ m) : ∀ t ∈ ts, t.length ≤ m := by
  intro t ht
  obtain ⟨i, hi, rfl⟩ := List.getElem_of_mem ht
  have h1 := congrArg List.length (body_take_succ ts i hi)
  have h2 := body_take_le ts (i + 1)
  rw [List.length_append, txt_length, getD_in2 hi] at h1
  omega
theorem rowT_good (ts : List (List Nat)) (h : ∀ t ∈ ts, ∀ b ∈ t, b < 256) : Good (rowT ts) := by
  have hlt : ∀ (ts : List (List Nat)), (∀ t ∈ ts, ∀ b ∈ t, b < 256) → ∀ x ∈ rowT ts, x < 258 := by
    intro ts
    induction ts with
    | nil => intro _ x hx; simp [rowT, body] at hx; omega
    | cons t ts ih =>
      intro h x hx
      rw [rowT_cons] at hx
      rcases List.mem_append.1 hx with h1 | h1
      · unfold txt at h1
        rcases List.mem_append.1 h1 with h2 | h2
        · obtain ⟨b, hb, rfl⟩ := List.mem_map.1 h2
          have := h t (by simp) b hb
          omega
        · simp at h2; omega
      · exact ih (fun t ht => h t (by simp [ht])) x h1
  refine ⟨hlt ts h, ?_⟩
  intro hl
  rcases List.eq_nil_or_concat ts with rfl | ⟨us, t, rfl⟩
  · simp [rowT, body] at hl
  · have e : rowT (us ++ [t]) = (body us ++ t.map (· + 2)) ++ [1, 0] := by
      simp [rowT, body, txt]
    have e2 : (rowT (us ++ [t])).length - 2 = (body us ++ t.map (· + 2)).length := by rw [e, List.length_append]; simp
    rw [show us.concat t = us ++ [t] by simp] at *
    rw [e2, e]
    simp [List.getD]
set_option maxHeartbeats 8000000 in
theorem lawRound (A P : Option Addr) (n c np cp : Nat) (ts ps : List (List Nat)) (w : World) (hA : RArg w A n c ts) (hP : RArg w P np cp ps) :
    Calls Tryz.prog 5 #[.slice A n c, .slice P np cp] w (TrueBelow w) := by
  have HH := Lib.hid (heavy_any w A n c ts hA)
  have HHp := Lib.hid (heavy_any w P np cp ps hP)
  have hnm := hA.nm
  have hnpm := hP.nm
  have HA := Lib.hid hA
  have HP := Lib.hid hP
  have HK := Lib.hid (fun w => known_any w)
  clear hA hP
  go_enter Tryz.func5, Tryz.ntmps5
  go_wp2_with fail
  go_at_call 6
  refine HH.out.mono ?_
  rintro e w' ⟨hv, rfl, rfl, hbl⟩
  cases hv with
  | true =>
    go_wp2_with fail
    go_ret
    exact ⟨rfl, Below.refl _ _⟩
  | false =>
    have Hbl := Lib.hid (hbl rfl)
    clear hbl HH
    by_cases h60 : 60 < n
    · have h60i : (60 : Int) < (n : Int) := by omega
      go_wp2_with fail
      go_ret
      exact ⟨rfl, Below.refl _ _⟩
    have hn6 : n ≤ 60 := by omega
    clear hnm h60
    go_wp2_with fail
    go_at_call 6
    refine HHp.out.mono ?_
    rintro e w' ⟨hv, rfl, rfl, hblp⟩
    cases hv with
    | true =>
      go_wp2_with fail
      go_ret
      exact ⟨rfl, Below.refl _ _⟩
    | false =>
      have Hblp := Lib.hid (hblp rfl)
      clear hblp HHp
      by_cases h20 : 10 < np
      · have h20i : (10 : Int) < (np : Int) := by omega
        go_wp2_with fail
        go_ret
        exact ⟨rfl, Below.refl _ _⟩
      have hn20 : np ≤ 10 := by omega
      have hrl : (rowT ts).length ≤ 65536 := by rw [rowT_length]; have := Hbl.out; omega
      have Hrl := Lib.hid hrl
      have HBd := Lib.hid (build_ok w A n c ts HA.out (by omega) (by rw [rowT_length]; have := Hbl.out; omega))
      clear hnpm h20 hrl
      go_wp2_with fail
      go_at_call 7
      refine HBd.out.mono ?_
      rintro e w2 ⟨x, sa, rfl, hI, hB2⟩
      have HT := Lib.hid (turnedX_any hI)
      have HI := Lib.hid hI
      have HB2 := Lib.hid hB2
      clear hI hB2 HBd
      go_wp2_with fail
      go_at_call 15
      refine HT.out.mono ?_
      rintro e w3 ⟨A3, c3, rfl, hS3, hB3⟩
      have hsa3 := HI.out.ord
      have hl3 : (NI (trn (rowT ts) sa)).length = (rowT ts).length := by rw [NI_length, trn_length hsa3]
      have hpos := rowT_length ts
      have hT : Turns (NI (trn (rowT ts) sa)) (rowT ts) := ⟨rowT_closed ts, sa, hsa3, rfl⟩
      have HT2 := Lib.hid hT
      have HFr := Lib.hid (from_any w3 A3 (rowT ts).length c3 _ hl3 Hrl.out hS3 (fun a ha => hS3.lt a ha (fun e => by have := congrArg List.length e; rw [VI_length, hl3] at this; have h0 : (rowT ts).length = 0 := this; omega)))
      have HB3 := Lib.hid (below_step HB2.out hB3)
      clear hS3 hB3 hT hsa3 hl3 HT hpos
      go_wp2_with fail
      go_at_call 12
      refine HFr.out.mono ?_
      rintro e w4 (⟨y, s, sb, rfl, ht, hu, hg, hI, hB4⟩ | ⟨rfl, hno, hB4⟩)
      · obtain rfl := hu _ HT2.out
        have HB4 := Lib.hid (below_step HB3.out hB4)
        have HAl := Lib.hid (alike_any7 (asks := []) A P none n c np cp 0 0 hI (HA.out.below HB4.out) (HP.out.below HB4.out) ⟨fun _ => rfl, fun a ha => by cases ha⟩ rfl (by omega) (fun p hp => by have := body_eachH Hblp.out p hp; omega) (by omega))
        clear ht hu hg hI hB4 HFr HI
        go_wp2_with fail
        go_at_call 10
        refine HAl.out.mono ?_
        rintro e w9 ⟨rfl, hB9⟩
        have HB9 := Lib.hid (below_step HB4.out hB9)
        clear hB9 HAl
        go_wp2_with fail
        refine (HK.out _).mono ?_
        rintro e w10 ⟨rfl, hB10⟩
        have HB10 := Lib.hid (below_step HB9.out hB10)
        clear hB10
        go_wp2_with fail
        go_ret
        exact ⟨rfl, HB10.out⟩
      · exact absurd (rowT_good ts HA.out.lt) (hno _ HT2.out)
end Go.Proofs.YtfjhcgmaignaoaaGreat
