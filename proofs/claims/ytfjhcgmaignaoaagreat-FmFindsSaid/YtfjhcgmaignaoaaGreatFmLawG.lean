/- The law FmFinds, walked. -/
import Derived.Test.YtfjhcgmaignaoaaGreatFmCopy
namespace Go.Proofs.YtfjhcgmaignaoaaGreat
set_option linter.unusedVariables false
set_option linter.unusedSimpArgs false
set_option maxRecDepth 100000
open Go.RowKit Fm Rank

theorem body_each {ts : List (List Nat)} {m : Nat} (h : (body ts).length ≤ m) : ∀ t ∈ ts, t.length ≤ m := by
  intro t ht
  obtain ⟨i, hi, rfl⟩ := List.getElem_of_mem ht
  have h1 := congrArg List.length (body_take_succ ts i hi)
  have h2 := body_take_le ts (i + 1)
  rw [List.length_append, txt_length, getD_in2 hi] at h1
  omega
/-- what the copies that are yet to be spoiled are, and what is read beside them -/
structure Left (w : World) (base : Nat) (A : Option Addr) (ts : List (List Nat)) (vs : List Value) (i : Nat) : Prop where
  row : Sl w A vs
  out : ∀ a, A = some a → ∀ j, j < vs.length → (vs.getD j undef).ownBlock ≠ some a.block
  own : ∀ j, i ≤ j → j < vs.length → w.ownsRow base 5 1 (vs.getD j undef) (ts.getD j []).length (VY (ts.getD j []))
  ap : ∀ j k, j < k → k < vs.length → ∀ g, (vs.getD j undef).ownBlock = some g → (vs.getD k undef).ownBlock ≠ some g
theorem Left.next {w w' : World} {base : Nat} {A : Option Addr} {ts : List (List Nat)} {vs : List Value} {i : Nat} (h : Left w base A ts vs i) (hi : i < vs.length) (hg : w.grownBy w' (vs.getD i undef).ownBlock) : Left w' base A ts vs (i + 1) := by
  refine ⟨h.row.grown hg fun a ha _ e => h.out a ha i hi e.symm, h.out, fun j hj hjl => ?_, h.ap⟩
  refine World.ownsRow.kept (h.own j (by omega) hjl) hg ?_
  cases hv : (vs.getD i undef).ownBlock with
  | none =>
    cases hq : (vs.getD j undef).ownBlock with
    | none => exact .inl rfl
    | some q => exact .inr (by simp)
  | some g => exact .inr (h.ap i j (by omega) hjl g hv)
theorem Left.below {w w' : World} {base : Nat} {A : Option Addr} {ts : List (List Nat)} {vs : List Value} {i : Nat} (h : Left w base A ts vs i) (hb : Below w.heap.size w w') : Left w' base A ts vs i :=
  ⟨h.row.below hb, h.out, fun j hj hjl => own_below (h.own j hj hjl) hb, h.ap⟩
theorem spoil_n (w : World) (base : Nat) (A : Option Addr) (n cap : Nat) (p : List Nat) (hl : p.length = n) (hown : w.ownsRow base 5 1 (.slice A n cap) n (VY p)) (hn : n ≤ 65536) (hbase : base ≤ w.heap.size) :
    Calls Tryz.prog 9 #[.slice A n cap] w fun e w' => e = .returned (.tuple #[]) ∧ w.grownBy w' (Value.slice A n cap).ownBlock := by
  subst hl
  exact spoil_any w base A cap p hown hn hbase
set_option maxHeartbeats 8000000 in
theorem lawFinds (A P B : Option Addr) (n c np cp na ca : Nat) (ts ps : List (List Nat)) (asks : List Int) (w : World) (hA : RArg w A n c ts) (hP : RArg w P np cp ps) (hB : Sl w B (VI asks)) (hna : asks.length = na) (hna6 : na ≤ 9223372036854775807) :
    Calls Tryz.prog 3 #[.slice A n c, .slice P np cp, .slice B na ca] w (TrueBelow w) := by
  have HH := Lib.hid (heavy_any w A n c ts hA)
  have HHp := Lib.hid (heavy_any w P np cp ps hP)
  have hnm := hA.nm
  have hnpm := hP.nm
  have HA := Lib.hid hA
  have HP := Lib.hid hP
  have HBa := Lib.hid hB
  have Hna := Lib.hid hna
  have Hl := Lib.hid hA.len
  have HK := Lib.hid (fun w => known_any w)
  clear hA hP hB hna
  go_enter Tryz.func3, Tryz.ntmps3
  go_wp2_with fail
  go_at_call 6
  refine HH.out.mono ?_
  rintro e w' ⟨hv, rfl, rfl, hbl⟩
  cases hv with
  | true =>
    go_wp2_with fail
    go_ret
    exact ⟨rfl, Below.refl _ _⟩
  | false =>
    have Hbl := Lib.hid (hbl rfl)
    clear hbl HH
    by_cases h60 : 60 < n
    · have h60i : (60 : Int) < (n : Int) := by omega
      go_wp2_with fail
      go_ret
      exact ⟨rfl, Below.refl _ _⟩
    have hn6 : n ≤ 60 := by omega
    clear hnm h60
    go_wp2_with fail
    go_at_call 6
    refine HHp.out.mono ?_
    rintro e w' ⟨hv, rfl, rfl, hblp⟩
    cases hv with
    | true =>
      go_wp2_with fail
      go_ret
      exact ⟨rfl, Below.refl _ _⟩
    | false =>
      have Hblp := Lib.hid (hblp rfl)
      clear hblp HHp
      by_cases h20 : 20 < np
      · have h20i : (20 : Int) < (np : Int) := by omega
        go_wp2_with fail
        go_ret
        exact ⟨rfl, Below.refl _ _⟩
      have hn20 : np ≤ 20 := by omega
      clear hnpm h20
      by_cases ha60 : 60 < na
      · have ha60i : (60 : Int) < (na : Int) := by omega
        go_wp2_with fail
        go_ret
        exact ⟨rfl, Below.refl _ _⟩
      have hna60 : na ≤ 60 := by omega
      clear hna6 ha60
      go_wp2_with fail
      go_loopw [7, 8] (fun v q wr => ∃ (i : Nat) (vs : List Value), i ≤ n ∧ q = .int .i64 (i : Int) ∧ Hid (Copies wr w.heap.size v (ts.take i) vs) ∧ Hid (Below w.heap.size w wr)) (fun _ q _ => n - (intOf q).toNat)
      case atStart => exact ⟨0, [], Nat.zero_le _, rfl, Lib.hid (by simpa using Copies.nil w w.heap.size), Lib.hid (Below.refl _ _)⟩
      case round =>
        obtain ⟨i, vs, hi, rfl, HC, HB⟩ := hrel
        by_cases hin : i < n
        · as_aux_lemma =>
          obtain ⟨a, Ad, L, C, rfl, hcell0, hL, hLC, hnil, hS⟩ := HA.out.row i hin
          have hil : i < ts.length := by rw [Hl.out]; exact hin
          have hcw := (World.cell?_of_block (HB.out.block _ (World.block_lt_of_cell? w _ hcell0))).trans hcell0
          have hcw2 := (World.cell?_of_block (w := wr) (((Below.refl _ wr).alloc (Nat.le_refl _) (.cells #[] 5)).block _ (World.block_lt_of_cell? wr _ hcw))).trans hcw
          have hL8 : L ≤ 800 := by rw [← hL]; exact body_each Hbl.out _ (by rw [getD_in2 hil]; exact List.getElem_mem hil)
          have HSw := Lib.hid ((hS.below HB.out).below ((Below.refl _ wr).alloc (Nat.le_refl _) (.cells #[] 5)))
          have Htk := Lib.hid (show ts.take (i + 1) = ts.take i ++ [ts.getD i []] by rw [List.take_succ_eq_append_getElem hil, getD_in2 hil])
          have HL := Lib.hid hL
          have Hnl := Lib.hid hnil
          have hbs := HB.out.size
          have hvl : vs.length ≤ 60 := by rw [HC.out.len, List.length_take]; omega
          obtain ⟨A7, c7, hv7, _, _, _⟩ := own_sl HC.out.row
          subst hv7
          clear hcell0 hL hnil hS hil hLC
          generalize ts.getD i [] = t at *
          go_wp2_with (first
            | (at_builtin; refine app_row rfl _ _ rfl w.heap.size _ vs rfl hrow1 ⟨w1.heap.size, 0, none⟩ 1 A1 t.length c1 rfl (sl_blk (heap_alloc_new w1 _)) (by omega) hs1 ?_; intro v7 w7 hown7 hg7)
            | (at_builtin; refine app_u8 rfl _ _ rfl wr.heap.size _ [] rfl (World.ownsRow_made wr #[] 0 (Nat.le_refl _) (by decide) (by simp)) Ad L C t rfl Hnl.out HL.out HSw.out (by simp; omega) (by simp) ?_; intro v1 w1 hown1 hg1; have hB1 := below_app (Below.refl _ wr) hg1 (Nat.le_refl _) (fun k hk => by have : some wr.heap.size = some k := hk; injection this; omega); rw [List.nil_append] at hown1; obtain ⟨A1, c1, rfl, hS1, hl1, _⟩ := own_sl hown1; have hrow1 := World.ownsRow.alloc (own_below HC.out.row hB1) (.cells #[.slice A1 t.length c1] 25); have hs1 : w.heap.size ≤ (w1.alloc (.cells #[.slice A1 t.length c1] 25)).heap.size := by have := hB1.size; simp; omega))
          have HC7 := Lib.hid (HC.out.step hbs (.cells #[.slice A1 t.length c1] 25) hown1 hB1 hown7 hg7)
          have HB7 := Lib.hid (show Below w.heap.size w w7 from (((below_step HB.out hB1).alloc (by have := hB1.size; omega) _).grown hg7 hs1 (fun k hk => (World.ownsRow.lt HC.out.row k hk).1)))
          rw [← Htk.out] at HC7
          clear hown1 hown7 hg1 hg7 hB1 hrow1
          go_roundw
          case rel => exact ⟨i + 1, _, by omega, by go_num, HC7, HB7⟩
          case measure => simp [intOf]; omega
        · obtain rfl : n = i := by omega
          have htk : ts.take n = ts := List.take_of_length_le (by rw [Hl.out]; exact Nat.le_refl _)
          have hC := HC.out
          rw [htk] at hC
          have hmo : ∀ t ∈ ts, t.length ≤ 65536 := fun t ht => by have := body_each Hbl.out t ht; omega
          obtain ⟨A7, c7, hv7, hS7, hR7⟩ := hC.arg Hl.out (by omega) hmo HA.out.lt
          subst hv7
          have HLf : Hid (Left wr w.heap.size A7 ts vs 0) := Lib.hid ⟨hS7, fun a ha j hj e => by
            subst ha
            exact tags_apart (s1 := 1) (s2 := 1) hC.row (hC.own j hj) (by decide) a.block rfl e, fun j _ hj => hC.own j hj, hC.ap⟩
          have Hvl := Lib.hid (hC.len.trans Hl.out)
          have Hlts := Lib.hid (fun j (hj : j < vs.length) g (hg : (vs.getD j undef).ownBlock = some g) => World.ownsRow.lt (hC.own j hj) g hg)
          have HBd := Lib.hid (build_ok wr A7 n c7 ts hR7 (by omega) (by rw [rowT_length]; have := Hbl.out; omega))
          clear hC hS7 hR7 htk hmo HC
          obtain ⟨w1, hw1⟩ : ∃ W, W = wr := ⟨_, rfl⟩
          subst hw1
          go_wp2_with fail
          go_at_call 7
          refine HBd.out.mono ?_
          rintro e w2 ⟨x, sa, rfl, hI, hB2⟩
          have HI := Lib.hid hI
          have HB2 := Lib.hid (below_step HB.out hB2)
          have HL2 := Lib.hid (HLf.out.below hB2)
          have hs2 := hB2.size
          clear hI hB2 HBd HLf
          go_wp2_with fail
          go_loopw [11] (fun q wr => ∃ i : Nat, i ≤ n ∧ q = .int .i64 (i : Int) ∧ Hid (Left wr w.heap.size A7 ts vs i) ∧ Hid (IdxM wr w1.heap.size x (rowT ts) sa) ∧ Hid (Below w.heap.size w wr)) (fun q _ => n - (intOf q).toNat)
          case atStart => exact ⟨0, Nat.zero_le _, rfl, HL2, HI, HB2⟩
          case round =>
            clear HL2 HI HB2
            obtain ⟨i, hi, rfl, HL2, HI, HB2⟩ := hrel
            by_cases hin : i < n
            · as_aux_lemma =>
              obtain ⟨a, Ad, L, C, rfl, hcell0, hL, hLC, hnil, hS⟩ := HA.out.row i hin
              have hil : i < ts.length := by rw [Hl.out]; exact hin
              have hcw := (World.cell?_of_block (HB2.out.block _ (World.block_lt_of_cell? w _ hcell0))).trans hcell0
              have hL8 : L ≤ 800 := by rw [← hL]; exact body_each Hbl.out _ (by rw [getD_in2 hil]; exact List.getElem_mem hil)
              have hvi : i < vs.length := by rw [Hvl.out]; exact hin
              have hown := HL2.out.own i (Nat.le_refl _) hvi
              obtain ⟨A2, c2, hv2, hS2, _, _⟩ := own_sl hown
              obtain ⟨b7, o7, rfl, hc7⟩ := HL2.out.row.lit (j := i) hvi
              rw [List.getElem?_eq_getElem hvi, show vs[i] = vs.getD i undef by simp [List.getD, List.getElem?_eq_getElem hvi], hv2, hL] at hc7
              rw [hL] at hv2 hown
              rw [hv2] at hown
              have HSm := Lib.hid (fun q => same_true (wr.drewN q) A2 Ad L c2 C (ts.getD i []) (hS2.drewN q) ((hS.below HB2.out).drewN q) hL (by omega))
              have Hown := Lib.hid hown
              have HL := Lib.hid hL
              have Hv2 := Lib.hid hv2
              have Hlt := Lib.hid (Hlts.out i hvi)
              have hbs := HB2.out.size
              have j1 : (i : Int) < (n : Int) := by omega
              have j2 : (0 : Int) ≤ (i : Int) := by omega
              clear hcell0 hL hnil hS hil hLC hown hv2 hS2
              go_wp2_with fail
              go_quiet ((go_at_call 8; exact Calls.quiet_of (HSm.out _)))
              obtain ⟨w9, hw9⟩ : ∃ W, wr.drewN nq = W := ⟨_, rfl⟩
              have hc9 : w9.cell? ⟨b7, o7 + i, none⟩ = some (.slice A2 L c2) := by rw [← hw9]; exact hc7
              have hb9 : Below wr.heap.size wr w9 := by rw [← hw9]; exact below_drewN _ _ _
              rw [hw9]
              have HB9 := Lib.hid (below_step HB2.out hb9)
              have HL9 := Lib.hid (HL2.out.below hb9)
              have HI9 := Lib.hid (HI.out.below hb9)
              have HSp := Lib.hid (spoil_n w9 w.heap.size A2 L c2 (ts.getD i []) HL.out (own_below Hown.out hb9) (by omega) (HB9.out.size))
              clear hw9 hb9 hc7 HSm hcw
              go_wp2_with fail
              go_at_call 9
              refine HSp.out.mono ?_
              rintro e w10 ⟨rfl, hg⟩
              rw [← Hv2.out] at hg
              have HL10 := Lib.hid (HL9.out.next hvi hg)
              have HI10 := Lib.hid (HI9.out.keep (w' := w10) fun k hk hk2 => hg.block k hk2 fun e => by have := (Hlt.out k e.symm).2; omega)
              have HB10 := Lib.hid (HB9.out.grown hg HB9.out.size fun k hk => (Hlt.out k hk).1)
              clear hg HSp hc9
              go_wp2_with fail
              go_roundw
              case rel => exact ⟨i + 1, by omega, by go_num, HL10, HI10, HB10⟩
              case measure => simp [intOf]; omega
            · obtain rfl : n = i := by omega
              have HAl := Lib.hid (alike_any7 A P B n c np cp na ca HI.out (HA.out.below HB2.out) (HP.out.below HB2.out) (HBa.out.below HB2.out) Hna.out (by omega) (fun p hp => by have := body_each Hblp.out p hp; omega) (by omega))
              clear HL2 HI
              go_wp2_with fail
              go_at_call 10
              refine HAl.out.mono ?_
              rintro e w9 ⟨rfl, hB9⟩
              have HB9 := Lib.hid (below_step HB2.out hB9)
              clear hB9 HAl
              go_wp2_with fail
              refine (HK.out _).mono ?_
              rintro e w10 ⟨rfl, hB10⟩
              have HB10 := Lib.hid (below_step HB9.out hB10)
              clear hB10
              go_wp2_with fail
              go_ret
              exact ⟨rfl, HB10.out⟩
end Go.Proofs.YtfjhcgmaignaoaaGreat
