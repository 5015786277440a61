/- The law FmLonger, walked. -/
import Derived.Test.YtfjhcgmaignaoaaFmLong2
namespace Go.Proofs.Ytfjhcgmaignaoaa
set_option linter.unusedVariables false
set_option linter.unusedSimpArgs false
set_option maxRecDepth 100000
open Go.RowKit Fm Rank

set_option maxHeartbeats 8000000 in
theorem lawLonger (A : Option Addr) (n c : Nat) (ts : List (List Nat)) (A1 A2 : Option Addr) (n1 c1 n2 c2 : Nat) (p mo : List Nat) (w : World) (hA : RArg w A n c ts) (h1 : YArg w A1 n1 c1 p) (h2 : YArg w A2 n2 c2 mo) (r1 : n1 ≤ 140737488351232) (r2 : n2 ≤ 140737488351232) :
    Calls Try.prog 5 #[.slice A n c, .slice A1 n1 c1, .slice A2 n2 c2] w (TrueBelow w) := by
  have HH := Lib.hid (heavy_any w A n c ts hA)
  have hnm := hA.nm
  have HA := Lib.hid hA
  have Hl := Lib.hid hA.len
  have HP := Lib.hid h1
  have HM := Lib.hid h2
  have HK := Lib.hid (fun w => known_any w)
  clear hA h1 h2
  go_enter Try.func5, Try.ntmps5
  go_wp2_with fail
  go_at_call 11
  refine HH.out.mono ?_
  rintro e w' ⟨hv, rfl, rfl, hbl⟩
  cases hv with
  | true =>
    go_wp2_with fail
    go_ret
    exact ⟨rfl, Below.refl _ _⟩
  | false =>
    have hbl := hbl rfl
    have hn : n ≤ 800 := by have := len_le_body ts; have := Hl.out; omega
    clear hnm
    by_cases h40 : 40 < n
    · go_wp2_with fail
      go_ret
      exact ⟨rfl, Below.refl _ _⟩
    by_cases h50 : 50 < n1 + n2
    · have h50i : (50 : Int) < (n1 : Int) + (n2 : Int) := by omega
      go_wp2_with fail
      go_ret
      exact ⟨rfl, Below.refl _ _⟩
    have h50i : ¬ (50 : Int) < (n1 : Int) + (n2 : Int) := by omega
    by_cases h0 : n1 = 0
    · subst h0
      go_wp2_with fail
      go_ret
      exact ⟨rfl, Below.refl _ _⟩
    have hp0 : (n1 == 0) = false := by rw [beq_eq_false_iff_ne]; exact h0
    have hp1 : ((n1 : Int) == 0) = false := by rw [beq_eq_false_iff_ne]; omega
    have Hbl := Lib.hid hbl
    have HBd := Lib.hid (build_ok w A n c ts HA.out (by omega) (by rw [rowT_length]; omega))
    have hpne : p ≠ [] := fun e => by
      have := HP.out.len
      rw [e] at this
      exact h0 this.symm
    have Hpne := Lib.hid hpne
    have Hpl := Lib.hid HP.out.len
    have Hml := Lib.hid HM.out.len
    have r1' : n1 ≤ 50 := by omega
    have r2' : n2 ≤ 50 := by omega
    clear HH hbl hpne r1 r2
    go_wp2_with fail
    go_at_call 10
    refine HBd.out.mono ?_
    rintro e w4 ⟨x, sa, rfl, hI, hB4⟩
    have HI := Lib.hid hI
    have HB4 := Lib.hid hB4
    have HL1 := Lib.hid (locateT hI A1 n1 c1 p (HP.out.sl.below hB4) HP.out.len (by omega) HP.out.lt)
    clear hI hB4 HBd
    go_wp2_with fail
    go_at_call 13
    refine HL1.out.mono ?_
    rintro e w5 ⟨A5, c5, rfl, hS5, hB5⟩
    have HI5 := Lib.hid (HI.out.below hB5)
    have HB5 := Lib.hid (below_step HB4.out hB5)
    have HS5 := Lib.hid hS5
    rw [IH_length]
    have hs5 := HB5.out.size
    have hsp := HP.out.sl.below HB5.out
    have hsm := HM.out.sl.below HB5.out
    have HSm := Lib.hid hsm
    clear hS5 hB5 HL1 hsm
    go_wp2_with (first | (at_builtin; refine app_u8 rfl _ _ rfl w5.heap.size _ ([] ++ p) rfl hown6 A2 n2 c2 mo rfl HM.out.nil Hml.out (HSm.out.below hB6) (by rw [List.nil_append, Hpl.out]; omega) hB6.size ?_; intro v7 w7 hown7 hg7) | (at_builtin; refine app_u8 rfl _ _ rfl w5.heap.size _ [] rfl (World.ownsRow_made w5 #[] 0 (Nat.le_refl _) (by decide) (by simp)) A1 n1 c1 p rfl HP.out.nil Hpl.out (hsp.below ((Below.refl _ w5).alloc (Nat.le_refl _) _)) (by simp; omega) (by simp) ?_; intro v6 w6 hown6 hg6; have hB6 := below_app (Below.refl _ w5) hg6 (Nat.le_refl _) (fun k hk => by have : some w5.heap.size = some k := hk; injection this; omega)))
    have hB7 : Below w5.heap.size w5 w7 := hB6.grown hg7 hB6.size (fun k hk => (World.ownsRow.lt hown6 k hk).1)
    rw [List.nil_append] at hown7
    obtain ⟨A7, c7, rfl, hS7, _, _⟩ := own_sl hown7
    have hl7 : (p ++ mo).length = n1 + n2 := by rw [List.length_append, Hpl.out, Hml.out]
    have hl7' : (VY p ++ VY mo).length = 0 ∨ True := .inr trivial
    have HL2 := Lib.hid (locateT (HI5.out.below hB7) A7 (n1 + n2) c7 (p ++ mo) hS7 hl7 (by omega) (fun b hb => by rcases List.mem_append.1 hb with h | h; exact HP.out.lt b h; exact HM.out.lt b h))
    rw [hl7]
    have HB7 := Lib.hid (below_step HB5.out hB7)
    have HI7 := Lib.hid (HI5.out.below hB7)
    have HS7 := Lib.hid (HS5.out.below hB7)
    clear hown6 hg6 hown7 hg7 hB6 hB7 hS7 hl7 hl7' hsp
    go_wp2_with fail
    go_at_call 13
    refine HL2.out.mono ?_
    rintro e w8 ⟨A8, c8, rfl, hS8, hB8⟩
    rw [IH_length]
    have HSA := Lib.hid (HS7.out.below hB8)
    have HSB := Lib.hid hS8
    have HI8 := Lib.hid (HI7.out.below hB8)
    have HB8 := Lib.hid (below_step HB7.out hB8)
    clear hS8 hB8 HL2
    have hla : (found ts p).length ≤ 65536 := by
      rw [← occP_found]
      unfold occP
      split
      · simp
      · have h1 := List.length_filter_le (fun q => (p.map (· + 2)).isPrefixOf ((rowT ts).drop q)) (List.range (rowT ts).length)
        have h2 := HI.out.len
        rw [List.length_range] at h1
        exact Nat.le_trans h1 h2
    have hlb : (found ts (p ++ mo)).length ≤ 65536 := by
      rw [← occP_found]
      unfold occP
      split
      · simp
      · have h1 := List.length_filter_le (fun q => ((p ++ mo).map (· + 2)).isPrefixOf ((rowT ts).drop q)) (List.range (rowT ts).length)
        have h2 := HI.out.len
        rw [List.length_range] at h1
        exact Nat.le_trans h1 h2
    have HBef := Lib.hid (Bef.zero (LA := found ts p) (LB := found ts (p ++ mo)) (fun x hx => (found_long Hpne.out hx).1))
    have HsA := Lib.hid (found_sorted ts p)
    have HsB := Lib.hid (found_sorted ts (p ++ mo))
    have Hlong := Lib.hid (fun i (hi : i < (found ts (p ++ mo)).length) => (found_long Hpne.out (show (found ts (p ++ mo)).getD i (0, 0) ∈ found ts (p ++ mo) by rw [getD_pair hi]; exact List.getElem_mem hi)).2)
    rw [Hpl.out, Hml.out] at Hlong
    generalize found ts p = LA at *
    generalize found ts (p ++ mo) = LB at *
    go_wp2_with fail
    go_loopw [11, 12] (fun s11 s12 wr => ∃ k i q : Nat, s11 = .int .i64 (k : Int) ∧ s12 = .int .i64 (i : Int) ∧ i ≤ LB.length ∧ Hid (Bef LA LB i k) ∧ k ≤ LA.length ∧ wr = w8.drewN q) (fun _ s12 _ => LB.length - (intOf s12).toNat)
    case atStart => exact ⟨0, 0, 0, rfl, rfl, Nat.zero_le _, HBef, Nat.zero_le _, rfl⟩
    case round =>
      obtain ⟨k, i, q, rfl, rfl, hi, Hb, hk, rfl⟩ := hrel
      by_cases hib : i < LB.length
      · obtain ⟨m, hkm, hmA, hme⟩ := Hb.out i (Nat.le_refl _) hib
        obtain ⟨b5, o5, hA5, hz1, hz2⟩ := hit_cells HSA.out hmA
        obtain ⟨b8, o8, hA8, hz3, hz4⟩ := hit_cells HSB.out hib
        clear hz1 hz2 hz3 hz4
        subst hA5
        subst hA8
        have HcA := Lib.hid (fun k' (h : k' < LA.length) => hit_cells2 HSA.out h)
        have HcB := Lib.hid (hit_cells2 HSB.out hib)
        have Hme := Lib.hid hme
        obtain ⟨hly, hlz⟩ := Hlong.out i hib
        have HLn := Lib.hid (fun q' => lenT (HI8.out.below (below_drewN _ w8 q')) (LB.getD i (0, 0)).1 hly)
        have Hlz := Lib.hid hlz
        obtain ⟨LL, hLL⟩ : ∃ LL, (ts.getD (LB.getD i (0, 0)).1 []).length = LL := ⟨_, rfl⟩
        rw [hLL] at HLn Hlz
        have hLL8 : LL ≤ 65536 := by
          have h1 := congrArg List.length (body_take_succ ts (LB.getD i (0, 0)).1 hly)
          have h2 := body_take_le ts ((LB.getD i (0, 0)).1 + 1)
          have h3 := Hbl.out
          rw [List.length_append, txt_length, hLL] at h1
          omega
        clear hme hly hlz hLL
        obtain ⟨y1, hy1⟩ : ∃ y, (LB.getD i (0, 0)).1 = y := ⟨_, rfl⟩
        obtain ⟨y2, hy2⟩ : ∃ y, (LB.getD i (0, 0)).2 = y := ⟨_, rfl⟩
        rw [hy1] at HLn
        rw [hy1, hy2] at HcB
        rw [hy2] at Hlz
        have Hy : Hid (LB.getD i (0, 0) = (y1, y2)) := Lib.hid (Prod.ext hy1 hy2)
        have hy2l : y2 ≤ 65536 := by have := Hlz.out; omega
        clear hy1 hy2
        go_wp2_with fail
        go_loopw [11] (fun s11 wr => ∃ k' q' : Nat, s11 = .int .i64 (k' : Int) ∧ k ≤ k' ∧ k' ≤ m ∧ wr = w8.drewN q') (fun s11 _ => m - (intOf s11).toNat)
        case atStart => exact ⟨k, q, rfl, Nat.le_refl _, hkm, rfl⟩
        case round =>
          obtain ⟨k', q', rfl, hk1, hk2, rfl⟩ := hrel
          have hkA : k' < LA.length := by omega
          obtain ⟨hca0, hca1⟩ := HcA.out k' hkA
          obtain ⟨hcb0, hcb1⟩ := HcB.out
          obtain ⟨x1, hx1⟩ : ∃ y, (LA.getD k' (0, 0)).1 = y := ⟨_, rfl⟩
          obtain ⟨x2, hx2⟩ : ∃ y, (LA.getD k' (0, 0)).2 = y := ⟨_, rfl⟩
          rw [hx1] at hca0
          rw [hx2] at hca1
          have Hx : Hid (LA.getD k' (0, 0) = (x1, x2)) := Lib.hid (Prod.ext hx1 hx2)
          clear hx1 hx2
          have j1 : (k' : Int) < (LA.length : Int) := by omega
          have j2 : (0 : Int) ≤ (k' : Int) := by omega
          have j3 : (i : Int) < (LB.length : Int) := by omega
          have j4 : (0 : Int) ≤ (i : Int) := by omega
          by_cases he : x1 = y1 ∧ x2 = y2
          · obtain ⟨rfl, rfl⟩ := he
            go_wp2_with fail
            go_quiet (fail)
            have j5 : (k' == LA.length) = false := by rw [beq_eq_false_iff_ne]; omega
            have j6 : ((k' : Int) == (LA.length : Int)) = false := by rw [beq_eq_false_iff_ne]; omega
            have j7 : ¬ (LL : Int) < (x2 : Int) + (n1 : Int) + (n2 : Int) := by have := Hlz.out; omega
            have j8 : IntKind.i64.wrap ((x2 : Int) + (n1 : Int)) = (x2 : Int) + (n1 : Int) := IntWalk.i64_in _ (by omega)
            have j9 : IntKind.i64.wrap ((x2 : Int) + (n1 : Int) + (n2 : Int)) = (x2 : Int) + (n1 : Int) + (n2 : Int) := IntWalk.i64_in _ (by omega)
            have HBn := Lib.hid (Bef.step HsA.out HsB.out Hb.out hib hkA (Hx.out.trans Hy.out.symm))
            go_wp2_with fail
            obtain ⟨z9, hz9⟩ : ∃ z, q' + nq = z := ⟨_, rfl⟩
            rw [hz9]
            clear hz9
            obtain ⟨w9, hw9⟩ : ∃ w9, w8.drewN z9 = w9 := ⟨_, rfl⟩
            have hcb0 : w9.cell? ⟨b8, o8 + i * 2, none⟩ = some (.int .i64 (x1 : Int)) := by rw [← hw9]; exact hcb0
            have hcb1 : w9.cell? ⟨b8, o8 + i * 2 + 1, none⟩ = some (.int .i64 (x2 : Int)) := by rw [← hw9]; exact hcb1
            have HLn9 := Lib.hid (fun q => HLn.out (z9 + q))
            simp only [← World.drewN_drewN, hw9] at HLn9
            rw [hw9]
            have Hw9 := Lib.hid hw9
            clear hw9 hca0 hca1
            go_quiet ((go_at_call 14; exact Calls.quiet_of (HLn9.out _)))
            go_wp2_with fail
            go_roundw
            case rel => exact ⟨k', i + 1, z9 + nq, rfl, by go_num, by omega, HBn, by omega, by rw [← Hw9.out, World.drewN_drewN]⟩
            case measure => simp [intOf]; omega
          · have hkm2 : k' ≠ m := fun e => by
              have h1 := Hx.out
              rw [e, Hme.out, Hy.out] at h1
              injection h1 with h2 h3
              exact he ⟨h2.symm, h3.symm⟩
            by_cases he1 : x1 = y1
            · subst he1
              have he2 : ¬ (x2 : Int) = (y2 : Int) := by omega
              clear he
              go_wp2_with fail
              go_quiet (fail)
              go_wp2_with fail
              go_roundw
              case rel => exact ⟨k' + 1, _, by go_num, by omega, by omega, rfl⟩
              case measure => simp [intOf]; omega
            · have he2 : ¬ (x1 : Int) = (y1 : Int) := by omega
              clear he
              go_wp2_with fail
              go_quiet (fail)
              go_wp2_with fail
              go_roundw
              case rel => exact ⟨k' + 1, _, by go_num, by omega, by omega, rfl⟩
              case measure => simp [intOf]; omega
      · obtain rfl : LB.length = i := by omega
        go_wp2_with fail
        refine (HK.out _).mono ?_
        rintro e w9 ⟨rfl, hB9⟩
        have HB9 := Lib.hid (below_step (below_step HB8.out (below_drewN _ w8 q)) hB9)
        clear hB9
        go_wp2_with fail
        go_ret
        exact ⟨rfl, HB9.out⟩
end Go.Proofs.Ytfjhcgmaignaoaa
