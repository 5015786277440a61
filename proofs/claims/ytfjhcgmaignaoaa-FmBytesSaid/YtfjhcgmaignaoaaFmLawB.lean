/- The law FmBytes, walked. -/
import Derived.Test.YtfjhcgmaignaoaaFmLawA
namespace Go.Proofs.Ytfjhcgmaignaoaa
set_option linter.unusedVariables false
set_option linter.unusedSimpArgs false
set_option maxRecDepth 100000
open Go.RowKit Fm Rank

/-- how often a byte stands in the first texts -/
def cbs (ts : List (List Nat)) (b i : Nat) : Nat := (ts.take i).flatten.count b
theorem cbs_succ (ts : List (List Nat)) (b i : Nat) (h : i < ts.length) : cbs ts b (i + 1) = cbs ts b i + (ts.getD i []).count b := by
  unfold cbs
  rw [List.take_succ_eq_append_getElem h, List.flatten_append, List.count_append, getD_in2 h]
  simp
theorem cbs_le (ts : List (List Nat)) (b i : Nat) : cbs ts b i ≤ (body ts).length := by
  have h1 : cbs ts b i ≤ (ts.take i).flatten.length := List.count_le_length
  have h2 : ∀ l : List (List Nat), l.flatten.length ≤ (body l).length := by
    intro l
    induction l with
    | nil => simp [body]
    | cons t r ih =>
      rw [body_cons, List.flatten_cons, List.length_append, List.length_append, txt_length]
      omega
  have h3 := h2 (ts.take i)
  have h4 := body_take_le ts i
  omega
theorem one_count (b : Nat) (t : List Nat) : ((List.range t.length).filter fun f => [b].isPrefixOf (t.drop f)).length = t.count b := by
  induction t with
  | nil => rfl
  | cons x r ih =>
    rw [List.length_cons, List.range_succ_eq_map, List.filter_cons, List.filter_map, List.count_cons, ← ih]
    have e : ((List.range r.length).filter ((fun f => [b].isPrefixOf ((x :: r).drop f)) ∘ Nat.succ)) = (List.range r.length).filter fun f => [b].isPrefixOf (r.drop f) := filter_same _ _ _ fun f _ => rfl
    rw [e]
    by_cases h : x = b
    · subst h
      simp [List.isPrefixOf]
    · have h1 : (x == b) = false := by simpa using h
      have h2 : (b == x) = false := by simpa using fun e : b = x => h e.symm
      simp [List.isPrefixOf, h1, h2]
theorem found_one (ts : List (List Nat)) (b : Nat) : (found ts [b]).length = ts.flatten.count b := by
  unfold found
  rw [if_neg (by simp)]
  have gen : ∀ d0, (locF d0 [b] ts).length = ts.flatten.count b := by
    induction ts with
    | nil => intro d0; rfl
    | cons t r ih =>
      intro d0
      rw [locF, List.length_append, List.length_map, one_count, ih, List.flatten_cons, List.count_append]
  exact gen 0
set_option maxHeartbeats 4000000 in
theorem lawBytes (A : Option Addr) (n c : Nat) (ts : List (List Nat)) (b : Nat) (hb : b < 256) (w : World) (hA : RArg w A n c ts) :
    Calls Try.prog 4 #[.slice A n c, .int .u8 (b : Int)] w (TrueBelow w) := by
  have HH := Lib.hid (heavy_any w A n c ts hA)
  have hnm := hA.nm
  have HA := Lib.hid hA
  have Hl := Lib.hid hA.len
  clear hA
  go_enter Try.func4, Try.ntmps4
  go_wp2_with fail
  go_at_call 11
  refine HH.out.mono ?_
  rintro e w' ⟨hv, rfl, rfl, hbl⟩
  cases hv with
  | true =>
    go_wp2_with fail
    go_ret
    exact ⟨rfl, Below.refl _ _⟩
  | false =>
    have hbl := hbl rfl
    have hn : n ≤ 1099511627776 := by have := len_le_body ts; have := Hl.out; omega
    clear hnm
    by_cases h60 : 60 < n
    · go_wp2_with fail
      go_ret
      exact ⟨rfl, Below.refl _ _⟩
    have Hbl := Lib.hid hbl
    clear HH
    go_wp2_with fail
    go_loop [5, 6, 7] (fun s q s7 => ∃ d : Nat, d ≤ n ∧ q = .int .i64 (d : Int) ∧ s = .int .i64 ((cbs ts b d : Nat) : Int)) (fun _ q _ => n - (intOf q).toNat)
    case atStart => exact ⟨0, Nat.zero_le _, rfl, by simp [cbs]⟩
    case round =>
      obtain ⟨d, hd, rfl, rfl⟩ := hrel
      by_cases hdn : d < n
      · obtain ⟨a, Ad, L, C, rfl, hcell, hL, hLC, hnil, hS⟩ := HA.out.row d hdn
        have hsu := cbs_succ ts b d (by rw [Hl.out]; exact hdn)
        have hle := cbs_le ts b (d + 1)
        have hLm : L ≤ 800 := by
          have h1 := congrArg List.length (body_take_succ ts d (by rw [Hl.out]; exact hdn))
          have h2 := body_take_le ts (d + 1)
          rw [List.length_append, txt_length, hL] at h1
          omega
        have Hsu := Lib.hid hsu
        have HL := Lib.hid hL
        have HS := Lib.hid hS
        clear hsu hL hS
        generalize cbs ts b d = m at *
        have hm9 : m ≤ 800 := by have := Hsu.out; omega
        clear hle
        go_wp2_with fail
        go_loop [5, 7] (fun s q => ∃ k : Nat, k ≤ L ∧ q = .int .i64 (k : Int) ∧ s = .int .i64 ((m + ((ts.getD d []).take k).count b : Nat) : Int)) (fun _ q => L - (intOf q).toNat)
        case atStart => exact ⟨0, Nat.zero_le _, rfl, by simp⟩
        case round =>
          obtain ⟨k, hk, rfl, rfl⟩ := hrel
          by_cases hkL : k < L
          · obtain ⟨ad, rfl, hcb⟩ := HS.out.some (j := k) (by rw [VY_length, HL.out]; exact hkL)
            rw [VY_get _ _ (by rw [HL.out]; exact hkL)] at hcb
            have hcs : ((ts.getD d []).take (k + 1)).count b = ((ts.getD d []).take k).count b + if (ts.getD d []).getD k 0 = b then 1 else 0 := by
              rw [List.take_succ_eq_append_getElem (by rw [HL.out]; exact hkL), List.count_append, getD_at (by rw [HL.out]; exact hkL), List.count_singleton]
              simp
            have hcl : ((ts.getD d []).take k).count b ≤ L := by
              refine Nat.le_trans List.count_le_length ?_
              rw [List.length_take]
              omega
            have Hcs := Lib.hid hcs
            clear hcs
            generalize ((ts.getD d []).take k).count b = z at *
            generalize (ts.getD d []).getD k 0 = y at *
            by_cases hy : y = b
            · subst hy
              go_wp2_with fail
              go_round
              case rel => exact ⟨k + 1, by omega, by go_num, congrArg (Value.int .i64) (by rw [Hcs.out, if_pos rfl]; omega)⟩
              case measure => simp [intOf]; omega
            · have hyi : ¬ (y : Int) = (b : Int) := by omega
              go_wp2_with fail
              go_round
              case rel => exact ⟨k + 1, by omega, by go_num, congrArg (Value.int .i64) (by rw [Hcs.out, if_neg hy]; omega)⟩
              case measure => simp [intOf]; omega
          · obtain rfl : L = k := by omega
            have htk : (ts.getD d []).take L = ts.getD d [] := by rw [← HL.out]; exact List.take_length
            rw [htk]
            clear htk
            generalize hz : (ts.getD d []).count b = z at *
            have hz8 : z ≤ L := by rw [← hz, ← HL.out]; exact List.count_le_length
            clear hz
            go_wp2_with fail
            go_round
            case rel => exact ⟨d + 1, by omega, by go_num, congrArg (Value.int .i64) (by have := Hsu.out; omega)⟩
            case measure => simp [intOf]; omega
      · obtain rfl : n = d := by omega
        have htk : cbs ts b n = (found ts [b]).length := by
          unfold cbs
          rw [found_one, ← Hl.out, List.take_length]
        rw [htk]
        have hle : (found ts [b]).length ≤ 800 := by rw [← htk]; exact Nat.le_trans (cbs_le ts b n) Hbl.out
        have HBd := Lib.hid (build_ok w A n c ts HA.out hn (by rw [rowT_length]; have := Hbl.out; omega))
        clear htk
        obtain ⟨z, hz⟩ : ∃ z, (found ts [b]).length = z := ⟨_, rfl⟩
        rw [hz] at hle ⊢
        have Hz := Lib.hid hz
        clear hz
        go_wp2_with fail
        go_at_call 10
        refine HBd.out.mono ?_
        rintro e w4 ⟨x, sa, rfl, hI, hB4⟩
        have HI := Lib.hid hI
        have HB4 := Lib.hid hB4
        clear hI hB4 HBd
        go_wp2_with fail
        have hI5 := HI.out.below ((Below.refl _ w4).alloc (Nat.le_refl _) (.cells #[.int .u8 (b : Int)] 5))
        have hb1 : ∀ q ∈ [b], q < 256 := fun q hq => by rw [List.mem_singleton.1 hq]; exact hb
        have HC := Lib.hid (countT hI5 (some ⟨w4.heap.size, 0, none⟩) 1 1 [b] (sl_blkf (heap_alloc_new w4 _) rfl) rfl (by omega) hb1)
        rw [Hz.out] at HC
        have HI5 := Lib.hid hI5
        have HB5 := Lib.hid (HB4.out.alloc HB4.out.size (.cells #[.int .u8 (b : Int)] 5))
        clear hI5
        refine HC.out.mono ?_
        rintro e w6 ⟨rfl, hB6⟩
        have HI6 := Lib.hid (HI5.out.below hB6)
        have HB6 := Lib.hid (below_step HB5.out hB6)
        clear hB6 HC
        go_wp2_with fail
        have HLo := Lib.hid (locateT (HI6.out.below ((Below.refl _ w6).alloc (Nat.le_refl _) (.cells #[.int .u8 (b : Int)] 5))) (some ⟨w6.heap.size, 0, none⟩) 1 1 [b] (sl_blkf (heap_alloc_new w6 _) rfl) rfl (by omega) hb1)
        have HB7 := Lib.hid (HB6.out.alloc HB6.out.size (.cells #[.int .u8 (b : Int)] 5))
        refine HLo.out.mono ?_
        rintro e w8 ⟨A8, c8, rfl, hS8, hB8⟩
        rw [IH_length, Hz.out]
        have HB8 := Lib.hid (below_step HB7.out hB8)
        have HK := Lib.hid (fun w => known_any w)
        clear hB8 HLo hS8
        go_wp2_with fail
        refine (HK.out _).mono ?_
        rintro e w9 ⟨rfl, hB9⟩
        have HB9 := Lib.hid (below_step HB8.out hB9)
        clear hB9
        go_wp2_with fail
        go_ret
        exact ⟨rfl, HB9.out⟩
end Go.Proofs.Ytfjhcgmaignaoaa
