/- slices.SortStableFunc's family at elements of k cells: symMerge. -/
import Derived.Test.YtphccomhggnccaaGreatSkA
namespace Go.Proofs.YtphccomhggnccaaGreat
set_option maxRecDepth 100000
open Go.Proofs
set_option linter.unusedVariables false
set_option linter.unusedSimpArgs false
set_option linter.unusedSectionVars false
set_option maxRecDepth 1000000
open Go.Shelf Go.RowKit Go.Lib Go.Sort St
namespace Sk
variable {α : Type} [Inhabited α]
def Ag (T : α → α → Prop) (cf : α → α → Int) (f : Nat → α) (a m b : Nat) : Prop := ∀ i j, a ≤ i → i < m → m ≤ j → j < b → (cf (f j) (f i) < 0 ↔ T (f j) (f i))
structure Mgd (T : α → α → Prop) (a b : Nat) (d dk : Array α) : Prop where
  size : dk.size = d.size
  shuf : Shuf a b (fA d) (fA dk)
  srt : Srt T (fA dk) a b
theorem RotR.self (m b : Nat) (d : Array α) (hmb : m ≤ b) : RotR m m b d d := ⟨rfl, fun x => by
  unfold rotIx
  repeat' split
  all_goals first | rfl | omega | (congr 1; omega)⟩
theorem RotR.self' (a m : Nat) (d : Array α) : RotR a m m d d := ⟨rfl, fun x => by
  unfold rotIx
  repeat' split
  all_goals first | rfl | omega | (congr 1; omega)⟩
theorem RotR.fwd {a k : Nat} {d dk : Array α} (h : RotR a (a + 1) (k + 1) d dk) (hak : a ≤ k) (hk : k + 1 < d.size) : RotR a (a + 1) (k + 2) d (swp dk k (k + 1)) := by
  refine ⟨by rw [size_swp]; exact h.size, fun x => ?_⟩
  rw [fA_swp _ _ _ (by rw [h.size]; omega) (by rw [h.size]; omega), h.at', h.at', h.at' x]
  unfold rotIx
  repeat' split
  all_goals first | omega | rfl | (congr 1; omega)
theorem RotR.bwd {m k : Nat} {d dk : Array α} (h : RotR (k + 1) m (m + 1) d dk) (hk : k + 1 ≤ m) (hm : m < d.size) : RotR k m (m + 1) d (swp dk (k + 1) k) := by
  refine ⟨by rw [size_swp]; exact h.size, fun x => ?_⟩
  rw [fA_swp _ _ _ (by rw [h.size]; omega) (by rw [h.size]; omega), h.at', h.at', h.at' x]
  unfold rotIx
  repeat' split
  all_goals first | omega | rfl | (congr 1; omega)
theorem Ag.same {T : α → α → Prop} {cf : α → α → Int} {f g : Nat → α} {a m b : Nat} (h : Ag T cf f a m b) (he : ∀ x, a ≤ x → x < b → g x = f x) (ham : a ≤ m) (hmb : m ≤ b) : Ag T cf g a m b := fun i j h1 h2 h3 h4 => by
  rw [he i h1 (by omega), he j (by omega) h4]
  exact h i j h1 h2 h3 h4
theorem Srt_same {T : α → α → Prop} {f g : Nat → α} {a b : Nat} (h : Srt T f a b) (he : ∀ x, a ≤ x → x < b → g x = f x) : Srt T g a b := fun i j h1 h2 h3 => by
  rw [he i h1 (by omega), he j (by omega) h3]
  exact h i j h1 h2 h3
theorem mid_ag {T : α → α → Prop} {cf : α → α → Int} {f g : Nat → α} {a m b s e mid : Nat} (hg : ∀ x, g x = f (rotIx s m e x)) (h : Ag T cf f a m b) (hs : a ≤ s) (hsm : s ≤ m) (hme : m ≤ e) (heb : e ≤ b) (hse : s + e = mid + m) : Ag T cf g a s mid ∧ Ag T cf g mid e b := by
  constructor
  · intro i j h1 h2 h3 h4
    rw [hg i, hg j, rotIx_out (a := s) (m := m) (b := e) (x := i) (by omega), rotIx_lo (x := j) h3 (by omega) hsm hme]
    exact h _ _ h1 (by omega) (by omega) (by omega)
  · intro i j h1 h2 h3 h4
    rw [hg i, hg j, rotIx_out (a := s) (m := m) (b := e) (x := j) (by omega), rotIx_hi (x := i) (by omega) h2 hsm hme]
    exact h _ _ (by omega) (by omega) (by omega) h4
theorem Mgd.self {T : α → α → Prop} {a b : Nat} {d : Array α} (h : Srt T (fA d) a b) : Mgd T a b d d := ⟨rfl, Shuf.refl _ _ _, h⟩
theorem mid_self {T : α → α → Prop} {f : Nat → α} {a s mid : Nat} (h : ¬ (a < s ∧ s < mid)) (ha : a ≤ s) (h1 : Srt T f a s) (h2 : Srt T f s mid) : Srt T f a mid := by
  by_cases h3 : a < s
  · exact h1.sub (Nat.le_refl _) (by omega)
  · obtain rfl : s = a := by omega
    exact h2
theorem sym_fin {T : α → α → Prop} {a m b s e mid : Nat} {d d1 d2 d3 : Array α} (hR : RotR s m e d d1) (h1 : Mgd T a mid d1 d2) (h2 : Mgd T mid b d2 d3) (hs : a ≤ s) (hsm : s ≤ m) (hme : m ≤ e) (heb : e ≤ b) (ha : a ≤ mid) (hb : mid ≤ b)
    (hx : ∀ i j, a ≤ i → i < mid → mid ≤ j → j < b → ¬ T (fA d1 j) (fA d1 i)) : Mgd T a b d d3 := by
  refine ⟨h2.size.trans (h1.size.trans hR.size), ?_, sym_end ha hb hx h1.shuf h2.shuf h1.srt h2.srt⟩
  exact ((Shuf.of_rot hsm hme hR.at').mono hs heb).trans ((h1.shuf.mono (Nat.le_refl _) hb).trans (h2.shuf.mono ha (Nat.le_refl _)))
set_option maxHeartbeats 32000000 in
theorem symM_any (enc : α → List Value) (kc : Nat) (aE : ∀ w, (isAgg 36).run Tryz.prog w = .ok true w) (zE : ∀ w, (Go.sizeOf 36).run Tryz.prog w = .ok kc w) (cf : α → α → Int) (T : α → α → Prop) (hT : Weak T) (g : Nat) (cb : Array Value) (blk off cap : Nat) (d0 : Array α) (w0 : World)
    (eg : ∀ args w, (callFunc g args).run Tryz.prog w = .ok (.enter g args) w) (hcmp : CmpLays Tryz.prog g cb enc kc cf blk off d0.size w0) (R : RowK enc kc w0 blk off d0) (hsz : d0.size < 2305843009213693952) :
    ∀ (k a m b : Nat) (d : Array α) (w : World), b - a = k → d0.size = d.size → SWK enc kc w0 blk off d w → a < m → m < b → b ≤ d.size → Srt T (fA d) a m → Srt T (fA d) m b → Ag T cf (fA d) a m b →
    Calls Tryz.prog 177 #[.slice (some ⟨blk, off, none⟩) d.size cap, .int .i64 (a : Int), .int .i64 (m : Int), .int .i64 (b : Int), .func (.func g) #[] cb] w fun e w' => e = .returned (.tuple #[]) ∧ ∃ dk, SWK enc kc w0 blk off dk w' ∧ Mgd T a b d dk := by
  have mixed : Tryz.prog.follows Departure.mixedOrders = true := by kernel_rfl
  have HC : Aside _ := hcmp
  clear hcmp
  intro k
  induction k using Nat.strongRecOn with
  | ind k ih =>
  intro a m b d w hk hs S ham hmb hb h1 h2 hag
  have S0 : Aside (SWK enc kc w0 blk off d w) := S
  have IH : Aside _ := ih
  have H1 : Hid _ := h1
  have H2 : Hid _ := h2
  have HA : Hid _ := hag
  clear S ih h1 h2 hag
  by_cases hA1 : m - a = 1
  · obtain rfl : m = a + 1 := by omega
    have ema : ((a + 1 : Nat) : Int) - (a : Int) = 1 := by omega
    have ema' : (a : Int) + 1 - (a : Int) = 1 := by omega
    go_enter Tryz.func177, Tryz.ntmps177
    go_wp2_with fail
    go_loopg [10, 11] (b - a) (fun kx s10 s11 wr => ∃ i j : Nat, s10 = .int .i64 (i : Int) ∧ s11 = .int .i64 (j : Int) ∧ a + 1 ≤ i ∧ i ≤ j ∧ j ≤ b ∧ j - i ≤ kx ∧ Aside (SWK enc kc w0 blk off d wr) ∧ Hid ((i = a + 1 ∨ T (fA d (i - 1)) (fA d a)) ∧ (j = b ∨ ¬ T (fA d j) (fA d a))))
    case atStart => exact ⟨a + 1, b, by first | rfl | go_num, rfl, Nat.le_refl _, by omega, Nat.le_refl _, by omega, S0, ⟨.inl rfl, .inl rfl⟩⟩
    case round =>
      clear S0 ema ema'
      obtain ⟨i, j, rfl, rfl, hi, hij, hjb, hkx, S1, HX⟩ := hrel
      by_cases hlt : i < j
      · obtain ⟨h, hh⟩ : ∃ q, (i + j) / 2 = q := ⟨_, rfl⟩
        have eh : (((i : Nat) : Int) + ((j : Nat) : Int)) / 2 = (h : Int) := by omega
        have lh1 : i ≤ h := by omega
        have lh2 : h < j := by omega
        clear hh
        by_cases hlv : cf (d[h]!) (d[a]!) < 0
        · have HX2 : Hid ((h + 1 = a + 1 ∨ T (fA d h) (fA d a)) ∧ (j = b ∨ ¬ T (fA d j) (fA d a))) := ⟨.inr ((HA.out a h (Nat.le_refl _) (by omega) (by omega) (by omega)).1 hlv), HX.out.2⟩
          obtain ⟨iN, hiN⟩ : ∃ q, q = h := ⟨_, rfl⟩
          obtain ⟨jN, hjN⟩ : ∃ q, q = a := ⟨_, rfl⟩
          have ea : ((h : Int)).toNat = iN := by omega
          have pa : (0 : Int) ≤ (h : Int) := by omega
          have ba : (h : Int) < (d.size : Int) := by omega
          have ra : IntKind.i64.wrap ((h : Int)) = (h : Int) := by rw [IntKind.wrap_i64]; omega
          have ec : ((a : Int)).toNat = jN := by omega
          have pc : (0 : Int) ≤ (a : Int) := by omega
          have bc : (a : Int) < (d.size : Int) := by omega
          have rc : IntKind.i64.wrap ((a : Int)) = (a : Int) := by rw [IntKind.wrap_i64]; omega
          obtain ⟨x9, hx9⟩ : ∃ x, x = d[h]! := ⟨_, rfl⟩
          obtain ⟨y9, hy9⟩ : ∃ x, x = d[a]! := ⟨_, rfl⟩
          have l9a := S1.out.ld R (by omega) Tryz.prog (h) (by omega)
          have l9b := S1.out.ld R (by omega) Tryz.prog (a) (by omega)
          rw [← hx9, ← hiN] at l9a
          rw [← hy9, ← hjN] at l9b
          have hc9 := S1.out.cmp HC.out (by omega) x9 y9
          have hv9 : cf x9 y9 < 0 := by rw [hx9, hy9]; exact hlv
          have hd9 : decide (cf x9 y9 < 0) = true := decide_eq_true hv9
          clear hx9 hy9 hiN hjN hlv
          go_wp2_with fail
          go_quiet_grown (first | (go_at_fn g; refine Calls.grown_of (hc9 _ _)))
          have S2 : Aside (SWK enc kc w0 blk off d (grow (wr.drewN nq) osq)) := S1.out.grown nq osq
          clear l9a l9b hc9 S1
          generalize grow (wr.drewN nq) osq = w2 at S2 ⊢
          clear nq osq
          clear ea ec
          go_wp2
          go_roundg (j - (h + 1))
          case measure => omega
          case rel => exact ⟨h + 1, j, by go_num, rfl, by omega, by omega, hjb, Nat.le_refl _, S2, HX2⟩
        · have HX2 : Hid ((i = a + 1 ∨ T (fA d (i - 1)) (fA d a)) ∧ (h = b ∨ ¬ T (fA d h) (fA d a))) := ⟨HX.out.1, .inr fun hh => hlv ((HA.out a h (Nat.le_refl _) (by omega) (by omega) (by omega)).2 hh)⟩
          obtain ⟨iN, hiN⟩ : ∃ q, q = h := ⟨_, rfl⟩
          obtain ⟨jN, hjN⟩ : ∃ q, q = a := ⟨_, rfl⟩
          have ea : ((h : Int)).toNat = iN := by omega
          have pa : (0 : Int) ≤ (h : Int) := by omega
          have ba : (h : Int) < (d.size : Int) := by omega
          have ra : IntKind.i64.wrap ((h : Int)) = (h : Int) := by rw [IntKind.wrap_i64]; omega
          have ec : ((a : Int)).toNat = jN := by omega
          have pc : (0 : Int) ≤ (a : Int) := by omega
          have bc : (a : Int) < (d.size : Int) := by omega
          have rc : IntKind.i64.wrap ((a : Int)) = (a : Int) := by rw [IntKind.wrap_i64]; omega
          obtain ⟨x9, hx9⟩ : ∃ x, x = d[h]! := ⟨_, rfl⟩
          obtain ⟨y9, hy9⟩ : ∃ x, x = d[a]! := ⟨_, rfl⟩
          have l9a := S1.out.ld R (by omega) Tryz.prog (h) (by omega)
          have l9b := S1.out.ld R (by omega) Tryz.prog (a) (by omega)
          rw [← hx9, ← hiN] at l9a
          rw [← hy9, ← hjN] at l9b
          have hc9 := S1.out.cmp HC.out (by omega) x9 y9
          have hv9 : ¬ cf x9 y9 < 0 := by rw [hx9, hy9]; exact hlv
          have hd9 : decide (cf x9 y9 < 0) = false := decide_eq_false hv9
          clear hx9 hy9 hiN hjN hlv
          go_wp2_with fail
          go_quiet_grown (first | (go_at_fn g; refine Calls.grown_of (hc9 _ _)))
          have S2 : Aside (SWK enc kc w0 blk off d (grow (wr.drewN nq) osq)) := S1.out.grown nq osq
          clear l9a l9b hc9 S1
          generalize grow (wr.drewN nq) osq = w2 at S2 ⊢
          clear nq osq
          clear ea ec
          go_wp2
          go_roundg (h - i)
          case measure => omega
          case rel => exact ⟨i, h, rfl, rfl, by omega, by omega, by omega, Nat.le_refl _, S2, HX2⟩
      · obtain rfl : i = j := by omega
        obtain ⟨i1, hi1⟩ : ∃ q, i - 1 = q := ⟨_, rfl⟩
        have ei1 : (i : Int) - 1 = (i1 : Int) := by omega
        go_wp2_with fail
        go_loopg [13] (i - a) (fun kx s13 wr => ∃ (k : Nat) (dk : Array α), s13 = .int .i64 (k : Int) ∧ a ≤ k ∧ k ≤ i1 ∧ i1 - k ≤ kx ∧ Aside (SWK enc kc w0 blk off dk wr) ∧ Hid (RotR a (a + 1) (k + 1) d dk))
        case atStart => exact ⟨a, d, rfl, Nat.le_refl _, by omega, by omega, S1, RotR.self' a (a + 1) d⟩
        case round =>
          clear S1
          obtain ⟨k, dk, rfl, hak, hki, hkx, S1, HR⟩ := hrel
          have hds := HR.out.size
          by_cases hlt2 : k < i1
          · have hlti : (k : Int) < (i1 : Int) := by omega
            have HR2 : Hid (RotR a (a + 1) (k + 2) d (swp dk k (k + 1))) := HR.out.fwd hak (by omega)
            clear HR
            obtain ⟨iN, hiN⟩ : ∃ q, q = k := ⟨_, rfl⟩
            obtain ⟨jN, hjN⟩ : ∃ q, q = k + 1 := ⟨_, rfl⟩
            have ea : ((k : Int)).toNat = iN := by omega
            have pa : (0 : Int) ≤ (k : Int) := by omega
            have ba : (k : Int) < (d.size : Int) := by omega
            have ra : IntKind.i64.wrap ((k : Int)) = (k : Int) := by rw [IntKind.wrap_i64]; omega
            have ec : ((k : Int) + 1).toNat = jN := by omega
            have pc : (0 : Int) ≤ (k : Int) + 1 := by omega
            have bc : (k : Int) + 1 < (d.size : Int) := by omega
            have rc : IntKind.i64.wrap ((k : Int) + 1) = (k : Int) + 1 := by rw [IntKind.wrap_i64]; omega
            obtain ⟨x9, hx9⟩ : ∃ x, x = dk[k]! := ⟨_, rfl⟩
            obtain ⟨y9, hy9⟩ : ∃ x, x = dk[k + 1]! := ⟨_, rfl⟩
            have S2 : Aside (SWK enc kc w0 blk off (swp dk (k) (k + 1)) ((wr.drew.setCells blk (off + iN * kc) (enc y9)).setCells blk (off + jN * kc) (enc x9))) := by rw [hiN, hjN, hx9, hy9]; exact S1.out.swapped R (k) (k + 1) (by omega) (by omega)
            have l9a := S1.out.ld1 R (by omega) Tryz.prog (k) (by omega)
            have l9b := S1.out.ld1 R (by omega) Tryz.prog (k + 1) (by omega)
            have s9a := S1.out.st1 R (by omega) Tryz.prog (k) (by omega) y9
            have s9b := S1.out.st2 R (by omega) Tryz.prog (k) (k + 1) (by omega) (by omega) y9 x9
            have n9a : (enc x9).length = kc := R.hk _
            have n9b : (enc y9).length = kc := R.hk _
            rw [← hjN, ← hiN] at s9b
            rw [← hx9, ← hiN] at l9a
            rw [← hy9, ← hjN] at l9b
            rw [← hiN] at s9a
            generalize enc x9 = cI9 at *
            generalize enc y9 = cJ9 at *
            clear S1 hx9 hy9 hiN hjN
            go_wp2_with fail
            go_big_region_o
            clear l9a l9b s9a s9b
            generalize (wr.drew.setCells blk (off + iN * kc) cJ9).setCells blk (off + jN * kc) cI9 = w2 at S2 ⊢
            clear ea ec
            go_wp2
            go_roundg (i1 - (k + 1))
            case measure => omega
            case rel => exact ⟨k + 1, _, by go_num, by omega, by omega, Nat.le_refl _, S2, HR2⟩
          · obtain rfl : k = i1 := by omega
            go_wp2
            refine bodyPost_ret (results_none rfl _ _ _) rfl ?_
            have hR := HR.out
            rw [show k + 1 = i by omega] at hR
            exact ⟨rfl, dk, S1.out, ⟨hR.size, (Shuf.of_rot (by omega) hi hR.at').mono (Nat.le_refl _) (by omega), ins_fwd hT H2.out hi (by omega) HX.out.1 HX.out.2 hR.at'⟩⟩
  by_cases hB1 : b - m = 1
  · obtain rfl : b = m + 1 := by omega
    have ena : ¬ (m : Int) - (a : Int) = 1 := by omega
    have ena' : ((m : Int) - (a : Int) == 1) = false := by rw [beq_eq_false_iff_ne]; exact ena
    have emb : ((m + 1 : Nat) : Int) - (m : Int) = 1 := by omega
    have emb' : (m : Int) + 1 - (m : Int) = 1 := by omega
    go_enter Tryz.func177, Tryz.ntmps177
    go_wp2_with fail
    go_loopg [14, 15] (m - a) (fun kx s14 s15 wr => ∃ i j : Nat, s14 = .int .i64 (i : Int) ∧ s15 = .int .i64 (j : Int) ∧ a ≤ i ∧ i ≤ j ∧ j ≤ m ∧ j - i ≤ kx ∧ Aside (SWK enc kc w0 blk off d wr) ∧ Hid ((i = a ∨ ¬ T (fA d m) (fA d (i - 1))) ∧ (j = m ∨ T (fA d m) (fA d j))))
    case atStart => exact ⟨a, m, rfl, rfl, Nat.le_refl _, by omega, Nat.le_refl _, by omega, S0, ⟨.inl rfl, .inl rfl⟩⟩
    case round =>
      clear S0 ena ena' emb emb'
      obtain ⟨i, j, rfl, rfl, hi, hij, hjb, hkx, S1, HX⟩ := hrel
      by_cases hlt : i < j
      · obtain ⟨h, hh⟩ : ∃ q, (i + j) / 2 = q := ⟨_, rfl⟩
        have eh : (((i : Nat) : Int) + ((j : Nat) : Int)) / 2 = (h : Int) := by omega
        have lh1 : i ≤ h := by omega
        have lh2 : h < j := by omega
        clear hh
        by_cases hlv : cf (d[m]!) (d[h]!) < 0
        · have HX2 : Hid ((i = a ∨ ¬ T (fA d m) (fA d (i - 1))) ∧ (h = m ∨ T (fA d m) (fA d h))) := ⟨HX.out.1, .inr ((HA.out h m (by omega) (by omega) (Nat.le_refl _) (by omega)).1 hlv)⟩
          obtain ⟨iN, hiN⟩ : ∃ q, q = m := ⟨_, rfl⟩
          obtain ⟨jN, hjN⟩ : ∃ q, q = h := ⟨_, rfl⟩
          have ea : ((m : Int)).toNat = iN := by omega
          have pa : (0 : Int) ≤ (m : Int) := by omega
          have ba : (m : Int) < (d.size : Int) := by omega
          have ra : IntKind.i64.wrap ((m : Int)) = (m : Int) := by rw [IntKind.wrap_i64]; omega
          have ec : ((h : Int)).toNat = jN := by omega
          have pc : (0 : Int) ≤ (h : Int) := by omega
          have bc : (h : Int) < (d.size : Int) := by omega
          have rc : IntKind.i64.wrap ((h : Int)) = (h : Int) := by rw [IntKind.wrap_i64]; omega
          obtain ⟨x9, hx9⟩ : ∃ x, x = d[m]! := ⟨_, rfl⟩
          obtain ⟨y9, hy9⟩ : ∃ x, x = d[h]! := ⟨_, rfl⟩
          have l9a := S1.out.ld R (by omega) Tryz.prog (m) (by omega)
          have l9b := S1.out.ld R (by omega) Tryz.prog (h) (by omega)
          rw [← hx9, ← hiN] at l9a
          rw [← hy9, ← hjN] at l9b
          have hc9 := S1.out.cmp HC.out (by omega) x9 y9
          have hv9 : cf x9 y9 < 0 := by rw [hx9, hy9]; exact hlv
          have hd9 : decide (cf x9 y9 < 0) = true := decide_eq_true hv9
          clear hx9 hy9 hiN hjN hlv
          go_wp2_with fail
          go_quiet_grown (first | (go_at_fn g; refine Calls.grown_of (hc9 _ _)))
          have S2 : Aside (SWK enc kc w0 blk off d (grow (wr.drewN nq) osq)) := S1.out.grown nq osq
          clear l9a l9b hc9 S1
          generalize grow (wr.drewN nq) osq = w2 at S2 ⊢
          clear nq osq
          clear ea ec
          go_wp2
          go_roundg (h - i)
          case measure => omega
          case rel => exact ⟨i, h, rfl, rfl, by omega, by omega, by omega, Nat.le_refl _, S2, HX2⟩
        · have HX2 : Hid ((h + 1 = a ∨ ¬ T (fA d m) (fA d h)) ∧ (j = m ∨ T (fA d m) (fA d j))) := ⟨.inr fun hh => hlv ((HA.out h m (by omega) (by omega) (Nat.le_refl _) (by omega)).2 hh), HX.out.2⟩
          obtain ⟨iN, hiN⟩ : ∃ q, q = m := ⟨_, rfl⟩
          obtain ⟨jN, hjN⟩ : ∃ q, q = h := ⟨_, rfl⟩
          have ea : ((m : Int)).toNat = iN := by omega
          have pa : (0 : Int) ≤ (m : Int) := by omega
          have ba : (m : Int) < (d.size : Int) := by omega
          have ra : IntKind.i64.wrap ((m : Int)) = (m : Int) := by rw [IntKind.wrap_i64]; omega
          have ec : ((h : Int)).toNat = jN := by omega
          have pc : (0 : Int) ≤ (h : Int) := by omega
          have bc : (h : Int) < (d.size : Int) := by omega
          have rc : IntKind.i64.wrap ((h : Int)) = (h : Int) := by rw [IntKind.wrap_i64]; omega
          obtain ⟨x9, hx9⟩ : ∃ x, x = d[m]! := ⟨_, rfl⟩
          obtain ⟨y9, hy9⟩ : ∃ x, x = d[h]! := ⟨_, rfl⟩
          have l9a := S1.out.ld R (by omega) Tryz.prog (m) (by omega)
          have l9b := S1.out.ld R (by omega) Tryz.prog (h) (by omega)
          rw [← hx9, ← hiN] at l9a
          rw [← hy9, ← hjN] at l9b
          have hc9 := S1.out.cmp HC.out (by omega) x9 y9
          have hv9 : ¬ cf x9 y9 < 0 := by rw [hx9, hy9]; exact hlv
          have hd9 : decide (cf x9 y9 < 0) = false := decide_eq_false hv9
          clear hx9 hy9 hiN hjN hlv
          go_wp2_with fail
          go_quiet_grown (first | (go_at_fn g; refine Calls.grown_of (hc9 _ _)))
          have S2 : Aside (SWK enc kc w0 blk off d (grow (wr.drewN nq) osq)) := S1.out.grown nq osq
          clear l9a l9b hc9 S1
          generalize grow (wr.drewN nq) osq = w2 at S2 ⊢
          clear nq osq
          clear ea ec
          go_wp2
          go_roundg (j - (h + 1))
          case measure => omega
          case rel => exact ⟨h + 1, j, by go_num, rfl, by omega, by omega, hjb, Nat.le_refl _, S2, HX2⟩
      · obtain rfl : i = j := by omega
        go_wp2_with fail
        go_loopg [17] (m - a) (fun kx s17 wr => ∃ (k : Nat) (dk : Array α), s17 = .int .i64 (k : Int) ∧ i ≤ k ∧ k ≤ m ∧ k - i ≤ kx ∧ Aside (SWK enc kc w0 blk off dk wr) ∧ Hid (RotR k m (m + 1) d dk))
        case atStart => exact ⟨m, d, rfl, by omega, Nat.le_refl _, by omega, S1, RotR.self m (m + 1) d (by omega)⟩
        case round =>
          clear S1
          obtain ⟨k, dk, rfl, hik, hkm, hkx, S1, HR⟩ := hrel
          have hds := HR.out.size
          by_cases hlt2 : i < k
          · have hlti : (i : Int) < (k : Int) := by omega
            obtain ⟨k1, rfl⟩ : ∃ q, k = q + 1 := ⟨k - 1, by omega⟩
            have HR2 : Hid (RotR k1 m (m + 1) d (swp dk (k1 + 1) k1)) := HR.out.bwd hkm (by omega)
            clear HR
            obtain ⟨iN, hiN⟩ : ∃ q, q = k1 + 1 := ⟨_, rfl⟩
            obtain ⟨jN, hjN⟩ : ∃ q, q = k1 := ⟨_, rfl⟩
            have ea : ((k1 : Int) + 1).toNat = iN := by omega
            have pa : (0 : Int) ≤ (k1 : Int) + 1 := by omega
            have ba : (k1 : Int) + 1 < (d.size : Int) := by omega
            have ra : IntKind.i64.wrap ((k1 : Int) + 1) = (k1 : Int) + 1 := by rw [IntKind.wrap_i64]; omega
            have ec : ((k1 : Int)).toNat = jN := by omega
            have pc : (0 : Int) ≤ (k1 : Int) := by omega
            have bc : (k1 : Int) < (d.size : Int) := by omega
            have rc : IntKind.i64.wrap ((k1 : Int)) = (k1 : Int) := by rw [IntKind.wrap_i64]; omega
            obtain ⟨x9, hx9⟩ : ∃ x, x = dk[k1 + 1]! := ⟨_, rfl⟩
            obtain ⟨y9, hy9⟩ : ∃ x, x = dk[k1]! := ⟨_, rfl⟩
            have S2 : Aside (SWK enc kc w0 blk off (swp dk (k1 + 1) (k1)) ((wr.drew.setCells blk (off + iN * kc) (enc y9)).setCells blk (off + jN * kc) (enc x9))) := by rw [hiN, hjN, hx9, hy9]; exact S1.out.swapped R (k1 + 1) (k1) (by omega) (by omega)
            have l9a := S1.out.ld1 R (by omega) Tryz.prog (k1 + 1) (by omega)
            have l9b := S1.out.ld1 R (by omega) Tryz.prog (k1) (by omega)
            have s9a := S1.out.st1 R (by omega) Tryz.prog (k1 + 1) (by omega) y9
            have s9b := S1.out.st2 R (by omega) Tryz.prog (k1 + 1) (k1) (by omega) (by omega) y9 x9
            have n9a : (enc x9).length = kc := R.hk _
            have n9b : (enc y9).length = kc := R.hk _
            rw [← hiN, ← hjN] at s9b
            rw [← hx9, ← hiN] at l9a
            rw [← hy9, ← hjN] at l9b
            rw [← hiN] at s9a
            generalize enc x9 = cI9 at *
            generalize enc y9 = cJ9 at *
            clear S1 hx9 hy9 hiN hjN
            go_wp2_with fail
            go_big_region_o
            clear l9a l9b s9a s9b
            generalize (wr.drew.setCells blk (off + iN * kc) cJ9).setCells blk (off + jN * kc) cI9 = w2 at S2 ⊢
            clear ea ec
            go_wp2
            go_roundg (k1 - i)
            case measure => omega
            case rel => exact ⟨k1, _, by first | rfl | go_num, by omega, by omega, Nat.le_refl _, S2, HR2⟩
          · obtain rfl : k = i := by omega
            go_wp2
            refine bodyPost_ret (results_none rfl _ _ _) rfl ?_
            have hR := HR.out
            exact ⟨rfl, dk, S1.out, ⟨hR.size, (Shuf.of_rot (by omega) (by omega) hR.at').mono hi (Nat.le_refl _), ins_bwd hT H1.out hi hkm HX.out.1 HX.out.2 hR.at'⟩⟩
  have hs' : d0.size = d.size := hs
  obtain ⟨mid, hmid⟩ : ∃ q, (a + b) / 2 = q := ⟨_, rfl⟩
  have emid : ((a : Int) + (b : Int)) / 2 = (mid : Int) := by omega
  have hm1 : a < mid := by omega
  have hm2 : mid < b := by omega
  have hma : 2 * mid ≤ a + b := by omega
  have hmb2 : a + b ≤ 2 * mid + 1 := by omega
  obtain ⟨n, hn⟩ : ∃ q, mid + m = q := ⟨_, rfl⟩
  have en : (mid : Int) + (m : Int) = (n : Int) := by omega
  obtain ⟨p, hp⟩ : ∃ q, n - 1 = q := ⟨_, rfl⟩
  have ep : (n : Int) - 1 = (p : Int) := by omega
  have ena : ¬ (m : Int) - (a : Int) = 1 := by omega
  have ena' : ((m : Int) - (a : Int) == 1) = false := by rw [beq_eq_false_iff_ne]; exact ena
  have enb : ¬ (b : Int) - (m : Int) = 1 := by omega
  have enb' : ((b : Int) - (m : Int) == 1) = false := by rw [beq_eq_false_iff_ne]; exact enb
  clear hmid
  by_cases hc : mid < m
  · have hci : (mid : Int) < (m : Int) := by omega
    obtain ⟨s0, hs0⟩ : ∃ q, n - b = q := ⟨_, rfl⟩
    have es0 : (n : Int) - (b : Int) = (s0 : Int) := by omega
    obtain ⟨r0, hr0⟩ : ∃ q, q = mid := ⟨_, rfl⟩
    have hs0r : s0 ≤ r0 := by omega
    have has0 : a ≤ s0 := by omega
    have hr0m : r0 ≤ m := by omega
    have HQ : Hid (∀ c, s0 ≤ c → c < r0 → m + c ≤ p ∧ p < b + c) := fun c q1 q2 => by omega
    have HE : Hid (∀ s e, s0 ≤ s → s ≤ r0 → n - s = e → m ≤ e ∧ e ≤ b ∧ s + e = mid + m ∧ s ≤ n) := fun s e q1 q2 q3 => by omega
    have HKf : Hid (∀ s e, s0 ≤ s → s ≤ r0 → n - s = e → ((s = s0 ∨ ¬ T (fA d (p - (s - 1))) (fA d (s - 1))) ∧ (s = r0 ∨ T (fA d (p - s)) (fA d s))) → ((s = a ∨ e = b ∨ ¬ T (fA d e) (fA d (s - 1))) ∧ (s = m ∨ e = m ∨ T (fA d (e - 1)) (fA d s)))) := fun s e q1 q2 q3 q4 => by
      refine ⟨?_, ?_⟩
      · rcases q4.1 with q | q
        · exact .inr (.inl (by omega))
        · by_cases q5 : s = s0
          · exact .inr (.inl (by omega))
          · rw [show p - (s - 1) = e by omega] at q
            exact .inr (.inr q)
      · rcases q4.2 with q | q
        · exact .inr (.inl (by omega))
        · rw [show p - s = e - 1 by omega] at q
          exact .inr (.inr q)
    go_enter Tryz.func177, Tryz.ntmps177
    go_wp2_with fail
    rw [show (Value.int IntKind.i64 (mid : Int)) = Value.int IntKind.i64 (mid : Int) from rfl]
    clear ena ena' enb enb' emid
    go_loopg [20, 21] (m - a) (fun kx s20 s21 wr => ∃ s r : Nat, s20 = .int .i64 (s : Int) ∧ s21 = .int .i64 (r : Int) ∧ s0 ≤ s ∧ s ≤ r ∧ r ≤ r0 ∧ r - s ≤ kx ∧ Aside (SWK enc kc w0 blk off d wr) ∧ Hid ((s = s0 ∨ ¬ T (fA d (p - (s - 1))) (fA d (s - 1))) ∧ (r = r0 ∨ T (fA d (p - r)) (fA d r))))
    case atStart => exact ⟨s0, r0, by first | rfl | go_num, by rw [hr0], Nat.le_refl _, hs0r, Nat.le_refl _, by omega, S0, ⟨.inl rfl, .inl rfl⟩⟩
    case round =>
      clear S0
      obtain ⟨s, r, rfl, rfl, hs, hsr, hrr, hkx, S1, HX⟩ := hrel
      by_cases hlt : s < r
      · as_aux_lemma =>
        obtain ⟨h, hh⟩ : ∃ q, (s + r) / 2 = q := ⟨_, rfl⟩
        have eh : (((s : Nat) : Int) + ((r : Nat) : Int)) / 2 = (h : Int) := by omega
        have lh1 : s ≤ h := by omega
        have lh2 : h < r := by omega
        clear hh
        obtain ⟨hq1, hq2⟩ := HQ.out h (by omega) (by omega)
        obtain ⟨ph, hph⟩ : ∃ q, p - h = q := ⟨_, rfl⟩
        have eph : (p : Int) - (h : Int) = (ph : Int) := by omega
        have hph1 : m ≤ ph := by omega
        have hph2 : ph < b := by omega
        by_cases hlv : cf (d[ph]!) (d[h]!) < 0
        · have HX2 : Hid ((s = s0 ∨ ¬ T (fA d (p - (s - 1))) (fA d (s - 1))) ∧ (h = r0 ∨ T (fA d (p - h)) (fA d h))) := ⟨HX.out.1, .inr (by rw [hph]; exact (HA.out h ph (by omega) (by omega) (by omega) (by omega)).1 hlv)⟩
          obtain ⟨iN, hiN⟩ : ∃ q, q = ph := ⟨_, rfl⟩
          obtain ⟨jN, hjN⟩ : ∃ q, q = h := ⟨_, rfl⟩
          have ea : ((ph : Int)).toNat = iN := by omega
          have pa : (0 : Int) ≤ (ph : Int) := by omega
          have ba : (ph : Int) < (d.size : Int) := by omega
          have ra : IntKind.i64.wrap ((ph : Int)) = (ph : Int) := by rw [IntKind.wrap_i64]; omega
          have ec : ((h : Int)).toNat = jN := by omega
          have pc : (0 : Int) ≤ (h : Int) := by omega
          have bc : (h : Int) < (d.size : Int) := by omega
          have rc : IntKind.i64.wrap ((h : Int)) = (h : Int) := by rw [IntKind.wrap_i64]; omega
          obtain ⟨x9, hx9⟩ : ∃ x, x = d[ph]! := ⟨_, rfl⟩
          obtain ⟨y9, hy9⟩ : ∃ x, x = d[h]! := ⟨_, rfl⟩
          have l9a := S1.out.ld R (by omega) Tryz.prog (ph) (by omega)
          have l9b := S1.out.ld R (by omega) Tryz.prog (h) (by omega)
          rw [← hx9, ← hiN] at l9a
          rw [← hy9, ← hjN] at l9b
          have hc9 := S1.out.cmp HC.out (by omega) x9 y9
          have hv9 : cf x9 y9 < 0 := by rw [hx9, hy9]; exact hlv
          have hd9 : decide (cf x9 y9 < 0) = true := decide_eq_true hv9
          clear hx9 hy9 hiN hjN hlv
          go_wp2_with fail
          go_quiet_grown (first | (go_at_fn g; refine Calls.grown_of (hc9 _ _)))
          have S2 : Aside (SWK enc kc w0 blk off d (grow (wr.drewN nq) osq)) := S1.out.grown nq osq
          clear l9a l9b hc9 S1
          generalize grow (wr.drewN nq) osq = w2 at S2 ⊢
          clear nq osq
          clear ea ec
          go_wp2
          go_roundg (h - s)
          case measure => omega
          case rel => exact ⟨s, h, rfl, rfl, hs, by omega, by omega, Nat.le_refl _, S2, HX2⟩
        · have HX2 : Hid ((h + 1 = s0 ∨ ¬ T (fA d (p - (h + 1 - 1))) (fA d (h + 1 - 1))) ∧ (r = r0 ∨ T (fA d (p - r)) (fA d r))) := ⟨.inr (by rw [Nat.add_sub_cancel, hph]; exact fun hh => hlv ((HA.out h ph (by omega) (by omega) (by omega) (by omega)).2 hh)), HX.out.2⟩
          obtain ⟨iN, hiN⟩ : ∃ q, q = ph := ⟨_, rfl⟩
          obtain ⟨jN, hjN⟩ : ∃ q, q = h := ⟨_, rfl⟩
          have ea : ((ph : Int)).toNat = iN := by omega
          have pa : (0 : Int) ≤ (ph : Int) := by omega
          have ba : (ph : Int) < (d.size : Int) := by omega
          have ra : IntKind.i64.wrap ((ph : Int)) = (ph : Int) := by rw [IntKind.wrap_i64]; omega
          have ec : ((h : Int)).toNat = jN := by omega
          have pc : (0 : Int) ≤ (h : Int) := by omega
          have bc : (h : Int) < (d.size : Int) := by omega
          have rc : IntKind.i64.wrap ((h : Int)) = (h : Int) := by rw [IntKind.wrap_i64]; omega
          obtain ⟨x9, hx9⟩ : ∃ x, x = d[ph]! := ⟨_, rfl⟩
          obtain ⟨y9, hy9⟩ : ∃ x, x = d[h]! := ⟨_, rfl⟩
          have l9a := S1.out.ld R (by omega) Tryz.prog (ph) (by omega)
          have l9b := S1.out.ld R (by omega) Tryz.prog (h) (by omega)
          rw [← hx9, ← hiN] at l9a
          rw [← hy9, ← hjN] at l9b
          have hc9 := S1.out.cmp HC.out (by omega) x9 y9
          have hv9 : ¬ cf x9 y9 < 0 := by rw [hx9, hy9]; exact hlv
          have hd9 : decide (cf x9 y9 < 0) = false := decide_eq_false hv9
          clear hx9 hy9 hiN hjN hlv
          go_wp2_with fail
          go_quiet_grown (first | (go_at_fn g; refine Calls.grown_of (hc9 _ _)))
          have S2 : Aside (SWK enc kc w0 blk off d (grow (wr.drewN nq) osq)) := S1.out.grown nq osq
          clear l9a l9b hc9 S1
          generalize grow (wr.drewN nq) osq = w2 at S2 ⊢
          clear nq osq
          clear ea ec
          go_wp2
          go_roundg (r - (h + 1))
          case measure => omega
          case rel => exact ⟨h + 1, r, by go_num, rfl, by omega, by omega, hrr, Nat.le_refl _, S2, HX2⟩
      · as_aux_lemma =>
        obtain rfl : s = r := by omega
        obtain ⟨e, he⟩ : ∃ q, n - s = q := ⟨_, rfl⟩
        obtain ⟨le1, le2, hse, hsn⟩ : m ≤ e ∧ e ≤ b ∧ s + e = mid + m ∧ s ≤ n := HE.out s e hs hrr he
        have ee : (n : Int) - (s : Int) = (e : Int) := by omega
        have ls1 : a ≤ s := by omega
        have ls2 : s ≤ m := by omega
        have HK : Hid ((s = a ∨ e = b ∨ ¬ T (fA d e) (fA d (s - 1))) ∧ (s = m ∨ e = m ∨ T (fA d (e - 1)) (fA d s))) := HKf.out s e hs hrr he HX.out
        clear HX HQ HE HKf
        by_cases hro : s < m ∧ m < e
        · obtain ⟨hro1, hro2⟩ := hro
          have HCr := Lib.hid (rotR_any enc kc aE zE g cb blk off cap s m e d0 d w0 wr R hs' S1.out hro1 hro2 (by omega) (by omega))
          go_wp2_with fail
          go_at_call 208
          refine HCr.out.mono ?_
          rintro e9 w1 ⟨rfl, d1, S1', hR'⟩
          have HR : Hid (RotR s m e d d1) := hR'
          clear S1 HCr hR'
          have S1 : Aside (SWK enc kc w0 blk off d1 w1) := S1'
          clear S1'
          have hmid5 := sym_mid hT H1.out H2.out (by omega) (by omega) ls1 ls2 le1 le2 hse (by omega) (by omega) HK.out.1 HK.out.2 HR.out.at'
          have hag2 := mid_ag HR.out.at' HA.out ls1 ls2 le1 le2 hse
          have HM5 : Hid _ := hmid5
          have HG2 : Hid _ := hag2
          clear hmid5 hag2
          have hd1 := HR.out.size
          by_cases hx1 : a < s ∧ s < mid
          · obtain ⟨hx1a, hx1b⟩ := hx1
            have HC1 := Lib.hid (IH.out (mid - a) (by omega) a s mid d1 w1 rfl (by omega) S1.out hx1a hx1b (by omega) HM5.out.1 HM5.out.2.1 HG2.out.1)
            rw [hd1] at HC1
            go_wp2_with fail
            go_at_call 177
            refine HC1.out.mono ?_
            rintro e9 w2 ⟨rfl, d2, S2', h2'⟩
            have S2 : Aside (SWK enc kc w0 blk off d2 w2) := S2'
            have HMa : Hid (Mgd T a mid d1 d2) := h2'
            clear S2' h2' HC1 S1
            have hd2 := HMa.out.size
            have HS2 : Hid (Srt T (fA d2) mid e ∧ Srt T (fA d2) e b ∧ Ag T cf (fA d2) mid e b) := ⟨Srt_same HM5.out.2.2.1 fun x q1 q2 => HMa.out.shuf.out (by omega), Srt_same HM5.out.2.2.2.1 fun x q1 q2 => HMa.out.shuf.out (by omega), HG2.out.2.same (fun x q1 q2 => HMa.out.shuf.out (by omega)) (by omega) (by omega)⟩
            by_cases hx2 : mid < e ∧ e < b
            · obtain ⟨hx2a, hx2b⟩ := hx2
              have HC2 := Lib.hid (IH.out (b - mid) (by omega) mid e b d2 w2 rfl (by omega) S2.out hx2a hx2b (by omega) HS2.out.1 HS2.out.2.1 HS2.out.2.2)
              rw [hd2, hd1] at HC2
              go_wp2_with fail
              all_goals
                go_at_call 177
                refine HC2.out.mono ?_
                rintro e9 w3 ⟨rfl, d3, S3, h3⟩
                go_wp2
                go_end0
                exact ⟨rfl, d3, S3, sym_fin HR.out HMa.out h3 ls1 ls2 le1 le2 (by omega) (by omega) HM5.out.2.2.2.2⟩
            · have hfin := sym_fin HR.out HMa.out (Mgd.self (mid_self hx2 (by omega) HS2.out.1 HS2.out.2.1)) ls1 ls2 le1 le2 (by omega) (by omega) HM5.out.2.2.2.2
              have HF : Hid _ := hfin
              have hx2c : mid < e → b ≤ e := fun q => by omega
              clear hfin
              by_cases hx2d : mid < e
              · have hx2e : ¬ (e : Int) < (b : Int) := by omega
                go_wp2
                all_goals
                  go_end0
                  exact ⟨rfl, d2, S2.out, HF.out⟩
              · have hx2e : ¬ (mid : Int) < (e : Int) := by omega
                go_wp2
                all_goals
                  go_end0
                  exact ⟨rfl, d2, S2.out, HF.out⟩
          · have HMa : Hid (Mgd T a mid d1 d1) := Mgd.self (mid_self hx1 ls1 HM5.out.1 HM5.out.2.1)
            have S2 : Aside (SWK enc kc w0 blk off d1 w1) := S1.out
            have hx1i : ¬ ((a : Int) < (s : Int) ∧ (s : Int) < (mid : Int)) := by omega
            clear S1
            by_cases hx1c : a < s
            · have hx1d : ¬ (s : Int) < (mid : Int) := by omega
              have hd2 := HMa.out.size
              have HS2 : Hid (Srt T (fA d1) mid e ∧ Srt T (fA d1) e b ∧ Ag T cf (fA d1) mid e b) := ⟨Srt_same HM5.out.2.2.1 fun x q1 q2 => HMa.out.shuf.out (by omega), Srt_same HM5.out.2.2.2.1 fun x q1 q2 => HMa.out.shuf.out (by omega), HG2.out.2.same (fun x q1 q2 => HMa.out.shuf.out (by omega)) (by omega) (by omega)⟩
              by_cases hx2 : mid < e ∧ e < b
              · obtain ⟨hx2a, hx2b⟩ := hx2
                have HC2 := Lib.hid (IH.out (b - mid) (by omega) mid e b d1 w1 rfl (by omega) S2.out hx2a hx2b (by omega) HS2.out.1 HS2.out.2.1 HS2.out.2.2)
                rw [hd2, hd1] at HC2
                go_wp2_with fail
                all_goals
                  go_at_call 177
                  refine HC2.out.mono ?_
                  rintro e9 w3 ⟨rfl, d3, S3, h3⟩
                  go_wp2
                  go_end0
                  exact ⟨rfl, d3, S3, sym_fin HR.out HMa.out h3 ls1 ls2 le1 le2 (by omega) (by omega) HM5.out.2.2.2.2⟩
              · have hfin := sym_fin HR.out HMa.out (Mgd.self (mid_self hx2 (by omega) HS2.out.1 HS2.out.2.1)) ls1 ls2 le1 le2 (by omega) (by omega) HM5.out.2.2.2.2
                have HF : Hid _ := hfin
                have hx2c : mid < e → b ≤ e := fun q => by omega
                clear hfin
                by_cases hx2d : mid < e
                · have hx2e : ¬ (e : Int) < (b : Int) := by omega
                  go_wp2
                  all_goals
                    go_end0
                    exact ⟨rfl, d1, S2.out, HF.out⟩
                · have hx2e : ¬ (mid : Int) < (e : Int) := by omega
                  go_wp2
                  all_goals
                    go_end0
                    exact ⟨rfl, d1, S2.out, HF.out⟩
            · have hx1d : ¬ (a : Int) < (s : Int) := by omega
              have hd2 := HMa.out.size
              have HS2 : Hid (Srt T (fA d1) mid e ∧ Srt T (fA d1) e b ∧ Ag T cf (fA d1) mid e b) := ⟨Srt_same HM5.out.2.2.1 fun x q1 q2 => HMa.out.shuf.out (by omega), Srt_same HM5.out.2.2.2.1 fun x q1 q2 => HMa.out.shuf.out (by omega), HG2.out.2.same (fun x q1 q2 => HMa.out.shuf.out (by omega)) (by omega) (by omega)⟩
              by_cases hx2 : mid < e ∧ e < b
              · obtain ⟨hx2a, hx2b⟩ := hx2
                have HC2 := Lib.hid (IH.out (b - mid) (by omega) mid e b d1 w1 rfl (by omega) S2.out hx2a hx2b (by omega) HS2.out.1 HS2.out.2.1 HS2.out.2.2)
                rw [hd2, hd1] at HC2
                go_wp2_with fail
                all_goals
                  go_at_call 177
                  refine HC2.out.mono ?_
                  rintro e9 w3 ⟨rfl, d3, S3, h3⟩
                  go_wp2
                  go_end0
                  exact ⟨rfl, d3, S3, sym_fin HR.out HMa.out h3 ls1 ls2 le1 le2 (by omega) (by omega) HM5.out.2.2.2.2⟩
              · have hfin := sym_fin HR.out HMa.out (Mgd.self (mid_self hx2 (by omega) HS2.out.1 HS2.out.2.1)) ls1 ls2 le1 le2 (by omega) (by omega) HM5.out.2.2.2.2
                have HF : Hid _ := hfin
                have hx2c : mid < e → b ≤ e := fun q => by omega
                clear hfin
                by_cases hx2d : mid < e
                · have hx2e : ¬ (e : Int) < (b : Int) := by omega
                  go_wp2
                  all_goals
                    go_end0
                    exact ⟨rfl, d1, S2.out, HF.out⟩
                · have hx2e : ¬ (mid : Int) < (e : Int) := by omega
                  go_wp2
                  all_goals
                    go_end0
                    exact ⟨rfl, d1, S2.out, HF.out⟩
        · have HR : Hid (RotR s m e d d) := by
            by_cases q : s < m
            · obtain rfl : m = e := by omega
              exact RotR.self' s m d
            · obtain rfl : s = m := by omega
              exact RotR.self s e d (by omega)
          obtain ⟨w1, hw1⟩ : ∃ W, wr = W := ⟨_, rfl⟩
          obtain ⟨d1, hd1e⟩ : ∃ D, d = D := ⟨_, rfl⟩
          have S1c : Aside (SWK enc kc w0 blk off d1 w1) := by rw [← hw1, ← hd1e]; exact S1.out
          clear S1
          have S1 := S1c
          clear S1c
          have HRc : Hid (RotR s m e d d1) := by rw [← hd1e]; exact HR.out
          clear HR
          have HR := HRc
          clear HRc hd1e
          rw [hw1]
          clear hw1
          by_cases hroa : s < m
          · have hrob : ¬ (m : Int) < (e : Int) := by omega
            have hmid5 := sym_mid hT H1.out H2.out (by omega) (by omega) ls1 ls2 le1 le2 hse (by omega) (by omega) HK.out.1 HK.out.2 HR.out.at'
            have hag2 := mid_ag HR.out.at' HA.out ls1 ls2 le1 le2 hse
            have HM5 : Hid _ := hmid5
            have HG2 : Hid _ := hag2
            clear hmid5 hag2
            have hd1 := HR.out.size
            by_cases hx1 : a < s ∧ s < mid
            · obtain ⟨hx1a, hx1b⟩ := hx1
              have HC1 := Lib.hid (IH.out (mid - a) (by omega) a s mid d1 w1 rfl (by omega) S1.out hx1a hx1b (by omega) HM5.out.1 HM5.out.2.1 HG2.out.1)
              rw [hd1] at HC1
              go_wp2_with fail
              go_at_call 177
              refine HC1.out.mono ?_
              rintro e9 w2 ⟨rfl, d2, S2', h2'⟩
              have S2 : Aside (SWK enc kc w0 blk off d2 w2) := S2'
              have HMa : Hid (Mgd T a mid d1 d2) := h2'
              clear S2' h2' HC1 S1
              have hd2 := HMa.out.size
              have HS2 : Hid (Srt T (fA d2) mid e ∧ Srt T (fA d2) e b ∧ Ag T cf (fA d2) mid e b) := ⟨Srt_same HM5.out.2.2.1 fun x q1 q2 => HMa.out.shuf.out (by omega), Srt_same HM5.out.2.2.2.1 fun x q1 q2 => HMa.out.shuf.out (by omega), HG2.out.2.same (fun x q1 q2 => HMa.out.shuf.out (by omega)) (by omega) (by omega)⟩
              by_cases hx2 : mid < e ∧ e < b
              · obtain ⟨hx2a, hx2b⟩ := hx2
                have HC2 := Lib.hid (IH.out (b - mid) (by omega) mid e b d2 w2 rfl (by omega) S2.out hx2a hx2b (by omega) HS2.out.1 HS2.out.2.1 HS2.out.2.2)
                rw [hd2, hd1] at HC2
                go_wp2_with fail
                all_goals
                  go_at_call 177
                  refine HC2.out.mono ?_
                  rintro e9 w3 ⟨rfl, d3, S3, h3⟩
                  go_wp2
                  go_end0
                  exact ⟨rfl, d3, S3, sym_fin HR.out HMa.out h3 ls1 ls2 le1 le2 (by omega) (by omega) HM5.out.2.2.2.2⟩
              · have hfin := sym_fin HR.out HMa.out (Mgd.self (mid_self hx2 (by omega) HS2.out.1 HS2.out.2.1)) ls1 ls2 le1 le2 (by omega) (by omega) HM5.out.2.2.2.2
                have HF : Hid _ := hfin
                have hx2c : mid < e → b ≤ e := fun q => by omega
                clear hfin
                by_cases hx2d : mid < e
                · have hx2e : ¬ (e : Int) < (b : Int) := by omega
                  go_wp2
                  all_goals
                    go_end0
                    exact ⟨rfl, d2, S2.out, HF.out⟩
                · have hx2e : ¬ (mid : Int) < (e : Int) := by omega
                  go_wp2
                  all_goals
                    go_end0
                    exact ⟨rfl, d2, S2.out, HF.out⟩
            · have HMa : Hid (Mgd T a mid d1 d1) := Mgd.self (mid_self hx1 ls1 HM5.out.1 HM5.out.2.1)
              have S2 : Aside (SWK enc kc w0 blk off d1 w1) := S1.out
              have hx1i : ¬ ((a : Int) < (s : Int) ∧ (s : Int) < (mid : Int)) := by omega
              clear S1
              by_cases hx1c : a < s
              · have hx1d : ¬ (s : Int) < (mid : Int) := by omega
                have hd2 := HMa.out.size
                have HS2 : Hid (Srt T (fA d1) mid e ∧ Srt T (fA d1) e b ∧ Ag T cf (fA d1) mid e b) := ⟨Srt_same HM5.out.2.2.1 fun x q1 q2 => HMa.out.shuf.out (by omega), Srt_same HM5.out.2.2.2.1 fun x q1 q2 => HMa.out.shuf.out (by omega), HG2.out.2.same (fun x q1 q2 => HMa.out.shuf.out (by omega)) (by omega) (by omega)⟩
                by_cases hx2 : mid < e ∧ e < b
                · obtain ⟨hx2a, hx2b⟩ := hx2
                  have HC2 := Lib.hid (IH.out (b - mid) (by omega) mid e b d1 w1 rfl (by omega) S2.out hx2a hx2b (by omega) HS2.out.1 HS2.out.2.1 HS2.out.2.2)
                  rw [hd2, hd1] at HC2
                  go_wp2_with fail
                  all_goals
                    go_at_call 177
                    refine HC2.out.mono ?_
                    rintro e9 w3 ⟨rfl, d3, S3, h3⟩
                    go_wp2
                    go_end0
                    exact ⟨rfl, d3, S3, sym_fin HR.out HMa.out h3 ls1 ls2 le1 le2 (by omega) (by omega) HM5.out.2.2.2.2⟩
                · have hfin := sym_fin HR.out HMa.out (Mgd.self (mid_self hx2 (by omega) HS2.out.1 HS2.out.2.1)) ls1 ls2 le1 le2 (by omega) (by omega) HM5.out.2.2.2.2
                  have HF : Hid _ := hfin
                  have hx2c : mid < e → b ≤ e := fun q => by omega
                  clear hfin
                  by_cases hx2d : mid < e
                  · have hx2e : ¬ (e : Int) < (b : Int) := by omega
                    go_wp2
                    all_goals
                      go_end0
                      exact ⟨rfl, d1, S2.out, HF.out⟩
                  · have hx2e : ¬ (mid : Int) < (e : Int) := by omega
                    go_wp2
                    all_goals
                      go_end0
                      exact ⟨rfl, d1, S2.out, HF.out⟩
              · have hx1d : ¬ (a : Int) < (s : Int) := by omega
                have hd2 := HMa.out.size
                have HS2 : Hid (Srt T (fA d1) mid e ∧ Srt T (fA d1) e b ∧ Ag T cf (fA d1) mid e b) := ⟨Srt_same HM5.out.2.2.1 fun x q1 q2 => HMa.out.shuf.out (by omega), Srt_same HM5.out.2.2.2.1 fun x q1 q2 => HMa.out.shuf.out (by omega), HG2.out.2.same (fun x q1 q2 => HMa.out.shuf.out (by omega)) (by omega) (by omega)⟩
                by_cases hx2 : mid < e ∧ e < b
                · obtain ⟨hx2a, hx2b⟩ := hx2
                  have HC2 := Lib.hid (IH.out (b - mid) (by omega) mid e b d1 w1 rfl (by omega) S2.out hx2a hx2b (by omega) HS2.out.1 HS2.out.2.1 HS2.out.2.2)
                  rw [hd2, hd1] at HC2
                  go_wp2_with fail
                  all_goals
                    go_at_call 177
                    refine HC2.out.mono ?_
                    rintro e9 w3 ⟨rfl, d3, S3, h3⟩
                    go_wp2
                    go_end0
                    exact ⟨rfl, d3, S3, sym_fin HR.out HMa.out h3 ls1 ls2 le1 le2 (by omega) (by omega) HM5.out.2.2.2.2⟩
                · have hfin := sym_fin HR.out HMa.out (Mgd.self (mid_self hx2 (by omega) HS2.out.1 HS2.out.2.1)) ls1 ls2 le1 le2 (by omega) (by omega) HM5.out.2.2.2.2
                  have HF : Hid _ := hfin
                  have hx2c : mid < e → b ≤ e := fun q => by omega
                  clear hfin
                  by_cases hx2d : mid < e
                  · have hx2e : ¬ (e : Int) < (b : Int) := by omega
                    go_wp2
                    all_goals
                      go_end0
                      exact ⟨rfl, d1, S2.out, HF.out⟩
                  · have hx2e : ¬ (mid : Int) < (e : Int) := by omega
                    go_wp2
                    all_goals
                      go_end0
                      exact ⟨rfl, d1, S2.out, HF.out⟩
          · have hrob : ¬ (s : Int) < (m : Int) := by omega
            have hmid5 := sym_mid hT H1.out H2.out (by omega) (by omega) ls1 ls2 le1 le2 hse (by omega) (by omega) HK.out.1 HK.out.2 HR.out.at'
            have hag2 := mid_ag HR.out.at' HA.out ls1 ls2 le1 le2 hse
            have HM5 : Hid _ := hmid5
            have HG2 : Hid _ := hag2
            clear hmid5 hag2
            have hd1 := HR.out.size
            by_cases hx1 : a < s ∧ s < mid
            · obtain ⟨hx1a, hx1b⟩ := hx1
              have HC1 := Lib.hid (IH.out (mid - a) (by omega) a s mid d1 w1 rfl (by omega) S1.out hx1a hx1b (by omega) HM5.out.1 HM5.out.2.1 HG2.out.1)
              rw [hd1] at HC1
              go_wp2_with fail
              go_at_call 177
              refine HC1.out.mono ?_
              rintro e9 w2 ⟨rfl, d2, S2', h2'⟩
              have S2 : Aside (SWK enc kc w0 blk off d2 w2) := S2'
              have HMa : Hid (Mgd T a mid d1 d2) := h2'
              clear S2' h2' HC1 S1
              have hd2 := HMa.out.size
              have HS2 : Hid (Srt T (fA d2) mid e ∧ Srt T (fA d2) e b ∧ Ag T cf (fA d2) mid e b) := ⟨Srt_same HM5.out.2.2.1 fun x q1 q2 => HMa.out.shuf.out (by omega), Srt_same HM5.out.2.2.2.1 fun x q1 q2 => HMa.out.shuf.out (by omega), HG2.out.2.same (fun x q1 q2 => HMa.out.shuf.out (by omega)) (by omega) (by omega)⟩
              by_cases hx2 : mid < e ∧ e < b
              · obtain ⟨hx2a, hx2b⟩ := hx2
                have HC2 := Lib.hid (IH.out (b - mid) (by omega) mid e b d2 w2 rfl (by omega) S2.out hx2a hx2b (by omega) HS2.out.1 HS2.out.2.1 HS2.out.2.2)
                rw [hd2, hd1] at HC2
                go_wp2_with fail
                all_goals
                  go_at_call 177
                  refine HC2.out.mono ?_
                  rintro e9 w3 ⟨rfl, d3, S3, h3⟩
                  go_wp2
                  go_end0
                  exact ⟨rfl, d3, S3, sym_fin HR.out HMa.out h3 ls1 ls2 le1 le2 (by omega) (by omega) HM5.out.2.2.2.2⟩
              · have hfin := sym_fin HR.out HMa.out (Mgd.self (mid_self hx2 (by omega) HS2.out.1 HS2.out.2.1)) ls1 ls2 le1 le2 (by omega) (by omega) HM5.out.2.2.2.2
                have HF : Hid _ := hfin
                have hx2c : mid < e → b ≤ e := fun q => by omega
                clear hfin
                by_cases hx2d : mid < e
                · have hx2e : ¬ (e : Int) < (b : Int) := by omega
                  go_wp2
                  all_goals
                    go_end0
                    exact ⟨rfl, d2, S2.out, HF.out⟩
                · have hx2e : ¬ (mid : Int) < (e : Int) := by omega
                  go_wp2
                  all_goals
                    go_end0
                    exact ⟨rfl, d2, S2.out, HF.out⟩
            · have HMa : Hid (Mgd T a mid d1 d1) := Mgd.self (mid_self hx1 ls1 HM5.out.1 HM5.out.2.1)
              have S2 : Aside (SWK enc kc w0 blk off d1 w1) := S1.out
              have hx1i : ¬ ((a : Int) < (s : Int) ∧ (s : Int) < (mid : Int)) := by omega
              clear S1
              by_cases hx1c : a < s
              · have hx1d : ¬ (s : Int) < (mid : Int) := by omega
                have hd2 := HMa.out.size
                have HS2 : Hid (Srt T (fA d1) mid e ∧ Srt T (fA d1) e b ∧ Ag T cf (fA d1) mid e b) := ⟨Srt_same HM5.out.2.2.1 fun x q1 q2 => HMa.out.shuf.out (by omega), Srt_same HM5.out.2.2.2.1 fun x q1 q2 => HMa.out.shuf.out (by omega), HG2.out.2.same (fun x q1 q2 => HMa.out.shuf.out (by omega)) (by omega) (by omega)⟩
                by_cases hx2 : mid < e ∧ e < b
                · obtain ⟨hx2a, hx2b⟩ := hx2
                  have HC2 := Lib.hid (IH.out (b - mid) (by omega) mid e b d1 w1 rfl (by omega) S2.out hx2a hx2b (by omega) HS2.out.1 HS2.out.2.1 HS2.out.2.2)
                  rw [hd2, hd1] at HC2
                  go_wp2_with fail
                  all_goals
                    go_at_call 177
                    refine HC2.out.mono ?_
                    rintro e9 w3 ⟨rfl, d3, S3, h3⟩
                    go_wp2
                    go_end0
                    exact ⟨rfl, d3, S3, sym_fin HR.out HMa.out h3 ls1 ls2 le1 le2 (by omega) (by omega) HM5.out.2.2.2.2⟩
                · have hfin := sym_fin HR.out HMa.out (Mgd.self (mid_self hx2 (by omega) HS2.out.1 HS2.out.2.1)) ls1 ls2 le1 le2 (by omega) (by omega) HM5.out.2.2.2.2
                  have HF : Hid _ := hfin
                  have hx2c : mid < e → b ≤ e := fun q => by omega
                  clear hfin
                  by_cases hx2d : mid < e
                  · have hx2e : ¬ (e : Int) < (b : Int) := by omega
                    go_wp2
                    all_goals
                      go_end0
                      exact ⟨rfl, d1, S2.out, HF.out⟩
                  · have hx2e : ¬ (mid : Int) < (e : Int) := by omega
                    go_wp2
                    all_goals
                      go_end0
                      exact ⟨rfl, d1, S2.out, HF.out⟩
              · have hx1d : ¬ (a : Int) < (s : Int) := by omega
                have hd2 := HMa.out.size
                have HS2 : Hid (Srt T (fA d1) mid e ∧ Srt T (fA d1) e b ∧ Ag T cf (fA d1) mid e b) := ⟨Srt_same HM5.out.2.2.1 fun x q1 q2 => HMa.out.shuf.out (by omega), Srt_same HM5.out.2.2.2.1 fun x q1 q2 => HMa.out.shuf.out (by omega), HG2.out.2.same (fun x q1 q2 => HMa.out.shuf.out (by omega)) (by omega) (by omega)⟩
                by_cases hx2 : mid < e ∧ e < b
                · obtain ⟨hx2a, hx2b⟩ := hx2
                  have HC2 := Lib.hid (IH.out (b - mid) (by omega) mid e b d1 w1 rfl (by omega) S2.out hx2a hx2b (by omega) HS2.out.1 HS2.out.2.1 HS2.out.2.2)
                  rw [hd2, hd1] at HC2
                  go_wp2_with fail
                  all_goals
                    go_at_call 177
                    refine HC2.out.mono ?_
                    rintro e9 w3 ⟨rfl, d3, S3, h3⟩
                    go_wp2
                    go_end0
                    exact ⟨rfl, d3, S3, sym_fin HR.out HMa.out h3 ls1 ls2 le1 le2 (by omega) (by omega) HM5.out.2.2.2.2⟩
                · have hfin := sym_fin HR.out HMa.out (Mgd.self (mid_self hx2 (by omega) HS2.out.1 HS2.out.2.1)) ls1 ls2 le1 le2 (by omega) (by omega) HM5.out.2.2.2.2
                  have HF : Hid _ := hfin
                  have hx2c : mid < e → b ≤ e := fun q => by omega
                  clear hfin
                  by_cases hx2d : mid < e
                  · have hx2e : ¬ (e : Int) < (b : Int) := by omega
                    go_wp2
                    all_goals
                      go_end0
                      exact ⟨rfl, d1, S2.out, HF.out⟩
                  · have hx2e : ¬ (mid : Int) < (e : Int) := by omega
                    go_wp2
                    all_goals
                      go_end0
                      exact ⟨rfl, d1, S2.out, HF.out⟩
  · have hci : ¬ (mid : Int) < (m : Int) := by omega
    obtain ⟨s0, hs0⟩ : ∃ q, q = a := ⟨_, rfl⟩
    obtain ⟨r0, hr0⟩ : ∃ q, q = m := ⟨_, rfl⟩
    have hs0r : s0 ≤ r0 := by omega
    have has0 : a ≤ s0 := by omega
    have hr0m : r0 ≤ m := by omega
    have HQ : Hid (∀ c, s0 ≤ c → c < r0 → m + c ≤ p ∧ p < b + c) := fun c q1 q2 => by omega
    have HE : Hid (∀ s e, s0 ≤ s → s ≤ r0 → n - s = e → m ≤ e ∧ e ≤ b ∧ s + e = mid + m ∧ s ≤ n) := fun s e q1 q2 q3 => by omega
    have HKf : Hid (∀ s e, s0 ≤ s → s ≤ r0 → n - s = e → ((s = s0 ∨ ¬ T (fA d (p - (s - 1))) (fA d (s - 1))) ∧ (s = r0 ∨ T (fA d (p - s)) (fA d s))) → ((s = a ∨ e = b ∨ ¬ T (fA d e) (fA d (s - 1))) ∧ (s = m ∨ e = m ∨ T (fA d (e - 1)) (fA d s)))) := fun s e q1 q2 q3 q4 => by
      refine ⟨?_, ?_⟩
      · rcases q4.1 with q | q
        · exact .inl (by omega)
        · by_cases q5 : s = s0
          · exact .inl (by omega)
          · rw [show p - (s - 1) = e by omega] at q
            exact .inr (.inr q)
      · rcases q4.2 with q | q
        · exact .inl (by omega)
        · rw [show p - s = e - 1 by omega] at q
          exact .inr (.inr q)
    go_enter Tryz.func177, Tryz.ntmps177
    go_wp2_with fail
    clear ena ena' enb enb' emid
    go_loopg [20, 21] (m - a) (fun kx s20 s21 wr => ∃ s r : Nat, s20 = .int .i64 (s : Int) ∧ s21 = .int .i64 (r : Int) ∧ s0 ≤ s ∧ s ≤ r ∧ r ≤ r0 ∧ r - s ≤ kx ∧ Aside (SWK enc kc w0 blk off d wr) ∧ Hid ((s = s0 ∨ ¬ T (fA d (p - (s - 1))) (fA d (s - 1))) ∧ (r = r0 ∨ T (fA d (p - r)) (fA d r))))
    case atStart => exact ⟨s0, r0, by rw [hs0], by rw [hr0], Nat.le_refl _, hs0r, Nat.le_refl _, by omega, S0, ⟨.inl rfl, .inl rfl⟩⟩
    case round =>
      clear S0
      obtain ⟨s, r, rfl, rfl, hs, hsr, hrr, hkx, S1, HX⟩ := hrel
      by_cases hlt : s < r
      · as_aux_lemma =>
        obtain ⟨h, hh⟩ : ∃ q, (s + r) / 2 = q := ⟨_, rfl⟩
        have eh : (((s : Nat) : Int) + ((r : Nat) : Int)) / 2 = (h : Int) := by omega
        have lh1 : s ≤ h := by omega
        have lh2 : h < r := by omega
        clear hh
        obtain ⟨hq1, hq2⟩ := HQ.out h (by omega) (by omega)
        obtain ⟨ph, hph⟩ : ∃ q, p - h = q := ⟨_, rfl⟩
        have eph : (p : Int) - (h : Int) = (ph : Int) := by omega
        have hph1 : m ≤ ph := by omega
        have hph2 : ph < b := by omega
        by_cases hlv : cf (d[ph]!) (d[h]!) < 0
        · have HX2 : Hid ((s = s0 ∨ ¬ T (fA d (p - (s - 1))) (fA d (s - 1))) ∧ (h = r0 ∨ T (fA d (p - h)) (fA d h))) := ⟨HX.out.1, .inr (by rw [hph]; exact (HA.out h ph (by omega) (by omega) (by omega) (by omega)).1 hlv)⟩
          obtain ⟨iN, hiN⟩ : ∃ q, q = ph := ⟨_, rfl⟩
          obtain ⟨jN, hjN⟩ : ∃ q, q = h := ⟨_, rfl⟩
          have ea : ((ph : Int)).toNat = iN := by omega
          have pa : (0 : Int) ≤ (ph : Int) := by omega
          have ba : (ph : Int) < (d.size : Int) := by omega
          have ra : IntKind.i64.wrap ((ph : Int)) = (ph : Int) := by rw [IntKind.wrap_i64]; omega
          have ec : ((h : Int)).toNat = jN := by omega
          have pc : (0 : Int) ≤ (h : Int) := by omega
          have bc : (h : Int) < (d.size : Int) := by omega
          have rc : IntKind.i64.wrap ((h : Int)) = (h : Int) := by rw [IntKind.wrap_i64]; omega
          obtain ⟨x9, hx9⟩ : ∃ x, x = d[ph]! := ⟨_, rfl⟩
          obtain ⟨y9, hy9⟩ : ∃ x, x = d[h]! := ⟨_, rfl⟩
          have l9a := S1.out.ld R (by omega) Tryz.prog (ph) (by omega)
          have l9b := S1.out.ld R (by omega) Tryz.prog (h) (by omega)
          rw [← hx9, ← hiN] at l9a
          rw [← hy9, ← hjN] at l9b
          have hc9 := S1.out.cmp HC.out (by omega) x9 y9
          have hv9 : cf x9 y9 < 0 := by rw [hx9, hy9]; exact hlv
          have hd9 : decide (cf x9 y9 < 0) = true := decide_eq_true hv9
          clear hx9 hy9 hiN hjN hlv
          go_wp2_with fail
          go_quiet_grown (first | (go_at_fn g; refine Calls.grown_of (hc9 _ _)))
          have S2 : Aside (SWK enc kc w0 blk off d (grow (wr.drewN nq) osq)) := S1.out.grown nq osq
          clear l9a l9b hc9 S1
          generalize grow (wr.drewN nq) osq = w2 at S2 ⊢
          clear nq osq
          clear ea ec
          go_wp2
          go_roundg (h - s)
          case measure => omega
          case rel => exact ⟨s, h, rfl, rfl, hs, by omega, by omega, Nat.le_refl _, S2, HX2⟩
        · have HX2 : Hid ((h + 1 = s0 ∨ ¬ T (fA d (p - (h + 1 - 1))) (fA d (h + 1 - 1))) ∧ (r = r0 ∨ T (fA d (p - r)) (fA d r))) := ⟨.inr (by rw [Nat.add_sub_cancel, hph]; exact fun hh => hlv ((HA.out h ph (by omega) (by omega) (by omega) (by omega)).2 hh)), HX.out.2⟩
          obtain ⟨iN, hiN⟩ : ∃ q, q = ph := ⟨_, rfl⟩
          obtain ⟨jN, hjN⟩ : ∃ q, q = h := ⟨_, rfl⟩
          have ea : ((ph : Int)).toNat = iN := by omega
          have pa : (0 : Int) ≤ (ph : Int) := by omega
          have ba : (ph : Int) < (d.size : Int) := by omega
          have ra : IntKind.i64.wrap ((ph : Int)) = (ph : Int) := by rw [IntKind.wrap_i64]; omega
          have ec : ((h : Int)).toNat = jN := by omega
          have pc : (0 : Int) ≤ (h : Int) := by omega
          have bc : (h : Int) < (d.size : Int) := by omega
          have rc : IntKind.i64.wrap ((h : Int)) = (h : Int) := by rw [IntKind.wrap_i64]; omega
          obtain ⟨x9, hx9⟩ : ∃ x, x = d[ph]! := ⟨_, rfl⟩
          obtain ⟨y9, hy9⟩ : ∃ x, x = d[h]! := ⟨_, rfl⟩
          have l9a := S1.out.ld R (by omega) Tryz.prog (ph) (by omega)
          have l9b := S1.out.ld R (by omega) Tryz.prog (h) (by omega)
          rw [← hx9, ← hiN] at l9a
          rw [← hy9, ← hjN] at l9b
          have hc9 := S1.out.cmp HC.out (by omega) x9 y9
          have hv9 : ¬ cf x9 y9 < 0 := by rw [hx9, hy9]; exact hlv
          have hd9 : decide (cf x9 y9 < 0) = false := decide_eq_false hv9
          clear hx9 hy9 hiN hjN hlv
          go_wp2_with fail
          go_quiet_grown (first | (go_at_fn g; refine Calls.grown_of (hc9 _ _)))
          have S2 : Aside (SWK enc kc w0 blk off d (grow (wr.drewN nq) osq)) := S1.out.grown nq osq
          clear l9a l9b hc9 S1
          generalize grow (wr.drewN nq) osq = w2 at S2 ⊢
          clear nq osq
          clear ea ec
          go_wp2
          go_roundg (r - (h + 1))
          case measure => omega
          case rel => exact ⟨h + 1, r, by go_num, rfl, by omega, by omega, hrr, Nat.le_refl _, S2, HX2⟩
      · as_aux_lemma =>
        obtain rfl : s = r := by omega
        obtain ⟨e, he⟩ : ∃ q, n - s = q := ⟨_, rfl⟩
        obtain ⟨le1, le2, hse, hsn⟩ : m ≤ e ∧ e ≤ b ∧ s + e = mid + m ∧ s ≤ n := HE.out s e hs hrr he
        have ee : (n : Int) - (s : Int) = (e : Int) := by omega
        have ls1 : a ≤ s := by omega
        have ls2 : s ≤ m := by omega
        have HK : Hid ((s = a ∨ e = b ∨ ¬ T (fA d e) (fA d (s - 1))) ∧ (s = m ∨ e = m ∨ T (fA d (e - 1)) (fA d s))) := HKf.out s e hs hrr he HX.out
        clear HX HQ HE HKf
        by_cases hro : s < m ∧ m < e
        · obtain ⟨hro1, hro2⟩ := hro
          have HCr := Lib.hid (rotR_any enc kc aE zE g cb blk off cap s m e d0 d w0 wr R hs' S1.out hro1 hro2 (by omega) (by omega))
          go_wp2_with fail
          go_at_call 208
          refine HCr.out.mono ?_
          rintro e9 w1 ⟨rfl, d1, S1', hR'⟩
          have HR : Hid (RotR s m e d d1) := hR'
          clear S1 HCr hR'
          have S1 : Aside (SWK enc kc w0 blk off d1 w1) := S1'
          clear S1'
          have hmid5 := sym_mid hT H1.out H2.out (by omega) (by omega) ls1 ls2 le1 le2 hse (by omega) (by omega) HK.out.1 HK.out.2 HR.out.at'
          have hag2 := mid_ag HR.out.at' HA.out ls1 ls2 le1 le2 hse
          have HM5 : Hid _ := hmid5
          have HG2 : Hid _ := hag2
          clear hmid5 hag2
          have hd1 := HR.out.size
          by_cases hx1 : a < s ∧ s < mid
          · obtain ⟨hx1a, hx1b⟩ := hx1
            have HC1 := Lib.hid (IH.out (mid - a) (by omega) a s mid d1 w1 rfl (by omega) S1.out hx1a hx1b (by omega) HM5.out.1 HM5.out.2.1 HG2.out.1)
            rw [hd1] at HC1
            go_wp2_with fail
            go_at_call 177
            refine HC1.out.mono ?_
            rintro e9 w2 ⟨rfl, d2, S2', h2'⟩
            have S2 : Aside (SWK enc kc w0 blk off d2 w2) := S2'
            have HMa : Hid (Mgd T a mid d1 d2) := h2'
            clear S2' h2' HC1 S1
            have hd2 := HMa.out.size
            have HS2 : Hid (Srt T (fA d2) mid e ∧ Srt T (fA d2) e b ∧ Ag T cf (fA d2) mid e b) := ⟨Srt_same HM5.out.2.2.1 fun x q1 q2 => HMa.out.shuf.out (by omega), Srt_same HM5.out.2.2.2.1 fun x q1 q2 => HMa.out.shuf.out (by omega), HG2.out.2.same (fun x q1 q2 => HMa.out.shuf.out (by omega)) (by omega) (by omega)⟩
            by_cases hx2 : mid < e ∧ e < b
            · obtain ⟨hx2a, hx2b⟩ := hx2
              have HC2 := Lib.hid (IH.out (b - mid) (by omega) mid e b d2 w2 rfl (by omega) S2.out hx2a hx2b (by omega) HS2.out.1 HS2.out.2.1 HS2.out.2.2)
              rw [hd2, hd1] at HC2
              go_wp2_with fail
              all_goals
                go_at_call 177
                refine HC2.out.mono ?_
                rintro e9 w3 ⟨rfl, d3, S3, h3⟩
                go_wp2
                go_end0
                exact ⟨rfl, d3, S3, sym_fin HR.out HMa.out h3 ls1 ls2 le1 le2 (by omega) (by omega) HM5.out.2.2.2.2⟩
            · have hfin := sym_fin HR.out HMa.out (Mgd.self (mid_self hx2 (by omega) HS2.out.1 HS2.out.2.1)) ls1 ls2 le1 le2 (by omega) (by omega) HM5.out.2.2.2.2
              have HF : Hid _ := hfin
              have hx2c : mid < e → b ≤ e := fun q => by omega
              clear hfin
              by_cases hx2d : mid < e
              · have hx2e : ¬ (e : Int) < (b : Int) := by omega
                go_wp2
                all_goals
                  go_end0
                  exact ⟨rfl, d2, S2.out, HF.out⟩
              · have hx2e : ¬ (mid : Int) < (e : Int) := by omega
                go_wp2
                all_goals
                  go_end0
                  exact ⟨rfl, d2, S2.out, HF.out⟩
          · have HMa : Hid (Mgd T a mid d1 d1) := Mgd.self (mid_self hx1 ls1 HM5.out.1 HM5.out.2.1)
            have S2 : Aside (SWK enc kc w0 blk off d1 w1) := S1.out
            have hx1i : ¬ ((a : Int) < (s : Int) ∧ (s : Int) < (mid : Int)) := by omega
            clear S1
            by_cases hx1c : a < s
            · have hx1d : ¬ (s : Int) < (mid : Int) := by omega
              have hd2 := HMa.out.size
              have HS2 : Hid (Srt T (fA d1) mid e ∧ Srt T (fA d1) e b ∧ Ag T cf (fA d1) mid e b) := ⟨Srt_same HM5.out.2.2.1 fun x q1 q2 => HMa.out.shuf.out (by omega), Srt_same HM5.out.2.2.2.1 fun x q1 q2 => HMa.out.shuf.out (by omega), HG2.out.2.same (fun x q1 q2 => HMa.out.shuf.out (by omega)) (by omega) (by omega)⟩
              by_cases hx2 : mid < e ∧ e < b
              · obtain ⟨hx2a, hx2b⟩ := hx2
                have HC2 := Lib.hid (IH.out (b - mid) (by omega) mid e b d1 w1 rfl (by omega) S2.out hx2a hx2b (by omega) HS2.out.1 HS2.out.2.1 HS2.out.2.2)
                rw [hd2, hd1] at HC2
                go_wp2_with fail
                all_goals
                  go_at_call 177
                  refine HC2.out.mono ?_
                  rintro e9 w3 ⟨rfl, d3, S3, h3⟩
                  go_wp2
                  go_end0
                  exact ⟨rfl, d3, S3, sym_fin HR.out HMa.out h3 ls1 ls2 le1 le2 (by omega) (by omega) HM5.out.2.2.2.2⟩
              · have hfin := sym_fin HR.out HMa.out (Mgd.self (mid_self hx2 (by omega) HS2.out.1 HS2.out.2.1)) ls1 ls2 le1 le2 (by omega) (by omega) HM5.out.2.2.2.2
                have HF : Hid _ := hfin
                have hx2c : mid < e → b ≤ e := fun q => by omega
                clear hfin
                by_cases hx2d : mid < e
                · have hx2e : ¬ (e : Int) < (b : Int) := by omega
                  go_wp2
                  all_goals
                    go_end0
                    exact ⟨rfl, d1, S2.out, HF.out⟩
                · have hx2e : ¬ (mid : Int) < (e : Int) := by omega
                  go_wp2
                  all_goals
                    go_end0
                    exact ⟨rfl, d1, S2.out, HF.out⟩
            · have hx1d : ¬ (a : Int) < (s : Int) := by omega
              have hd2 := HMa.out.size
              have HS2 : Hid (Srt T (fA d1) mid e ∧ Srt T (fA d1) e b ∧ Ag T cf (fA d1) mid e b) := ⟨Srt_same HM5.out.2.2.1 fun x q1 q2 => HMa.out.shuf.out (by omega), Srt_same HM5.out.2.2.2.1 fun x q1 q2 => HMa.out.shuf.out (by omega), HG2.out.2.same (fun x q1 q2 => HMa.out.shuf.out (by omega)) (by omega) (by omega)⟩
              by_cases hx2 : mid < e ∧ e < b
              · obtain ⟨hx2a, hx2b⟩ := hx2
                have HC2 := Lib.hid (IH.out (b - mid) (by omega) mid e b d1 w1 rfl (by omega) S2.out hx2a hx2b (by omega) HS2.out.1 HS2.out.2.1 HS2.out.2.2)
                rw [hd2, hd1] at HC2
                go_wp2_with fail
                all_goals
                  go_at_call 177
                  refine HC2.out.mono ?_
                  rintro e9 w3 ⟨rfl, d3, S3, h3⟩
                  go_wp2
                  go_end0
                  exact ⟨rfl, d3, S3, sym_fin HR.out HMa.out h3 ls1 ls2 le1 le2 (by omega) (by omega) HM5.out.2.2.2.2⟩
              · have hfin := sym_fin HR.out HMa.out (Mgd.self (mid_self hx2 (by omega) HS2.out.1 HS2.out.2.1)) ls1 ls2 le1 le2 (by omega) (by omega) HM5.out.2.2.2.2
                have HF : Hid _ := hfin
                have hx2c : mid < e → b ≤ e := fun q => by omega
                clear hfin
                by_cases hx2d : mid < e
                · have hx2e : ¬ (e : Int) < (b : Int) := by omega
                  go_wp2
                  all_goals
                    go_end0
                    exact ⟨rfl, d1, S2.out, HF.out⟩
                · have hx2e : ¬ (mid : Int) < (e : Int) := by omega
                  go_wp2
                  all_goals
                    go_end0
                    exact ⟨rfl, d1, S2.out, HF.out⟩
        · have HR : Hid (RotR s m e d d) := by
            by_cases q : s < m
            · obtain rfl : m = e := by omega
              exact RotR.self' s m d
            · obtain rfl : s = m := by omega
              exact RotR.self s e d (by omega)
          obtain ⟨w1, hw1⟩ : ∃ W, wr = W := ⟨_, rfl⟩
          obtain ⟨d1, hd1e⟩ : ∃ D, d = D := ⟨_, rfl⟩
          have S1c : Aside (SWK enc kc w0 blk off d1 w1) := by rw [← hw1, ← hd1e]; exact S1.out
          clear S1
          have S1 := S1c
          clear S1c
          have HRc : Hid (RotR s m e d d1) := by rw [← hd1e]; exact HR.out
          clear HR
          have HR := HRc
          clear HRc hd1e
          rw [hw1]
          clear hw1
          by_cases hroa : s < m
          · have hrob : ¬ (m : Int) < (e : Int) := by omega
            have hmid5 := sym_mid hT H1.out H2.out (by omega) (by omega) ls1 ls2 le1 le2 hse (by omega) (by omega) HK.out.1 HK.out.2 HR.out.at'
            have hag2 := mid_ag HR.out.at' HA.out ls1 ls2 le1 le2 hse
            have HM5 : Hid _ := hmid5
            have HG2 : Hid _ := hag2
            clear hmid5 hag2
            have hd1 := HR.out.size
            by_cases hx1 : a < s ∧ s < mid
            · obtain ⟨hx1a, hx1b⟩ := hx1
              have HC1 := Lib.hid (IH.out (mid - a) (by omega) a s mid d1 w1 rfl (by omega) S1.out hx1a hx1b (by omega) HM5.out.1 HM5.out.2.1 HG2.out.1)
              rw [hd1] at HC1
              go_wp2_with fail
              go_at_call 177
              refine HC1.out.mono ?_
              rintro e9 w2 ⟨rfl, d2, S2', h2'⟩
              have S2 : Aside (SWK enc kc w0 blk off d2 w2) := S2'
              have HMa : Hid (Mgd T a mid d1 d2) := h2'
              clear S2' h2' HC1 S1
              have hd2 := HMa.out.size
              have HS2 : Hid (Srt T (fA d2) mid e ∧ Srt T (fA d2) e b ∧ Ag T cf (fA d2) mid e b) := ⟨Srt_same HM5.out.2.2.1 fun x q1 q2 => HMa.out.shuf.out (by omega), Srt_same HM5.out.2.2.2.1 fun x q1 q2 => HMa.out.shuf.out (by omega), HG2.out.2.same (fun x q1 q2 => HMa.out.shuf.out (by omega)) (by omega) (by omega)⟩
              by_cases hx2 : mid < e ∧ e < b
              · obtain ⟨hx2a, hx2b⟩ := hx2
                have HC2 := Lib.hid (IH.out (b - mid) (by omega) mid e b d2 w2 rfl (by omega) S2.out hx2a hx2b (by omega) HS2.out.1 HS2.out.2.1 HS2.out.2.2)
                rw [hd2, hd1] at HC2
                go_wp2_with fail
                all_goals
                  go_at_call 177
                  refine HC2.out.mono ?_
                  rintro e9 w3 ⟨rfl, d3, S3, h3⟩
                  go_wp2
                  go_end0
                  exact ⟨rfl, d3, S3, sym_fin HR.out HMa.out h3 ls1 ls2 le1 le2 (by omega) (by omega) HM5.out.2.2.2.2⟩
              · have hfin := sym_fin HR.out HMa.out (Mgd.self (mid_self hx2 (by omega) HS2.out.1 HS2.out.2.1)) ls1 ls2 le1 le2 (by omega) (by omega) HM5.out.2.2.2.2
                have HF : Hid _ := hfin
                have hx2c : mid < e → b ≤ e := fun q => by omega
                clear hfin
                by_cases hx2d : mid < e
                · have hx2e : ¬ (e : Int) < (b : Int) := by omega
                  go_wp2
                  all_goals
                    go_end0
                    exact ⟨rfl, d2, S2.out, HF.out⟩
                · have hx2e : ¬ (mid : Int) < (e : Int) := by omega
                  go_wp2
                  all_goals
                    go_end0
                    exact ⟨rfl, d2, S2.out, HF.out⟩
            · have HMa : Hid (Mgd T a mid d1 d1) := Mgd.self (mid_self hx1 ls1 HM5.out.1 HM5.out.2.1)
              have S2 : Aside (SWK enc kc w0 blk off d1 w1) := S1.out
              have hx1i : ¬ ((a : Int) < (s : Int) ∧ (s : Int) < (mid : Int)) := by omega
              clear S1
              by_cases hx1c : a < s
              · have hx1d : ¬ (s : Int) < (mid : Int) := by omega
                have hd2 := HMa.out.size
                have HS2 : Hid (Srt T (fA d1) mid e ∧ Srt T (fA d1) e b ∧ Ag T cf (fA d1) mid e b) := ⟨Srt_same HM5.out.2.2.1 fun x q1 q2 => HMa.out.shuf.out (by omega), Srt_same HM5.out.2.2.2.1 fun x q1 q2 => HMa.out.shuf.out (by omega), HG2.out.2.same (fun x q1 q2 => HMa.out.shuf.out (by omega)) (by omega) (by omega)⟩
                by_cases hx2 : mid < e ∧ e < b
                · obtain ⟨hx2a, hx2b⟩ := hx2
                  have HC2 := Lib.hid (IH.out (b - mid) (by omega) mid e b d1 w1 rfl (by omega) S2.out hx2a hx2b (by omega) HS2.out.1 HS2.out.2.1 HS2.out.2.2)
                  rw [hd2, hd1] at HC2
                  go_wp2_with fail
                  all_goals
                    go_at_call 177
                    refine HC2.out.mono ?_
                    rintro e9 w3 ⟨rfl, d3, S3, h3⟩
                    go_wp2
                    go_end0
                    exact ⟨rfl, d3, S3, sym_fin HR.out HMa.out h3 ls1 ls2 le1 le2 (by omega) (by omega) HM5.out.2.2.2.2⟩
                · have hfin := sym_fin HR.out HMa.out (Mgd.self (mid_self hx2 (by omega) HS2.out.1 HS2.out.2.1)) ls1 ls2 le1 le2 (by omega) (by omega) HM5.out.2.2.2.2
                  have HF : Hid _ := hfin
                  have hx2c : mid < e → b ≤ e := fun q => by omega
                  clear hfin
                  by_cases hx2d : mid < e
                  · have hx2e : ¬ (e : Int) < (b : Int) := by omega
                    go_wp2
                    all_goals
                      go_end0
                      exact ⟨rfl, d1, S2.out, HF.out⟩
                  · have hx2e : ¬ (mid : Int) < (e : Int) := by omega
                    go_wp2
                    all_goals
                      go_end0
                      exact ⟨rfl, d1, S2.out, HF.out⟩
              · have hx1d : ¬ (a : Int) < (s : Int) := by omega
                have hd2 := HMa.out.size
                have HS2 : Hid (Srt T (fA d1) mid e ∧ Srt T (fA d1) e b ∧ Ag T cf (fA d1) mid e b) := ⟨Srt_same HM5.out.2.2.1 fun x q1 q2 => HMa.out.shuf.out (by omega), Srt_same HM5.out.2.2.2.1 fun x q1 q2 => HMa.out.shuf.out (by omega), HG2.out.2.same (fun x q1 q2 => HMa.out.shuf.out (by omega)) (by omega) (by omega)⟩
                by_cases hx2 : mid < e ∧ e < b
                · obtain ⟨hx2a, hx2b⟩ := hx2
                  have HC2 := Lib.hid (IH.out (b - mid) (by omega) mid e b d1 w1 rfl (by omega) S2.out hx2a hx2b (by omega) HS2.out.1 HS2.out.2.1 HS2.out.2.2)
                  rw [hd2, hd1] at HC2
                  go_wp2_with fail
                  all_goals
                    go_at_call 177
                    refine HC2.out.mono ?_
                    rintro e9 w3 ⟨rfl, d3, S3, h3⟩
                    go_wp2
                    go_end0
                    exact ⟨rfl, d3, S3, sym_fin HR.out HMa.out h3 ls1 ls2 le1 le2 (by omega) (by omega) HM5.out.2.2.2.2⟩
                · have hfin := sym_fin HR.out HMa.out (Mgd.self (mid_self hx2 (by omega) HS2.out.1 HS2.out.2.1)) ls1 ls2 le1 le2 (by omega) (by omega) HM5.out.2.2.2.2
                  have HF : Hid _ := hfin
                  have hx2c : mid < e → b ≤ e := fun q => by omega
                  clear hfin
                  by_cases hx2d : mid < e
                  · have hx2e : ¬ (e : Int) < (b : Int) := by omega
                    go_wp2
                    all_goals
                      go_end0
                      exact ⟨rfl, d1, S2.out, HF.out⟩
                  · have hx2e : ¬ (mid : Int) < (e : Int) := by omega
                    go_wp2
                    all_goals
                      go_end0
                      exact ⟨rfl, d1, S2.out, HF.out⟩
          · have hrob : ¬ (s : Int) < (m : Int) := by omega
            have hmid5 := sym_mid hT H1.out H2.out (by omega) (by omega) ls1 ls2 le1 le2 hse (by omega) (by omega) HK.out.1 HK.out.2 HR.out.at'
            have hag2 := mid_ag HR.out.at' HA.out ls1 ls2 le1 le2 hse
            have HM5 : Hid _ := hmid5
            have HG2 : Hid _ := hag2
            clear hmid5 hag2
            have hd1 := HR.out.size
            by_cases hx1 : a < s ∧ s < mid
            · obtain ⟨hx1a, hx1b⟩ := hx1
              have HC1 := Lib.hid (IH.out (mid - a) (by omega) a s mid d1 w1 rfl (by omega) S1.out hx1a hx1b (by omega) HM5.out.1 HM5.out.2.1 HG2.out.1)
              rw [hd1] at HC1
              go_wp2_with fail
              go_at_call 177
              refine HC1.out.mono ?_
              rintro e9 w2 ⟨rfl, d2, S2', h2'⟩
              have S2 : Aside (SWK enc kc w0 blk off d2 w2) := S2'
              have HMa : Hid (Mgd T a mid d1 d2) := h2'
              clear S2' h2' HC1 S1
              have hd2 := HMa.out.size
              have HS2 : Hid (Srt T (fA d2) mid e ∧ Srt T (fA d2) e b ∧ Ag T cf (fA d2) mid e b) := ⟨Srt_same HM5.out.2.2.1 fun x q1 q2 => HMa.out.shuf.out (by omega), Srt_same HM5.out.2.2.2.1 fun x q1 q2 => HMa.out.shuf.out (by omega), HG2.out.2.same (fun x q1 q2 => HMa.out.shuf.out (by omega)) (by omega) (by omega)⟩
              by_cases hx2 : mid < e ∧ e < b
              · obtain ⟨hx2a, hx2b⟩ := hx2
                have HC2 := Lib.hid (IH.out (b - mid) (by omega) mid e b d2 w2 rfl (by omega) S2.out hx2a hx2b (by omega) HS2.out.1 HS2.out.2.1 HS2.out.2.2)
                rw [hd2, hd1] at HC2
                go_wp2_with fail
                all_goals
                  go_at_call 177
                  refine HC2.out.mono ?_
                  rintro e9 w3 ⟨rfl, d3, S3, h3⟩
                  go_wp2
                  go_end0
                  exact ⟨rfl, d3, S3, sym_fin HR.out HMa.out h3 ls1 ls2 le1 le2 (by omega) (by omega) HM5.out.2.2.2.2⟩
              · have hfin := sym_fin HR.out HMa.out (Mgd.self (mid_self hx2 (by omega) HS2.out.1 HS2.out.2.1)) ls1 ls2 le1 le2 (by omega) (by omega) HM5.out.2.2.2.2
                have HF : Hid _ := hfin
                have hx2c : mid < e → b ≤ e := fun q => by omega
                clear hfin
                by_cases hx2d : mid < e
                · have hx2e : ¬ (e : Int) < (b : Int) := by omega
                  go_wp2
                  all_goals
                    go_end0
                    exact ⟨rfl, d2, S2.out, HF.out⟩
                · have hx2e : ¬ (mid : Int) < (e : Int) := by omega
                  go_wp2
                  all_goals
                    go_end0
                    exact ⟨rfl, d2, S2.out, HF.out⟩
            · have HMa : Hid (Mgd T a mid d1 d1) := Mgd.self (mid_self hx1 ls1 HM5.out.1 HM5.out.2.1)
              have S2 : Aside (SWK enc kc w0 blk off d1 w1) := S1.out
              have hx1i : ¬ ((a : Int) < (s : Int) ∧ (s : Int) < (mid : Int)) := by omega
              clear S1
              by_cases hx1c : a < s
              · have hx1d : ¬ (s : Int) < (mid : Int) := by omega
                have hd2 := HMa.out.size
                have HS2 : Hid (Srt T (fA d1) mid e ∧ Srt T (fA d1) e b ∧ Ag T cf (fA d1) mid e b) := ⟨Srt_same HM5.out.2.2.1 fun x q1 q2 => HMa.out.shuf.out (by omega), Srt_same HM5.out.2.2.2.1 fun x q1 q2 => HMa.out.shuf.out (by omega), HG2.out.2.same (fun x q1 q2 => HMa.out.shuf.out (by omega)) (by omega) (by omega)⟩
                by_cases hx2 : mid < e ∧ e < b
                · obtain ⟨hx2a, hx2b⟩ := hx2
                  have HC2 := Lib.hid (IH.out (b - mid) (by omega) mid e b d1 w1 rfl (by omega) S2.out hx2a hx2b (by omega) HS2.out.1 HS2.out.2.1 HS2.out.2.2)
                  rw [hd2, hd1] at HC2
                  go_wp2_with fail
                  all_goals
                    go_at_call 177
                    refine HC2.out.mono ?_
                    rintro e9 w3 ⟨rfl, d3, S3, h3⟩
                    go_wp2
                    go_end0
                    exact ⟨rfl, d3, S3, sym_fin HR.out HMa.out h3 ls1 ls2 le1 le2 (by omega) (by omega) HM5.out.2.2.2.2⟩
                · have hfin := sym_fin HR.out HMa.out (Mgd.self (mid_self hx2 (by omega) HS2.out.1 HS2.out.2.1)) ls1 ls2 le1 le2 (by omega) (by omega) HM5.out.2.2.2.2
                  have HF : Hid _ := hfin
                  have hx2c : mid < e → b ≤ e := fun q => by omega
                  clear hfin
                  by_cases hx2d : mid < e
                  · have hx2e : ¬ (e : Int) < (b : Int) := by omega
                    go_wp2
                    all_goals
                      go_end0
                      exact ⟨rfl, d1, S2.out, HF.out⟩
                  · have hx2e : ¬ (mid : Int) < (e : Int) := by omega
                    go_wp2
                    all_goals
                      go_end0
                      exact ⟨rfl, d1, S2.out, HF.out⟩
              · have hx1d : ¬ (a : Int) < (s : Int) := by omega
                have hd2 := HMa.out.size
                have HS2 : Hid (Srt T (fA d1) mid e ∧ Srt T (fA d1) e b ∧ Ag T cf (fA d1) mid e b) := ⟨Srt_same HM5.out.2.2.1 fun x q1 q2 => HMa.out.shuf.out (by omega), Srt_same HM5.out.2.2.2.1 fun x q1 q2 => HMa.out.shuf.out (by omega), HG2.out.2.same (fun x q1 q2 => HMa.out.shuf.out (by omega)) (by omega) (by omega)⟩
                by_cases hx2 : mid < e ∧ e < b
                · obtain ⟨hx2a, hx2b⟩ := hx2
                  have HC2 := Lib.hid (IH.out (b - mid) (by omega) mid e b d1 w1 rfl (by omega) S2.out hx2a hx2b (by omega) HS2.out.1 HS2.out.2.1 HS2.out.2.2)
                  rw [hd2, hd1] at HC2
                  go_wp2_with fail
                  all_goals
                    go_at_call 177
                    refine HC2.out.mono ?_
                    rintro e9 w3 ⟨rfl, d3, S3, h3⟩
                    go_wp2
                    go_end0
                    exact ⟨rfl, d3, S3, sym_fin HR.out HMa.out h3 ls1 ls2 le1 le2 (by omega) (by omega) HM5.out.2.2.2.2⟩
                · have hfin := sym_fin HR.out HMa.out (Mgd.self (mid_self hx2 (by omega) HS2.out.1 HS2.out.2.1)) ls1 ls2 le1 le2 (by omega) (by omega) HM5.out.2.2.2.2
                  have HF : Hid _ := hfin
                  have hx2c : mid < e → b ≤ e := fun q => by omega
                  clear hfin
                  by_cases hx2d : mid < e
                  · have hx2e : ¬ (e : Int) < (b : Int) := by omega
                    go_wp2
                    all_goals
                      go_end0
                      exact ⟨rfl, d1, S2.out, HF.out⟩
                  · have hx2e : ¬ (mid : Int) < (e : Int) := by omega
                    go_wp2
                    all_goals
                      go_end0
                      exact ⟨rfl, d1, S2.out, HF.out⟩
end Sk
end Go.Proofs.YtphccomhggnccaaGreat
