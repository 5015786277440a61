/- slices.SortStableFunc at elements of k cells: insertionSort, stable. -/
import Derived.Test.YtphccomhggnccaaGreatSk2
import Derived.Test.YtphccomhggnccaaGreatSkA
namespace Go.Proofs.YtphccomhggnccaaGreat
set_option maxRecDepth 100000
open Go.Proofs
set_option linter.unusedVariables false
set_option linter.unusedSimpArgs false
set_option maxRecDepth 1000000
open Go.Shelf Go.RowKit Go.Lib Go.Sort St
namespace Sk
variable {α : Type} [Inhabited α]
set_option maxHeartbeats 16000000 in
theorem insS_any (enc : α → List Value) (kc : Nat) (aE : ∀ w, (isAgg 36).run Tryz.prog w = .ok true w) (zE : ∀ w, (Go.sizeOf 36).run Tryz.prog w = .ok kc w) (cf : α → α → Int) (T : α → α → Prop) (hT : Weak T) (g : Nat) (cb : Array Value) (blk off cap a b : Nat) (d0 d : Array α) (w0 w : World)
    (eg : ∀ args w, (callFunc g args).run Tryz.prog w = .ok (.enter g args) w) (hcmp : CmpLays Tryz.prog g cb enc kc cf blk off d0.size w0) (R : RowK enc kc w0 blk off d0) (hsz : d0.size < 2305843009213693952)
    (hs : d0.size = d.size) (S : SWK enc kc w0 blk off d w) (hab : a ≤ b) (hb : b ≤ d.size) (hag : ∀ i j, a ≤ i → i < j → j < b → (cf (fA d j) (fA d i) < 0 ↔ T (fA d j) (fA d i))) :
    Calls Tryz.prog 176 #[.slice (some ⟨blk, off, none⟩) d.size cap, .int .i64 (a : Int), .int .i64 (b : Int), .func (.func g) #[] cb] w fun e w' => e = .returned (.tuple #[]) ∧ ∃ dk, SWK enc kc w0 blk off dk w' ∧ Mgd T a b d dk := by
  have mixed : Tryz.prog.follows Departure.mixedOrders = true := by kernel_rfl
  have HC : Aside _ := hcmp
  have S0 : Aside (SWK enc kc w0 blk off d w) := S
  have HA : Hid _ := hag
  clear hcmp S hag
  go_enter Tryz.func176, Tryz.ntmps176
  go_wp2
  go_loopg [8] (b - a) (fun kx s8 wr => ∃ (i : Nat) (dk : Array α), s8 = .int .i64 (i : Int) ∧ a < i ∧ (i ≤ b ∨ i = a + 1) ∧ b - i ≤ kx ∧ Aside (SWK enc kc w0 blk off dk wr) ∧ Hid (Mgd T a i d dk) ∧ Hid (b ≤ a → dk = d))
  case atStart => exact ⟨a + 1, d, by go_num, by omega, .inr rfl, by omega, S0, Mgd.self fun i j _ _ _ => by omega, fun _ => rfl⟩
  case round =>
    clear S0
    obtain ⟨i, dk, rfl, hai, hib, hkx, S1, HM, HE⟩ := hrel
    have hds := HM.out.size
    by_cases hlt : i < b
    · have hlti : (i : Int) < (b : Int) := by omega
      go_wp2
      go_loopg [9] i (fun kx s9 wr => ∃ (j : Nat) (dj : Array α), s9 = .int .i64 (j : Int) ∧ a ≤ j ∧ j ≤ i ∧ j ≤ kx ∧ Aside (SWK enc kc w0 blk off dj wr) ∧ Hid (RotR j i (i + 1) dk dj) ∧ Hid (j = i ∨ T (fA dk i) (fA dk j)))
      case atStart => exact ⟨i, dk, rfl, by omega, Nat.le_refl _, Nat.le_refl _, S1, RotR.self i (i + 1) dk (by omega), .inl rfl⟩
      case round =>
        clear S1
        obtain ⟨j, dj, rfl, haj, hji, hkx2, S1, HR, HT⟩ := hrel
        have hdsj := HR.out.size
        have HOut : Hid ((j = a ∨ ¬ T (fA dk i) (fA dk (j - 1))) → Mgd T a (i + 1) d dj) := fun h1 => by
          refine ⟨by omega, ?_, ins_bwd hT HM.out.srt haj hji h1 HT.out HR.out.at'⟩
          exact (HM.out.shuf.mono (Nat.le_refl _) (by omega)).trans ((Shuf.of_rot hji (by omega) HR.out.at').mono haj (Nat.le_refl _))
        by_cases hja : a < j
        · obtain ⟨j1, rfl⟩ : ∃ q, j = q + 1 := ⟨j - 1, by omega⟩
          have hjad : decide ((j1 : Int) + 1 > (a : Int)) = true := decide_eq_true (by omega)
          have hjaz' : (a : Int) < (j1 : Int) + 1 := by omega
          have Hcf : Hid (cf (dj[j1 + 1]!) (dj[j1]!) < 0 ↔ T (fA dk i) (fA dk j1)) := by
            have q1 := HR.out.at' (j1 + 1)
            have q2 := HR.out.at' j1
            rw [rotIx_lo (x := j1 + 1) (Nat.le_refl _) (by omega) hji (by omega), show j1 + 1 + (i - (j1 + 1)) = i by omega] at q1
            rw [rotIx_out (a := j1 + 1) (m := i) (b := i + 1) (x := j1) (by omega)] at q2
            show cf (fA dj (j1 + 1)) (fA dj j1) < 0 ↔ _
            rw [q1, q2]
            obtain ⟨y, y1, y2, y3⟩ := HM.out.shuf.inn (x := j1) (by omega) (by omega)
            rw [y3, HM.out.shuf.out (x := i) (by omega)]
            exact HA.out y i y1 y2 hlt
          by_cases hlv : cf (dj[j1 + 1]!) (dj[j1]!) < 0
          · have HT2 : Hid (j1 = i ∨ T (fA dk i) (fA dk j1)) := .inr (Hcf.out.1 hlv)
            have HR2 : Hid (RotR j1 i (i + 1) dk (swp dj (j1 + 1) j1)) := HR.out.bwd hji (by omega)
            clear HR HT HOut Hcf
            obtain ⟨iN, hiN⟩ : ∃ q, q = j1 + 1 := ⟨_, rfl⟩
            obtain ⟨jN, hjN⟩ : ∃ q, q = j1 := ⟨_, rfl⟩
            have ea : ((j1 : Int) + 1).toNat = iN := by omega
            have pa : (0 : Int) ≤ (j1 : Int) + 1 := by omega
            have ba : (j1 : Int) + 1 < (d.size : Int) := by omega
            have ra : IntKind.i64.wrap ((j1 : Int) + 1) = (j1 : Int) + 1 := by rw [IntKind.wrap_i64]; omega
            have ec : ((j1 : Int)).toNat = jN := by omega
            have pc : (0 : Int) ≤ (j1 : Int) := by omega
            have bc : (j1 : Int) < (d.size : Int) := by omega
            have rc : IntKind.i64.wrap ((j1 : Int)) = (j1 : Int) := by rw [IntKind.wrap_i64]; omega
            obtain ⟨x9, hx9⟩ : ∃ x, x = dj[j1 + 1]! := ⟨_, rfl⟩
            obtain ⟨y9, hy9⟩ : ∃ x, x = dj[j1]! := ⟨_, rfl⟩
            have l9a := S1.out.ld R (by omega) Tryz.prog (j1 + 1) (by omega)
            have l9b := S1.out.ld R (by omega) Tryz.prog (j1) (by omega)
            rw [← hx9, ← hiN] at l9a
            rw [← hy9, ← hjN] at l9b
            have hc9 := S1.out.cmp HC.out (by omega) x9 y9
            have hv9 : cf x9 y9 < 0 := by rw [hx9, hy9]; exact hlv
            have hd9 : decide (cf x9 y9 < 0) = true := decide_eq_true hv9
            clear hx9 hy9 hiN hjN hlv
            go_wp2_with fail
            go_quiet_grown (first | (go_at_fn g; refine Calls.grown_of (hc9 _ _)))
            have S2 : Aside (SWK enc kc w0 blk off dj (grow (wr.drewN nq) osq)) := S1.out.grown nq osq
            clear l9a l9b hc9 S1
            generalize grow (wr.drewN nq) osq = w2 at S2 ⊢
            clear nq osq
            clear ea ec
            clear hv9 hd9
            go_wp2_with fail
            obtain ⟨iN, hiN⟩ : ∃ q, q = j1 + 1 := ⟨_, rfl⟩
            obtain ⟨jN, hjN⟩ : ∃ q, q = j1 := ⟨_, rfl⟩
            have ea : ((j1 : Int) + 1).toNat = iN := by omega
            have pa : (0 : Int) ≤ (j1 : Int) + 1 := by omega
            have ba : (j1 : Int) + 1 < (d.size : Int) := by omega
            have ra : IntKind.i64.wrap ((j1 : Int) + 1) = (j1 : Int) + 1 := by rw [IntKind.wrap_i64]; omega
            have ec : ((j1 : Int)).toNat = jN := by omega
            have pc : (0 : Int) ≤ (j1 : Int) := by omega
            have bc : (j1 : Int) < (d.size : Int) := by omega
            have rc : IntKind.i64.wrap ((j1 : Int)) = (j1 : Int) := by rw [IntKind.wrap_i64]; omega
            obtain ⟨x9, hx9⟩ : ∃ x, x = dj[j1 + 1]! := ⟨_, rfl⟩
            obtain ⟨y9, hy9⟩ : ∃ x, x = dj[j1]! := ⟨_, rfl⟩
            have S3 : Aside (SWK enc kc w0 blk off (swp dj (j1 + 1) (j1)) ((w2.drew.setCells blk (off + iN * kc) (enc y9)).setCells blk (off + jN * kc) (enc x9))) := by rw [hiN, hjN, hx9, hy9]; exact S2.out.swapped R (j1 + 1) (j1) (by omega) (by omega)
            have l9a := S2.out.ld1 R (by omega) Tryz.prog (j1 + 1) (by omega)
            have l9b := S2.out.ld1 R (by omega) Tryz.prog (j1) (by omega)
            have s9a := S2.out.st1 R (by omega) Tryz.prog (j1 + 1) (by omega) y9
            have s9b := S2.out.st2 R (by omega) Tryz.prog (j1 + 1) (j1) (by omega) (by omega) y9 x9
            have n9a : (enc x9).length = kc := R.hk _
            have n9b : (enc y9).length = kc := R.hk _
            rw [← hiN, ← hjN] at s9b
            rw [← hx9, ← hiN] at l9a
            rw [← hy9, ← hjN] at l9b
            rw [← hiN] at s9a
            generalize enc x9 = cI9 at *
            generalize enc y9 = cJ9 at *
            clear S2 hx9 hy9 hiN hjN
            go_wp2_with fail
            go_big_region_o
            clear l9a l9b s9a s9b
            generalize (w2.drew.setCells blk (off + iN * kc) cJ9).setCells blk (off + jN * kc) cI9 = w3 at S3 ⊢
            clear ea ec
            go_wp2
            go_roundg j1
            case measure => omega
            case rel => exact ⟨j1, _, by first | rfl | go_num, by omega, by omega, Nat.le_refl _, S3, HR2, HT2⟩
          · have HM2 : Hid (Mgd T a (i + 1) d dj) := HOut.out (.inr fun h => hlv (Hcf.out.2 h))
            clear HR HT HOut Hcf
            obtain ⟨iN, hiN⟩ : ∃ q, q = j1 + 1 := ⟨_, rfl⟩
            obtain ⟨jN, hjN⟩ : ∃ q, q = j1 := ⟨_, rfl⟩
            have ea : ((j1 : Int) + 1).toNat = iN := by omega
            have pa : (0 : Int) ≤ (j1 : Int) + 1 := by omega
            have ba : (j1 : Int) + 1 < (d.size : Int) := by omega
            have ra : IntKind.i64.wrap ((j1 : Int) + 1) = (j1 : Int) + 1 := by rw [IntKind.wrap_i64]; omega
            have ec : ((j1 : Int)).toNat = jN := by omega
            have pc : (0 : Int) ≤ (j1 : Int) := by omega
            have bc : (j1 : Int) < (d.size : Int) := by omega
            have rc : IntKind.i64.wrap ((j1 : Int)) = (j1 : Int) := by rw [IntKind.wrap_i64]; omega
            obtain ⟨x9, hx9⟩ : ∃ x, x = dj[j1 + 1]! := ⟨_, rfl⟩
            obtain ⟨y9, hy9⟩ : ∃ x, x = dj[j1]! := ⟨_, rfl⟩
            have l9a := S1.out.ld R (by omega) Tryz.prog (j1 + 1) (by omega)
            have l9b := S1.out.ld R (by omega) Tryz.prog (j1) (by omega)
            rw [← hx9, ← hiN] at l9a
            rw [← hy9, ← hjN] at l9b
            have hc9 := S1.out.cmp HC.out (by omega) x9 y9
            have hv9 : ¬ cf x9 y9 < 0 := by rw [hx9, hy9]; exact hlv
            have hd9 : decide (cf x9 y9 < 0) = false := decide_eq_false hv9
            clear hx9 hy9 hiN hjN hlv
            go_wp2_with fail
            go_quiet_grown (first | (go_at_fn g; refine Calls.grown_of (hc9 _ _)))
            have S2 : Aside (SWK enc kc w0 blk off dj (grow (wr.drewN nq) osq)) := S1.out.grown nq osq
            clear l9a l9b hc9 S1
            generalize grow (wr.drewN nq) osq = w2 at S2 ⊢
            clear nq osq
            clear ea ec
            go_wp2
            go_roundg (b - (i + 1))
            case measure => omega
            case rel => exact ⟨i + 1, dj, by go_num, by omega, .inl (by omega), Nat.le_refl _, S2, HM2, fun h => by omega⟩
        · have hjaz : decide ((j : Int) > (a : Int)) = false := decide_eq_false (by omega)
          have hjaz' : ¬ (a : Int) < (j : Int) := by omega
          have HM2 : Hid (Mgd T a (i + 1) d dj) := HOut.out (.inl (by omega))
          clear HR HT HOut
          go_wp2_with fail
          go_big_region_o
          have S2 : Aside (SWK enc kc w0 blk off dj wr.drew) := S1.out.drew
          clear S1
          generalize wr.drew = w2 at S2 ⊢
          go_wp2
          go_roundg (b - (i + 1))
          case measure => omega
          case rel => exact ⟨i + 1, dj, by go_num, by omega, .inl (by omega), Nat.le_refl _, S2, HM2, fun h => by omega⟩
    · have hltz : ¬ (i : Int) < (b : Int) := by omega
      go_wp2
      go_end0
      refine ⟨rfl, dk, S1.out, ?_⟩
      by_cases h1 : i = b
      · rw [← h1]; exact HM.out
      · have := HE.out (by omega)
        subst this
        exact Mgd.self fun i j _ _ _ => by omega
set_option maxHeartbeats 16000000 in
theorem stable_any (enc : α → List Value) (kc : Nat) (aE : ∀ w, (isAgg 36).run Tryz.prog w = .ok true w) (zE : ∀ w, (Go.sizeOf 36).run Tryz.prog w = .ok kc w) (cf : α → α → Int) (T : α → α → Prop) (hT : Weak T) (g : Nat) (cb : Array Value) (blk off cap : Nat) (d0 d : Array α) (w0 w : World)
    (eg : ∀ args w, (callFunc g args).run Tryz.prog w = .ok (.enter g args) w) (hcmp : CmpLays Tryz.prog g cb enc kc cf blk off d0.size w0) (R : RowK enc kc w0 blk off d0) (hsz : d0.size < 1152921504606846976) (hs : d0.size = d.size) (hn : 0 < d.size)
    (S : SWK enc kc w0 blk off d w) (hag : ∀ i j, i < j → j < d.size → (cf (fA d j) (fA d i) < 0 ↔ T (fA d j) (fA d i))) :
    Calls Tryz.prog 132 #[.slice (some ⟨blk, off, none⟩) d.size cap, .int .i64 (d.size : Int), .func (.func g) #[] cb] w fun e w' => e = .returned (.tuple #[]) ∧ ∃ dk, SWK enc kc w0 blk off dk w' ∧ Mgd T 0 d.size d dk := by
  obtain ⟨n, hnn⟩ : ∃ n, d.size = n := ⟨_, rfl⟩
  have Hin : Aside (∀ (dk : Array α) (W : World) (C : Nat → Prop) (a b : Nat), dk.size = n → SWK enc kc w0 blk off dk W → Run T n C (fA d) (fA dk) → a ≤ b → b ≤ n → (∀ c, a < c → c < b → C c) → Calls Tryz.prog 176 #[.slice (some ⟨blk, off, none⟩) n cap, .int .i64 (a : Int), .int .i64 (b : Int), .func (.func g) #[] cb] W fun e w' => e = .returned (.tuple #[]) ∧ ∃ dk', SWK enc kc w0 blk off dk' w' ∧ Mgd T a b dk dk') := fun dk W C a b h1 h2 h3 h4 h5 h6 => by
    have := insS_any enc kc aE zE cf T hT g cb blk off cap a b d0 dk w0 W eg hcmp R (by omega) (by omega) h2 h4 (by omega) fun i j q1 q2 q3 => h3.ag (cf := cf) (by rw [← hnn]; exact hag) (h6 j (by omega) q3) q2 (Nat.le_refl _) (by omega)
    rwa [h1] at this
  have Hsy : Aside (∀ (dk : Array α) (W : World) (C : Nat → Prop) (a m b : Nat), dk.size = n → SWK enc kc w0 blk off dk W → Run T n C (fA d) (fA dk) → a < m → m < b → b ≤ n → C m → Srt T (fA dk) a m → Srt T (fA dk) m b → Calls Tryz.prog 177 #[.slice (some ⟨blk, off, none⟩) n cap, .int .i64 (a : Int), .int .i64 (m : Int), .int .i64 (b : Int), .func (.func g) #[] cb] W fun e w' => e = .returned (.tuple #[]) ∧ ∃ dk', SWK enc kc w0 blk off dk' w' ∧ Mgd T a b dk dk') := fun dk W C a m b h1 h2 h3 h4 h5 h6 h7 h8 h9 => by
    have := symM_any enc kc aE zE cf T hT g cb blk off cap d0 w0 eg hcmp R (by omega) _ a m b dk W rfl (by omega) h2 h4 h5 (by omega) h8 h9 fun i j q1 q2 q3 q4 => h3.ag (cf := cf) (by rw [← hnn]; exact hag) h7 q2 q3 (by omega)
    rwa [h1] at this
  have S0 : Aside (SWK enc kc w0 blk off d w) := S
  have Hnn : Hid _ := hnn
  rw [hnn] at hn hs ⊢
  have hn60 : n < 1152921504606846976 := by omega
  clear S hag hcmp hnn eg
  go_enter Tryz.func132, Tryz.ntmps132
  go_wp2
  go_loopg [7, 8] n (fun kx s7 s8 wr => ∃ (a : Nat) (dk : Array α), s7 = .int .i64 (a : Int) ∧ s8 = .int .i64 ((a : Int) + 20) ∧ a ≤ n ∧ 20 ∣ a ∧ n - a ≤ kx ∧ dk.size = n ∧ Aside (SWK enc kc w0 blk off dk wr) ∧ Hid (Run T n (CI n a) (fA d) (fA dk)))
  case atStart => exact ⟨0, d, rfl, by first | rfl | go_num, Nat.zero_le _, ⟨0, rfl⟩, by omega, Hnn.out, S0, run_start⟩
  case round =>
    clear S0
    obtain ⟨a, dk, rfl, rfl, han, hda, hkx, hds, S1, HR⟩ := hrel
    by_cases hlt : a + 20 ≤ n
    · have hlti : (a : Int) + 20 ≤ (n : Int) := by omega
      have HCi := Lib.hid (Hin.out dk wr _ a (a + 20) hds S1.out HR.out (by omega) hlt fun c q1 q2 => .inr (by omega))
      have e20 : ((a + 20 : Nat) : Int) = (a : Int) + 20 := by omega
      rw [e20] at HCi
      clear e20
      go_wp2_with fail
      go_at_call 176
      refine HCi.out.mono ?_
      rintro e9 w2 ⟨rfl, dk2, S2', h2⟩
      have S2 : Aside (SWK enc kc w0 blk off dk2 w2) := S2'
      have hds2 : dk2.size = n := h2.size.trans hds
      have HR2 : Hid (Run T n (CI n (a + 20)) (fA d) (fA dk2)) := run_ins HR.out hda (.inl rfl) (by omega) hlt h2.shuf h2.srt
      clear S2' h2 HR S1 HCi
      go_wp2
      go_roundg (n - (a + 20))
      case measure => omega
      case rel => exact ⟨a + 20, dk2, by go_num, by go_num, hlt, by omega, Nat.le_refl _, hds2, S2, HR2⟩
    · have hlti : ¬ (a : Int) + 20 ≤ (n : Int) := by omega
      have HCi := Lib.hid (Hin.out dk wr _ a n hds S1.out HR.out han (Nat.le_refl _) fun c q1 q2 => .inr (by omega))
      go_wp2_with fail
      go_at_call 176
      refine HCi.out.mono ?_
      rintro e9 w2 ⟨rfl, dk2, S2', h2⟩
      have S2 : Aside (SWK enc kc w0 blk off dk2 w2) := S2'
      have hds2 : dk2.size = n := h2.size.trans hds
      have HR2 : Hid (Run T n (CE 20 n) (fA d) (fA dk2)) := run_first (run_ins HR.out hda (.inr ⟨rfl, by omega⟩) han (Nat.le_refl _) h2.shuf h2.srt)
      clear S2' h2 HR S1 HCi
      go_wp2_with fail
      go_loopg [6, 7, 8, 9] n (fun kx s6 s7 s8 s9 wr => ∃ (B : Nat) (dk : Array α), s6 = .int .i64 (B : Int) ∧ 0 < B ∧ B ≤ 2 * n + 40 ∧ n - B ≤ kx ∧ dk.size = n ∧ Aside (SWK enc kc w0 blk off dk wr) ∧ Hid (Run T n (CE B n) (fA d) (fA dk)))
      case atStart => exact ⟨20, dk2, rfl, by omega, by omega, by omega, hds2, S2, HR2⟩
      case round =>
        clear S2 HR2 hds2
        obtain ⟨B, dkB, rfl, hB0, hBn, hkx, hdsB, SB, HRB⟩ := hrel
        by_cases hltB : B < n
        · have hltBi : (B : Int) < (n : Int) := by omega
          have HR3 : Hid (Run T n (CP B n 0) (fA d) (fA dkB)) := run_enter HRB.out
          clear HRB
          go_wp2_with fail
          go_loopg [7, 8] n (fun kx s7 s8 wr => ∃ (a : Nat) (dk : Array α), s7 = .int .i64 (a : Int) ∧ s8 = .int .i64 ((a : Int) + 2 * (B : Int)) ∧ a ≤ n ∧ 2 * B ∣ a ∧ n - a ≤ kx ∧ dk.size = n ∧ Aside (SWK enc kc w0 blk off dk wr) ∧ Hid (Run T n (CP B n a) (fA d) (fA dk)))
          case atStart => exact ⟨0, dkB, rfl, by first | rfl | go_num, Nat.zero_le _, Nat.dvd_zero _, by omega, hdsB, SB, HR3⟩
          case round =>
            clear SB HR3 hdsB
            obtain ⟨a, dk, rfl, rfl, han, hda, hkx, hds, S1, HR⟩ := hrel
            by_cases hlt : a + 2 * B ≤ n
            · have hlti : (a : Int) + 2 * (B : Int) ≤ (n : Int) := by omega
              have hru := run_left HR.out hB0 hda (b := a + 2 * B) (by omega) (by omega) (.inl rfl) (Nat.le_refl _) hlt
              have HCi := Lib.hid (Hsy.out dk wr _ a (a + B) (a + 2 * B) hds S1.out HR.out (by omega) (by omega) hlt (.inr (.inl ⟨by omega, (Nat.dvd_add_iff_right (two_dvd hda)).1 (Nat.dvd_refl B)⟩)) hru.1 hru.2)
              have e20 : ((a + 2 * B : Nat) : Int) = (a : Int) + 2 * (B : Int) := by omega
              have e21 : ((a + B : Nat) : Int) = (a : Int) + (B : Int) := by omega
              rw [e20, e21] at HCi
              clear e20 e21 hru
              go_wp2_with fail
              go_at_call 177
              refine HCi.out.mono ?_
              rintro e9 w2 ⟨rfl, dk2, S2', h2⟩
              have S2 : Aside (SWK enc kc w0 blk off dk2 w2) := S2'
              have hds2 : dk2.size = n := h2.size.trans hds
              have HR2 : Hid (Run T n (CP B n (a + 2 * B)) (fA d) (fA dk2)) := run_merge HR.out hB0 hda (by omega) (.inl rfl) hlt h2.shuf h2.srt
              have Hdv : Hid (2 * B ∣ a + 2 * B) := (Nat.dvd_add_iff_right hda).1 (Nat.dvd_refl _)
              clear S2' h2 HR S1 HCi
              go_wp2
              go_roundg (n - (a + 2 * B))
              case measure => omega
              case rel => exact ⟨a + 2 * B, dk2, by first | rfl | go_num | (congr 1; omega), by first | rfl | go_num | (congr 1; omega), hlt, Hdv.out, Nat.le_refl _, hds2, S2, HR2⟩
            · have hlti : ¬ (a : Int) + 2 * (B : Int) ≤ (n : Int) := by omega
              by_cases hm : a + B < n
              · have hmi : (a : Int) + (B : Int) < (n : Int) := by omega
                have hru := run_left HR.out hB0 hda (b := n) (by omega) hm (.inr rfl) (by omega) (Nat.le_refl _)
                have HCi := Lib.hid (Hsy.out dk wr _ a (a + B) n hds S1.out HR.out (by omega) hm (Nat.le_refl _) (.inr (.inl ⟨by omega, (Nat.dvd_add_iff_right (two_dvd hda)).1 (Nat.dvd_refl B)⟩)) hru.1 hru.2)
                have e21 : ((a + B : Nat) : Int) = (a : Int) + (B : Int) := by omega
                rw [e21] at HCi
                clear e21 hru
                go_wp2_with fail
                go_at_call 177
                refine HCi.out.mono ?_
                rintro e9 w2 ⟨rfl, dk2, S2', h2⟩
                have S2 : Aside (SWK enc kc w0 blk off dk2 w2) := S2'
                have hds2 : dk2.size = n := h2.size.trans hds
                have HR2 : Hid (Run T n (CE (2 * B) n) (fA d) (fA dk2)) := by
                  refine run_leave (a := a + 2 * B) (run_merge HR.out hB0 hda han (.inr ⟨rfl, by omega⟩) (Nat.le_refl _) h2.shuf h2.srt) ((Nat.dvd_add_iff_right hda).1 (Nat.dvd_refl _)) (by omega) hB0
                clear S2' h2 HR S1 HCi
                go_wp2
                go_roundg (n - 2 * B)
                case measure => omega
                case rel => exact ⟨2 * B, dk2, by first | rfl | go_num | (congr 1; omega), by omega, by omega, Nat.le_refl _, hds2, S2, HR2⟩
              · have hmi : ¬ (a : Int) + (B : Int) < (n : Int) := by omega
                have HR2 : Hid (Run T n (CE (2 * B) n) (fA d) (fA dk)) := run_leave HR.out hda (by omega) hB0
                clear HR
                go_wp2
                go_roundg (n - 2 * B)
                case measure => omega
                case rel => exact ⟨2 * B, dk, by first | rfl | go_num | (congr 1; omega), by omega, by omega, Nat.le_refl _, hds, S1, HR2⟩
        · have hltBi : ¬ (B : Int) < (n : Int) := by omega
          go_wp2
          go_end0
          obtain ⟨q1, q2⟩ := run_end HRB.out (by omega) hn
          exact ⟨rfl, dkB, SB.out, ⟨hdsB.trans Hnn.out.symm, q1, q2⟩⟩
end Sk
end Go.Proofs.YtphccomhggnccaaGreat
