/- haystacklaw9: heavy, at any sets. -/
import Derived.Test.YtphccomhggnccaaGreatRfM
import Derived.Deep.QuietTactic
import Derived.ChangeArms
import Derived.Deep.Strs
import Derived.Deep.SlicePairs
import Derived.SizedLaws
import Derived.Lib.SmallJoins
set_option linter.unusedVariables false
set_option linter.unusedSimpArgs false
set_option maxRecDepth 100000
namespace Go.Proofs.YtphccomhggnccaaGreat
open Go.RowKit Sg Fm
structure St where
  A : Option Addr
  n : Nat
  c : Nat
  es : List De
  Ag : Option Addr
  ng : Nat
  cg : Nat
  gs : List Key
deriving Inhabited
def VSt (l : List St) : List Value := l.flatMap fun s => [.slice s.A s.n s.c, .slice s.Ag s.ng s.cg]
theorem VSt_cons (s : St) (r : List St) : VSt (s :: r) = .slice s.A s.n s.c :: .slice s.Ag s.ng s.cg :: VSt r := rfl
theorem VSt_length (l : List St) : (VSt l).length = l.length * 2 := by
  induction l with
  | nil => rfl
  | cons a r ih => rw [VSt_cons, List.length_cons, List.length_cons, ih, List.length_cons]; omega
theorem VSt_get0 (l : List St) (i : Nat) (h : i < l.length) : (VSt l)[i * 2]? = some (.slice (l.getD i default).A (l.getD i default).n (l.getD i default).c) := by
  induction l generalizing i with
  | nil => cases h
  | cons a r ih =>
    rw [VSt_cons]
    cases i with
    | zero => rfl
    | succ i => rw [show (i + 1) * 2 = i * 2 + 1 + 1 by omega]; exact ih i (by simpa using h)
theorem VSt_get1 (l : List St) (i : Nat) (h : i < l.length) : (VSt l)[i * 2 + 1]? = some (.slice (l.getD i default).Ag (l.getD i default).ng (l.getD i default).cg) := by
  induction l generalizing i with
  | nil => cases h
  | cons a r ih =>
    rw [VSt_cons]
    cases i with
    | zero => rfl
    | succ i => rw [show (i + 1) * 2 + 1 = i * 2 + 1 + 1 + 1 by omega]; exact ih i (by simpa using h)
structure SetOk (w : World) (s : St) : Prop where
  d : DArg w s.A s.n s.c s.es
  g : GArg w s.Ag s.ng s.cg s.gs
  k : ∀ e ∈ s.es, e.k.length ≤ 140737488355328 ∧ e.n ≤ 140737488355328
  q : ∀ k ∈ s.gs, k.length ≤ 140737488355328
  m : s.n ≤ 140737488355328 ∧ s.ng ≤ 140737488355328
def wtS (s : St) : Nat := wtD (s.es.map De.dc) + wtG s.gs
def wtL (l : List St) : Nat := (l.map wtS).sum
theorem wtL_take {l : List St} {i : Nat} (h : i < l.length) : wtL (l.take (i + 1)) = wtL (l.take i) + wtS (l.getD i default) := by
  unfold wtL
  rw [List.take_succ_eq_append_getElem h, List.map_append, List.sum_append]
  simp [List.getD, List.getElem?_eq_getElem h]
theorem wtD_take {es : List De} {k : Nat} (h : k < es.length) : wtD ((es.take (k + 1)).map De.dc) = wtD ((es.take k).map De.dc) + (5 + (es[k]?.getD default).k.length + (es[k]?.getD default).t.length) := by
  rw [List.take_succ_eq_append_getElem h, List.map_append, wtD_append]
  simp [wtD, h, De.dc]
theorem wtG_take {gs : List Key} {k : Nat} (h : k < gs.length) : wtG (gs.take (k + 1)) = wtG (gs.take k) + (5 + (gs.getD k []).length) := by
  rw [List.take_succ_eq_append_getElem h, wtG_append]
  simp [wtG, List.getD, List.getElem?_eq_getElem h]
def HeavyP (w : World) (l : List St) (e : Ending) (w' : World) : Prop := ∃ b, e = .returned (.bool b) ∧ (b = false → wtL l ≤ 1500 ∧ l.length ≤ 8) ∧ Below w.heap.size w w'
set_option maxHeartbeats 8000000 in
theorem heavy9_any (w : World) (A : Option Addr) (n c : Nat) (l : List St) (hS : Sl w A (VSt l)) (hl : l.length = n) (hn : n ≤ 140737488355328) (hs : ∀ s ∈ l, SetOk w s) :
    Calls Tryz.prog 12 #[.slice A n c] w (HeavyP w l) := by
  have HS := Lib.hid hS
  have Hl := Lib.hid hl
  have Hs := Lib.hid hs
  clear hS hl hs
  go_enter Tryz.func12, Tryz.ntmps12
  go_wp2_with fail
  go_loopw [3, 4] (fun t q wr => ∃ i m : Nat, i ≤ n ∧ q = .int .i64 (i : Int) ∧ t = .int .i64 (m : Int) ∧ m ≤ 1500 ∧ Hid (m = wtL (l.take i)) ∧ Hid (Below w.heap.size w wr)) (fun _ q _ => n - (intOf q).toNat)
  case atStart => exact ⟨0, 0, Nat.zero_le _, rfl, rfl, Nat.zero_le _, Lib.hid (by simp [wtL]), Lib.hid (Below.refl _ _)⟩
  case round =>
    obtain ⟨i, m, hi, rfl, rfl, hm, Hm, HB⟩ := hrel
    obtain ⟨wo, rfl⟩ : ∃ wo : World, wo = wr := ⟨_, rfl⟩
    by_cases hin : i < n
    · have hil : i < l.length := by rw [Hl.out]; exact hin
      obtain ⟨bs, os, rfl, hc0⟩ := HS.out.lit (j := i * 2) (by rw [VSt_length]; omega)
      have hc1 := HS.out.cell _ rfl (i * 2 + 1) _ (VSt_get1 l i hil)
      rw [VSt_get0 l i hil] at hc0
      rw [show (⟨bs, os, none⟩ : Addr).add (i * 2 + 1) = ⟨bs, os + i * 2 + 1, none⟩ by unfold Addr.add; split <;> simp_all; omega] at hc1
      have hok : SetOk w (l.getD i default) := Hs.out _ (by simp [List.getD, List.getElem?_eq_getElem hil])
      have Hwt := Lib.hid (wtL_take hil)
      generalize l.getD i default = s at *
      have Hc0 := Lib.hid hc0
      have Hc1 := Lib.hid hc1
      have Hok := Lib.hid hok
      have hsnb := hok.m
      obtain ⟨sA, sn, sc, ses, sG, sng, scg, sgs⟩ := s
      dsimp only at *
      obtain ⟨hsn1, hsn2⟩ := hsnb
      clear hc0 hc1 hok hil
      go_wp2_with fail
      go_loopw [3, 5] (fun t q wr => ∃ k m2 : Nat, k ≤ sn ∧ q = .int .i64 (k : Int) ∧ t = .int .i64 (m2 : Int) ∧ m2 ≤ 1500 ∧ Hid (m2 = m + wtD ((ses.take k).map De.dc)) ∧ Hid (Below w.heap.size w wr)) (fun _ q _ => sn - (intOf q).toNat)
      case atStart => exact ⟨0, m, Nat.zero_le _, rfl, rfl, hm, Lib.hid (by simp [wtD]), HB⟩
      case round =>
        obtain ⟨k, m2, hk, rfl, rfl, hm2, Hm2, HB2⟩ := hrel
        have hc0 := (World.cell?_of_block (HB2.out.block bs (World.block_lt_of_cell? w _ Hc0.out))).trans Hc0.out
        have hc1 := (World.cell?_of_block (HB2.out.block bs (World.block_lt_of_cell? w _ Hc1.out))).trans Hc1.out
        by_cases hkn : k < sn
        · obtain ⟨bd, od, rfl, hd0, hd1⟩ := garg_docs0 (Hok.out.d.below HB2.out) hkn
          have hkl : k < ses.length := by have := Hok.out.d.len; dsimp only at this; rw [this]; exact hkn
          have Hw := Lib.hid (wtD_take hkl)
          have hmem : ses[k]?.getD default ∈ ses := by simp [hkl]
          have hb := Hok.out.k _ hmem
          have ht := (Hok.out.d.txt _ hmem).len
          generalize ses[k]?.getD default = e at *
          obtain ⟨ek, ea, en, ec, et⟩ := e
          dsimp only at *
          obtain ⟨kl, hkl2⟩ : ∃ kl, ek.length = kl := ⟨_, rfl⟩
          have hsz : (ba ek).size = kl := by rw [← hkl2]; simp [ba, ByteArray.size]
          rw [hkl2] at Hw hb
          rw [ht] at Hw
          generalize ba ek = sk at *
          obtain ⟨m3, hm3⟩ : ∃ m, m2 + 5 = m := ⟨_, rfl⟩
          obtain ⟨m4, hm4⟩ : ∃ m, m3 + kl = m := ⟨_, rfl⟩
          obtain ⟨m5, hm5⟩ : ∃ m, m4 + en = m := ⟨_, rfl⟩
          have r1 : IntKind.i64.wrap ((m2 : Int) + 5) = (m3 : Int) := by rw [show (m2 : Int) + 5 = (m3 : Int) by omega]; exact IntWalk.i64_in _ (by omega)
          have r2 : IntKind.i64.wrap ((m3 : Int) + (kl : Int)) = (m4 : Int) := by rw [show (m3 : Int) + (kl : Int) = (m4 : Int) by omega]; exact IntWalk.i64_in _ (by omega)
          have r3 : IntKind.i64.wrap ((m4 : Int) + (en : Int)) = (m5 : Int) := by rw [show (m4 : Int) + (en : Int) = (m5 : Int) by omega]; exact IntWalk.i64_in _ (by omega)
          have Hsum : Hid (m5 = m2 + (5 + kl + en)) := Lib.hid (by omega)
          have Hten : Hid (en ≤ m5) := Lib.hid (by omega)
          have g0 : (0 : Int) ≤ (i : Int) := by omega
          have g1 : (i : Int) < (n : Int) := by omega
          have g2 : (0 : Int) ≤ (k : Int) := by omega
          have g3 : (k : Int) < (sn : Int) := by omega
          clear hm3 hm4 hm5 hmem hb ht hkl hkl2
          go_wp2_with fail
          go_quiet (fail)
          clear r1 r2 r3
          obtain ⟨w9, hw9⟩ : ∃ w9, wr.drewN nq = w9 := ⟨_, rfl⟩
          have hD9 : Below wr.heap.size wr w9 := by rw [← hw9]; exact below_drewN _ _ _
          have hc0' : w9.cell? ⟨bs, os + i * 2, none⟩ = some (.slice (some ⟨bd, od, none⟩) sn sc) := by rw [← hw9]; exact hc0
          have hd1' : w9.cell? ⟨bd, od + k * 2 + 1, none⟩ = some (.slice ea en ec) := by rw [← hw9]; exact hd1
          have HB9 := Lib.hid (HB2.out.trans (hD9.mono HB2.out.size))
          rw [hw9]
          clear hw9 hc0 hc1 hd0 hd1 hD9
          by_cases hbig : 1500 < m5
          · have hbi : (1500 : Int) < (m5 : Int) := by omega
            go_wp2_with fail
            go_ret
            exact ⟨true, rfl, nofun, HB9.out⟩
          · have hbi : ¬ (1500 : Int) < (m5 : Int) := by omega
            have hen : ¬ (1500 : Int) < (en : Int) := by have := Hten.out; omega
            go_wp2_with fail
            go_roundw
            case rel => exact ⟨k + 1, m5, hkn, by go_num, rfl, by omega, Lib.hid (by rw [Hw.out, Hsum.out, Hm2.out]; omega), HB9⟩
            case measure =>
              have e1 : ((k : Int) + 1).toNat = k + 1 := by omega
              show sn - ((k : Int) + 1).toNat < sn - ((k : Int)).toNat
              rw [e1, Int.toNat_natCast]
              exact Nat.sub_lt_sub_left hkn (Nat.lt_succ_self k)
        · obtain rfl : k = sn := by omega
          have hm3 : m2 = m + wtD (ses.map De.dc) := by
            have h := Hm2.out
            have hl2 := Hok.out.d.len
            dsimp only at hl2
            rw [List.take_of_length_le (by omega)] at h
            exact h
          have Hm3 := Lib.hid hm3
          clear hm3 Hm2
          go_wp2_with fail
          obtain ⟨wp, rfl⟩ : ∃ wo : World, wo = wr := ⟨_, rfl⟩
          go_loopw [3, 6] (fun t q wr => ∃ kk m4 : Nat, kk ≤ sng ∧ q = .int .i64 (kk : Int) ∧ t = .int .i64 (m4 : Int) ∧ m4 ≤ 1500 ∧ Hid (m4 = m2 + wtG (sgs.take kk)) ∧ Hid (Below w.heap.size w wr)) (fun _ q _ => sng - (intOf q).toNat)
          case atStart => exact ⟨0, m2, Nat.zero_le _, rfl, rfl, hm2, Lib.hid (by simp [wtG]), HB2⟩
          case round =>
            clear hc0 hc1
            obtain ⟨kk, m4, hkk, rfl, rfl, hm4, Hm4, HB3⟩ := hrel
            have hc1 := (World.cell?_of_block (HB3.out.block bs (World.block_lt_of_cell? w _ Hc1.out))).trans Hc1.out
            by_cases hkg : kk < sng
            · obtain ⟨bg, og, hAg⟩ := garg_lit Hok.out.g (Nat.lt_of_le_of_lt (Nat.zero_le _) hkg)
              dsimp only at hAg
              subst hAg
              have hkc := garg_cell (Hok.out.g.below HB3.out) hkg
              dsimp only at hkc
              have hgl : kk < sgs.length := by have := Hok.out.g.len; dsimp only at this; rw [this]; exact hkg
              have Hw := Lib.hid (wtG_take hgl)
              have hb := Hok.out.q _ (getD_memK hgl)
              generalize sgs.getD kk [] = key at *
              obtain ⟨kl, hkl2⟩ : ∃ kl, key.length = kl := ⟨_, rfl⟩
              have hsz : (ba key).size = kl := by rw [← hkl2]; simp [ba, ByteArray.size]
              rw [hkl2] at Hw hb
              generalize ba key = sk at *
              have g1 : (i : Int) < (n : Int) := by omega
              have Hsum : Hid ((m4 : Int) + 5 + (kl : Int) = ((m4 + 5 + kl : Nat) : Int)) := Lib.hid (by omega)
              clear hgl hkl2
              by_cases hbig : 1500 < m4 + 5 + kl
              · have hbi : (1500 : Int) < (m4 : Int) + 5 + (kl : Int) := by omega
                go_wp2_with fail
                go_ret
                exact ⟨true, rfl, nofun, HB3.out⟩
              · have hbi : ¬ (1500 : Int) < (m4 : Int) + 5 + (kl : Int) := by omega
                go_wp2_with fail
                go_roundw
                case rel => exact ⟨kk + 1, m4 + 5 + kl, hkg, by go_num, by rw [← Hsum.out], by omega, Lib.hid (by rw [Hw.out, Hm4.out]; omega), HB3⟩
                case measure =>
                  have e1 : ((kk : Int) + 1).toNat = kk + 1 := by omega
                  show sng - ((kk : Int) + 1).toNat < sng - ((kk : Int)).toNat
                  rw [e1, Int.toNat_natCast]
                  exact Nat.sub_lt_sub_left hkg (Nat.lt_succ_self kk)
            · obtain rfl : kk = sng := by omega
              have hm5 : m4 = m2 + wtG sgs := by
                have h := Hm4.out
                have hl2 := Hok.out.g.len
                dsimp only at hl2
                rw [List.take_of_length_le (by omega)] at h
                exact h
              have Hm5 := Lib.hid hm5
              clear hm5 Hm4
              go_wp2_with fail
              go_roundw
              case rel => exact ⟨i + 1, m4, by omega, by go_num, rfl, hm4, Lib.hid (by rw [Hwt.out, Hm5.out, Hm3.out, Hm.out]; unfold wtS; dsimp only; omega), HB3⟩
              case measure => simp [intOf]; omega
    · obtain rfl : i = n := by omega
      have hm9 : m = wtL l := by
        have h := Hm.out
        rw [List.take_of_length_le (by rw [Hl.out]; exact Nat.le_refl _)] at h
        exact h
      have hnb : ¬ (1500 : Int) < (m : Int) := by omega
      have Hm9 := Lib.hid (show wtL l ≤ 1500 by omega)
      clear hm9
      by_cases h8 : 8 < i
      · have h8i : (8 : Int) < (i : Int) := by omega
        go_wp2_with fail
        go_ret
        exact ⟨true, rfl, nofun, HB.out⟩
      · have h8i : ¬ (8 : Int) < (i : Int) := by omega
        go_wp2_with fail
        go_ret
        exact ⟨false, rfl, fun _ => ⟨Hm9.out, by rw [Hl.out]; omega⟩, HB.out⟩
end Go.Proofs.YtphccomhggnccaaGreat
namespace Go.Proofs.YtphccomhggnccaaGreat
open Go.RowKit Sg Fm Go.ChangeShapes Go.WideShapes
theorem wAll_mem {H : Type} {P : Program} {e : TypeId} {l : List (DataW H)} {d : DataW H} (hd : d ∈ l) {n : Nat} (hn : n ∈ d.weights P e) : n ∈ DataW.weightsAll P e l := by
  induction l with
  | nil => cases hd
  | cons a r ih =>
    simp only [DataW.weightsAll, List.mem_append]
    rcases List.mem_cons.1 hd with rfl | hd
    · exact .inl hn
    · exact .inr (ih hd)
def WLe {H : Type} (t : TypeId) (R : Nat) (d : DataW H) : Prop := ∀ n ∈ d.weights Tryz.prog t, n ≤ R
theorem WLe.elem {H : Type} {t e : TypeId} {R : Nat} {el sp : List (DataW H)} (h : WLe t R (.slice el sp)) (hu : Tryz.prog.underlying t = some (.slice e)) {d : DataW H} (hd : d ∈ el) : WLe e R d := fun n hn =>
  h n (by simp only [DataW.weights, hu, List.mem_cons, List.mem_append]; exact .inr (.inl (wAll_mem hd hn)))
theorem WLe.len {H : Type} {t e : TypeId} {R : Nat} {el sp : List (DataW H)} (h : WLe t R (.slice el sp)) (hu : Tryz.prog.underlying t = some (.slice e)) (hb : 1 ≤ Tryz.prog.bytesOf e) : el.length + sp.length ≤ R := by
  have h1 := h _ (by simp only [DataW.weights, hu, List.mem_cons]; exact .inl rfl)
  refine Nat.le_trans ?_ h1
  simpa using Nat.mul_le_mul_left (el.length + sp.length) hb
theorem WLe.str {H : Type} {t : TypeId} {R : Nat} {b : List UInt8} (h : WLe (H := H) t R (.lit (.string b))) : b.length ≤ R := h _ (by simp [DataW.weights])
theorem WLe.pair {H : Type} {t : TypeId} {R : Nat} {f0 f1 : Field} {d0 d1 : DataW H} (h : WLe t R (.agg [d0, d1])) (hu : Tryz.prog.underlying t = some (.struct #[f0, f1])) : WLe f0.type R d0 ∧ WLe f1.type R d1 :=
  ⟨fun n hn => h n (by simp [DataW.weights, hu, DataW.weightsEach]; exact .inl hn), fun n hn => h n (by simp [DataW.weights, hu, DataW.weightsEach]; exact .inr hn)⟩
theorem garg_of_trod {H : Type} {enc : TypeId × Value → H} {w : World} {base fuel : Nat} {held : Bool} {v : Value} {y : DataW H × List MemPlace}
    (h : DataW.trod enc Tryz.prog w base (fun _ => true) held fuel 23 [v] = some y) : ∃ A len cap gs, v = .slice A len cap ∧ GArg w A len cap gs ∧ ∀ R, WLe 23 R y.1 → len ≤ R ∧ ∀ k ∈ gs, k.length ≤ R := by
  rcases Go.Deep.open_strs Tryz.underlying23 Tryz.underlying9 (by kernel_rfl) h with ⟨hcs, _⟩ | ⟨a, len, cap, m, Sx, hcs, _, hl, hm, hmm, hy, hr⟩
  · have hv : v = .slice none 0 0 := by simpa using hcs
    exact ⟨none, 0, 0, [], hv, ⟨rfl, Nat.le_refl _, fun _ => rfl, sl_nil _⟩, fun R _ => ⟨Nat.zero_le _, fun k hk => by cases hk⟩⟩
  · have hv : v = .slice (some a) len cap := by simpa using hcs
    simp only [if_true] at hmm
    refine ⟨some a, len, cap, (List.range len).map fun i => (Sx i).data.toList, hv, ⟨by simp, hl, nofun, nofun, fun a' ha j u hu => ?_⟩, fun R hR => ?_⟩
    rotate_left
    · subst hy
      have h1 := hR.len Tryz.underlying23 (of_decide_eq_true (by kernel_rfl))
      simp only [List.length_map, List.length_range] at h1
      refine ⟨by omega, fun k hk => ?_⟩
      obtain ⟨i, hi, rfl⟩ := List.mem_map.1 hk
      exact (hR.elem Tryz.underlying23 (List.mem_map.2 ⟨i, hi, rfl⟩)).str
    cases ha
    have hj : j < len := by
      rcases Nat.lt_or_ge j len with h1 | h1
      · exact h1
      · rw [List.getElem?_eq_none (by simp [VS]; exact h1)] at hu; cases hu
    rw [(hr j (by omega)).1]
    simp [VS, hj] at hu
    rw [← hu]
theorem txt_of_trod {H : Type} {enc : TypeId × Value → H} {w : World} {base fuel : Nat} {held : Bool} {v : Value} {y : DataW H × List MemPlace} (k : Key)
    (h : DataW.trod enc Tryz.prog w base (fun _ => true) held fuel 34 [v] = some y) : ∃ e : De, e.k = k ∧ v = .slice e.a e.n e.c ∧ TxtOk w e ∧ ∀ R, WLe 34 R y.1 → e.n ≤ R := by
  rcases open_ints Tryz.underlying34 Tryz.underlying5 (by kernel_rfl) h with ⟨hcs, _⟩ | ⟨a, l, c, zs, hcs, _, hl, hm, hz, hy, hcell, hwz⟩
  · have hv : v = .slice none 0 0 := by simpa using hcs
    exact ⟨⟨k, none, 0, 0, []⟩, rfl, hv, ⟨rfl, Nat.le_refl _, fun _ => rfl, sl_nil _, fun b hb => by cases hb⟩, fun R _ => Nat.zero_le _⟩
  · have hv : v = .slice (some a) l c := by simpa using hcs
    simp only [if_true] at hz
    have hw : ∀ n ∈ zs, 0 ≤ n ∧ n < 256 := fun n hn => by
      have := hwz n hn
      simp [Lit.wf, IntKind.min, IntKind.max, IntKind.signed, IntKind.bits] at this
      omega
    refine ⟨⟨k, some a, l, c, (zs.take l).map Int.toNat⟩, rfl, hv, ⟨by simp; omega, hl, nofun, ⟨nofun, fun a' ha j u hu => ?_⟩, fun b hb => ?_⟩, fun R hR => ?_⟩
    · cases ha
      simp only [VY, List.map_map] at hu
      rw [List.getElem?_map, List.getElem?_take] at hu
      split at hu
      · rename_i hj
        have hjz : j < zs.length := by omega
        rw [List.getElem?_eq_getElem hjz] at hu
        simp only [Option.map_some, Option.some.injEq, Function.comp] at hu
        rw [hcell j hjz, ← hu]
        simp only [List.getD, List.getElem?_eq_getElem hjz, Option.getD_some]
        rw [Int.toNat_of_nonneg (hw _ (List.getElem_mem hjz)).1]
      · simp at hu
    · obtain ⟨n, hn, rfl⟩ := List.mem_map.1 hb
      have := hw n (List.mem_of_mem_take hn)
      omega
    · rw [hy] at hR
      have h1 := hR.len Tryz.underlying34 (of_decide_eq_true (by kernel_rfl))
      simp only [lits, List.length_map, List.length_take, List.length_drop] at h1
      show l ≤ R
      omega
theorem darg_of_trod {H : Type} {enc : TypeId × Value → H} {w : World} {base fuel : Nat} {held : Bool} {v : Value} {y : DataW H × List MemPlace}
    (h : DataW.trod enc Tryz.prog w base (fun _ => true) held fuel 22 [v] = some y) : ∃ A len cap es, v = .slice A len cap ∧ DArg w A len cap es ∧ ∀ R, WLe 22 R y.1 → len ≤ R ∧ ∀ e ∈ es, e.k.length ≤ R ∧ e.n ≤ R := by
  rcases Go.Deep.open_slice_pairs Tryz.underlying22 Tryz.underlying36 (by kernel_rfl) rfl rfl (by kernel_rfl) (by kernel_rfl) h with ⟨hcs, _⟩ | ⟨a, len, cap, m, n, V0, V1, D0, D1, P0, P1, hcs, _, hl, hm, hmm, hy, hr⟩
  · have hv : v = .slice none 0 0 := by simpa using hcs
    exact ⟨none, 0, 0, [], hv, ⟨rfl, Nat.le_refl _, fun _ => rfl, sl_nil _, fun e he => by cases he⟩, fun R _ => ⟨Nat.zero_le _, fun e he => by cases he⟩⟩
  · have hv : v = .slice (some a) len cap := by simpa using hcs
    simp only [if_true] at hmm
    have hex : ∀ i, ∃ e : De, i < len → V0 i = encStr e.k ∧ V1 i = .slice e.a e.n e.c ∧ TxtOk w e ∧ ∀ R, WLe 9 R (D0 i) → WLe 34 R (D1 i) → e.k.length ≤ R ∧ e.n ≤ R := fun i => by
      by_cases hi : i < len
      · obtain ⟨_, _, h0, h1⟩ := hr i (by omega)
        obtain ⟨s, hs, hd, _⟩ := DataW.trod_string Tryz.underlying9 h0
        have hs : V0 i = .string s := by simpa using hs
        obtain ⟨e, hk, h2, h3, h4⟩ := txt_of_trod s.data.toList h1
        have hd0 : D0 i = .lit (.string s.data.toList) := congrArg Prod.fst hd
        exact ⟨e, fun _ => ⟨by rw [hs, hk], h2, h3, fun R r0 r1 => ⟨by rw [hk]; rw [hd0] at r0; exact r0.str, h4 R r1⟩⟩⟩
      · exact ⟨default, fun h => absurd h hi⟩
    obtain ⟨f, hf⟩ := Classical.axiomOfChoice hex
    refine ⟨some a, len, cap, (List.range len).map f, hv, ⟨by simp, hl, nofun, ⟨nofun, fun a' ha j u hu => ?_⟩, fun e he => ?_⟩, fun R hR => ?_⟩
    · cases ha
      have hj : j < len * 2 := by
        rcases Nat.lt_or_ge j (len * 2) with h1 | h1
        · exact h1
        · rw [List.getElem?_eq_none (by rw [VD_length]; simp; omega)] at hu; cases hu
      have hj2 : j / 2 < len := by omega
      obtain ⟨g0, g1, _⟩ := hf (j / 2) hj2
      obtain ⟨c0, c1, _, _⟩ := hr (j / 2) (by omega)
      have hq : ((List.range len).map f)[j / 2]?.getD default = f (j / 2) := by simp [hj2]
      rcases Nat.mod_two_eq_zero_or_one j with hm2 | hm2
      · have e1 : j = j / 2 * 2 := by omega
        rw [e1, VD_get0 _ _ (by simpa using hj2), hq] at hu
        rw [e1, c0, g0, hu]
      · have e1 : j = j / 2 * 2 + 1 := by omega
        rw [e1, VD_get1 _ _ (by simpa using hj2), hq] at hu
        rw [e1, c1, g1, hu]
    · obtain ⟨i, hi, rfl⟩ := List.mem_map.1 he
      exact (hf i (List.mem_range.1 hi)).2.2.1
    · subst hy
      have h1 := hR.len Tryz.underlying22 (of_decide_eq_true (by kernel_rfl))
      simp only [List.length_map, List.length_range] at h1
      refine ⟨by omega, fun e he => ?_⟩
      obtain ⟨i, hi, rfl⟩ := List.mem_map.1 he
      obtain ⟨w0, w1⟩ := (hR.elem Tryz.underlying22 (List.mem_map.2 ⟨i, hi, rfl⟩)).pair Tryz.underlying36
      exact (hf i (List.mem_range.1 hi)).2.2.2 R w0 w1
theorem set_of_trod {H : Type} {enc : TypeId × Value → H} {w : World} {base fuel : Nat} {held : Bool} {v0 v1 : Value} {y0 y1 : DataW H × List MemPlace}
    (h0 : DataW.trod enc Tryz.prog w base (fun _ => true) held fuel 22 [v0] = some y0) (h1 : DataW.trod enc Tryz.prog w base (fun _ => true) held fuel 23 [v1] = some y1)
    (w0 : WLe 22 reachBytes y0.1) (w1 : WLe 23 reachBytes y1.1) : ∃ s : St, v0 = .slice s.A s.n s.c ∧ v1 = .slice s.Ag s.ng s.cg ∧ SetOk w s := by
  obtain ⟨A, n, c, es, e1, d1, r1⟩ := darg_of_trod h0
  obtain ⟨Ag, ng, cg, gs, e2, d2, r2⟩ := garg_of_trod h1
  have hr : reachBytes ≤ 140737488355328 := by decide
  have r1 := r1 _ w0
  have r2 := r2 _ w1
  refine ⟨⟨A, n, c, es, Ag, ng, cg, gs⟩, e1, e2, d1, d2, fun e he => ?_, fun k hk => ?_, Nat.le_trans r1.1 hr, Nat.le_trans r2.1 hr⟩
  · exact ⟨Nat.le_trans (r1.2 e he).1 hr, Nat.le_trans (r1.2 e he).2 hr⟩
  · exact Nat.le_trans (r2.2 k hk) hr
theorem set_of_arg {H : Type} {enc : TypeId × Value → H} {w : World} {base b0 : Nat} {r : Reach} {held : Bool} {v : Value} {d : DataW H} {p : List MemPlace} (hv : Value.okWide Tryz.prog w r b0 25 v)
    (h : DataW.Trod enc Tryz.prog w base (fun _ => true) held 25 v d p) (hw : WLe 25 reachBytes d) : ∃ s : St, v = .agg #[.slice s.A s.n s.c, .slice s.Ag s.ng s.cg] ∧ SetOk w s := by
  obtain ⟨v0, v1, y0, y1, n, rfl, rfl, -, h0, h1⟩ := Go.Joins.open_agg2 Tryz.underlying25 (by kernel_rfl) (by kernel_rfl) hv h
  obtain ⟨w0, w1⟩ := hw.pair Tryz.underlying25
  obtain ⟨s, rfl, rfl, hs⟩ := set_of_trod h0 h1 w0 w1
  exact ⟨s, rfl, hs⟩
theorem sets_of_arg {H : Type} {enc : TypeId × Value → H} {w : World} {base : Nat} {held : Bool} {a : Option Addr} {len cap : Nat} {d : DataW H} {p : List MemPlace} 
    (h : DataW.Trod enc Tryz.prog w base (fun _ => true) held 71 (.slice a len cap) d p) (hw : WLe 71 reachBytes d) : ∃ l : List St, l.length = len ∧ len ≤ 140737488355328 ∧ len ≤ cap ∧ (a = none → cap = 0) ∧ Sl w a (VSt l) ∧ ∀ s ∈ l, SetOk w s := by
  obtain ⟨fuel, hf⟩ := h
  have hf : DataW.trod enc Tryz.prog w base (fun _ => true) held fuel 71 [.slice a len cap] = some (d, p) := hf
  rcases Go.Deep.open_slice_pairs Tryz.underlying71 Tryz.underlying25 (by kernel_rfl) rfl rfl (by kernel_rfl) (by kernel_rfl) hf with ⟨hcs, _⟩ | ⟨a', len', cap', m, n, V0, V1, D0, D1, P0, P1, hcs, _, hl, hm, hmm, hy, hr⟩
  · simp at hcs
    obtain ⟨rfl, rfl, rfl⟩ := hcs
    exact ⟨[], rfl, Nat.zero_le _, Nat.le_refl _, fun _ => rfl, sl_nil _, fun s hs => by cases hs⟩
  · simp at hcs
    obtain ⟨rfl, rfl, rfl⟩ := hcs
    simp only [if_true] at hmm
    obtain ⟨rfl, -⟩ := Prod.mk.inj hy
    have h1 := hw.len Tryz.underlying71 (of_decide_eq_true (by kernel_rfl))
    simp only [List.length_map, List.length_range] at h1
    have hR : reachBytes ≤ 140737488355328 := by decide
    have hex : ∀ i, ∃ s : St, i < len → V0 i = .slice s.A s.n s.c ∧ V1 i = .slice s.Ag s.ng s.cg ∧ SetOk w s := fun i => by
      by_cases hi : i < len
      · obtain ⟨_, _, h0, h1⟩ := hr i (by omega)
        obtain ⟨w0, w1⟩ := (hw.elem Tryz.underlying71 (List.mem_map.2 ⟨i, List.mem_range.2 hi, rfl⟩)).pair Tryz.underlying25
        obtain ⟨s, hs⟩ := set_of_trod h0 h1 w0 w1
        exact ⟨s, fun _ => hs⟩
      · exact ⟨default, fun h => absurd h hi⟩
    obtain ⟨f, hf⟩ := Classical.axiomOfChoice hex
    refine ⟨(List.range len).map f, by simp, by omega, hl, nofun, ⟨nofun, fun a' ha j u hu => ?_⟩, fun s hs => ?_⟩
    · cases ha
      have hj : j < len * 2 := by
        rcases Nat.lt_or_ge j (len * 2) with h1 | h1
        · exact h1
        · rw [List.getElem?_eq_none (by rw [VSt_length]; simp; omega)] at hu; cases hu
      have hj2 : j / 2 < len := by omega
      obtain ⟨g0, g1, _⟩ := hf (j / 2) hj2
      obtain ⟨c0, c1, _, _⟩ := hr (j / 2) (by omega)
      have hq : ((List.range len).map f).getD (j / 2) default = f (j / 2) := by simp [List.getD, hj2]
      rcases Nat.mod_two_eq_zero_or_one j with hm2 | hm2
      · have e1 : j = j / 2 * 2 := by omega
        rw [e1, VSt_get0 _ _ (by simpa using hj2), hq] at hu
        rw [e1, c0, g0, hu]
      · have e1 : j = j / 2 * 2 + 1 := by omega
        rw [e1, VSt_get1 _ _ (by simpa using hj2), hq] at hu
        rw [e1, c1, g1, hu]
    · obtain ⟨i, hi, rfl⟩ := List.mem_map.1 hs
      exact (hf i (List.mem_range.1 hi)).2.2
theorem wle_of {H : Type} {ts : List TypeId} {ds : List (DataW H)} {j : Nat} {t : TypeId} {d : DataW H} (hsz : (DataW.weightsEach Tryz.prog ts ds).all (· ≤ reachBytes) = true) (ht : ts[j]? = some t) (hd : ds[j]? = some d) : WLe t reachBytes d :=
  fun n hn => by simpa using List.all_eq_true.1 hsz _ (DataW.weights_mem_each ht hd n hn)
theorem yarg_of_trod {H : Type} {enc : TypeId × Value → H} {w : World} {base : Nat} {held : Bool} {a : Option Addr} {len cap : Nat} {d : DataW H} {p : List MemPlace}
    (h : DataW.Trod enc Tryz.prog w base (fun _ => true) held 34 (.slice a len cap) d p) (hw : WLe 34 reachBytes d) : ∃ p, Sl w a (VY p) ∧ p.length = len ∧ (∀ b ∈ p, b < 256) ∧ len ≤ 140737488355328 ∧ len ≤ cap ∧ (a = none → cap = 0) := by
  obtain ⟨fuel, hf⟩ := h
  have hf : DataW.trod enc Tryz.prog w base (fun _ => true) held fuel 34 [.slice a len cap] = some (d, p) := hf
  obtain ⟨e, -, hv, ht, hr⟩ := txt_of_trod [] hf
  injection hv with e1 e2 e3
  have hR : reachBytes ≤ 140737488355328 := by decide
  have := hr _ hw
  subst e1 e2 e3
  exact ⟨e.t, ht.sl, ht.len, ht.lt, by omega, ht.le, ht.nil⟩
end Go.Proofs.YtphccomhggnccaaGreat
namespace Go.Proofs.YtphccomhggnccaaGreat
open Go.RowKit Sg Fm
theorem SetOk.below {w w' : World} {s : St} (h : SetOk w s) (hb : Below w.heap.size w w') : SetOk w' s := ⟨h.d.below hb, h.g.below hb, h.k, h.q, h.m⟩
theorem lite_of_wt {s : St} (h : wtS s ≤ 1500) : Lite (s.es.map De.dc) s.gs := by
  have h1 : wtD (s.es.map De.dc) + wtG s.gs ≤ 1500 := h
  refine ⟨by omega, fun d hd => ?_⟩
  have := wtD_mem hd
  omega
theorem lite_of_heavy {s : St} (h : wtL [s] ≤ 1500) : Lite (s.es.map De.dc) s.gs := lite_of_wt (by simpa [wtL] using h)
end Go.Proofs.YtphccomhggnccaaGreat
