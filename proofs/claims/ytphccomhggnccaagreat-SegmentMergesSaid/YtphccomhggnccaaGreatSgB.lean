/- octet.Writer: bytes, numbers, rows laid one behind the other. -/
import Derived.Test.YtphccomhggnccaaGreatSgA
import Derived.Test.YtphccomhggnccaaGreatFmA
import Derived.Laws.BitsAllLaws
import Derived.Test.YtphccomhggnccaaGreatShelf
namespace Go.Proofs.YtphccomhggnccaaGreat
set_option maxRecDepth 100000
set_option linter.unusedVariables false
set_option linter.unusedSimpArgs false
set_option maxRecDepth 100000
open Go.RowKit
structure Fr (W W' : World) (S : Nat → Prop) : Prop where
  os : W'.os = W.os
  tape : W'.tape = W.tape
  output : W'.output = W.output
  size : W.heap.size ≤ W'.heap.size
  block : ∀ k, k < W.heap.size → ¬ S k → W'.heap[k]? = W.heap[k]?
theorem Fr.refl (W : World) (S : Nat → Prop) : Fr W W S := ⟨rfl, rfl, rfl, Nat.le_refl _, fun _ _ _ => rfl⟩
theorem Fr.trans {A B C : World} {S S' : Nat → Prop} (h : Fr A B S) (k : Fr B C S') (hs : ∀ j, j < A.heap.size → ¬ S j → ¬ S' j) : Fr A C S :=
  ⟨k.os.trans h.os, k.tape.trans h.tape, k.output.trans h.output, Nat.le_trans h.size k.size, fun j hj hn => (k.block j (Nat.lt_of_lt_of_le hj h.size) (hs j hj hn)).trans (h.block j hj hn)⟩
theorem Fr.below {W W' : World} {S : Nat → Prop} {B : Nat} (h : Fr W W' S) (hB : B ≤ W.heap.size) (hs : ∀ k, S k → B ≤ k) : Below B W W' :=
  ⟨h.os, h.tape, h.output, h.size, fun k hk => h.block k (by omega) fun hk2 => by have := hs k hk2; omega⟩
theorem fr_grown {W W' : World} {r : Option Nat} {S : Nat → Prop} (h : W.grownBy W' r) (hs : ∀ k, r = some k → S k) : Fr W W' S :=
  ⟨h.os, h.tape, h.output, h.size, fun k hk hn => h.block k hk fun e => hn (hs k e.symm)⟩
theorem fr_below {W W' : World} (h : Below W.heap.size W W') (S : Nat → Prop) : Fr W W' S := ⟨h.os, h.tape, h.output, h.size, fun k hk _ => h.block k hk⟩
structure Wr (W : World) (x : Nat) (acc : List Nat) (o : Option Nat) : Prop where
  ex : ∃ v, W.heap[x]? = some (.cells #[v] 144 (0, 0)) ∧ W.ownsRow 0 5 1 v acc.length (VY acc) ∧ v.ownBlock = o
  ne : o ≠ some x
def WrS (x : Nat) (o : Option Nat) (k : Nat) : Prop := k = x ∨ o = some k
theorem Wr.fr {W W' : World} {x : Nat} {acc : List Nat} {o : Option Nat} {S : Nat → Prop} (h : Wr W x acc o) (hf : Fr W W' S) (hs : ∀ k, WrS x o k → ¬ S k) : Wr W' x acc o := by
  obtain ⟨v, h1, h2, h3⟩ := h.ex
  refine ⟨⟨v, (hf.block x (blk_lt h1) (hs x (.inl rfl))).trans h1, ?_, h3⟩, h.ne⟩
  rcases h2.2 with h4 | ⟨g, cap, cur, e, hg, hb, h5⟩
  · exact ⟨h2.1, .inl h4⟩
  · refine ⟨h2.1, .inr ⟨g, cap, cur, e, hg, (hf.block g (blk_lt hb) (hs g (.inr ?_))).trans hb, h5⟩⟩
    rw [← h3, e]
    rfl
theorem Wr.below {W W' : World} {x : Nat} {acc : List Nat} {o : Option Nat} (h : Wr W x acc o) (hf : Below W.heap.size W W') : Wr W' x acc o := h.fr (fr_below hf (fun _ => False)) fun _ _ h => h
theorem Wr.lt {W : World} {x : Nat} {acc : List Nat} {o : Option Nat} (h : Wr W x acc o) : x < W.heap.size ∧ ∀ k, o = some k → k < W.heap.size := by
  obtain ⟨v, h1, h2, h3⟩ := h.ex
  exact ⟨blk_lt h1, fun k hk => (h2.lt k (h3.trans hk)).2⟩
def WrP (W : World) (x : Nat) (acc : List Nat) (o : Option Nat) (W' : World) : Prop :=
  ∃ o', Wr W' x acc o' ∧ (o' = o ∨ ∃ k, o' = some k ∧ W.heap.size ≤ k) ∧ Fr W W' (WrS x o)
theorem WrP.trans {A B C : World} {x : Nat} {a b : List Nat} {o : Option Nat} (h : WrP A x a o B) (hk : ∀ o', Wr B x a o' → (o' = o ∨ ∃ k, o' = some k ∧ A.heap.size ≤ k) → WrP B x b o' C) : WrP A x b o C := by
  obtain ⟨o1, h1, h2, h3⟩ := h
  obtain ⟨o2, h4, h5, h6⟩ := hk o1 h1 h2
  refine ⟨o2, h4, ?_, h3.trans h6 fun j hj hn hj2 => ?_⟩
  · rcases h5 with rfl | ⟨k, rfl, hk⟩
    · exact h2
    · exact .inr ⟨k, rfl, Nat.le_trans h3.size hk⟩
  · rcases hj2 with rfl | e
    · exact hn (.inl rfl)
    · rcases h2 with rfl | ⟨k, rfl, hk⟩
      · exact hn (.inr e)
      · cases e; omega
theorem Wr.self {W : World} {x : Nat} {acc : List Nat} {o : Option Nat} (h : Wr W x acc o) : WrP W x acc o W := ⟨o, h, .inl rfl, Fr.refl _ _⟩
theorem wr_new (W : World) : Wr (W.alloc (.cells #[.slice none 0 0] 144)) W.heap.size [] none :=
  ⟨⟨_, heap_alloc_new W _, World.ownsRow_nil _ _ _ _, rfl⟩, fun h => by cases h⟩
theorem Wr.put {W w0 w1 : World} {x : Nat} {acc p : List Nat} {o : Option Nat} {v v' : Value} (h1 : W.heap[x]? = some (.cells #[v] 144 (0, 0))) (h3 : v.ownBlock = o) (hne : o ≠ some x)
    (h0 : Below W.heap.size W w0) (hown : w1.ownsRow 0 5 1 v' (acc.length + p.length) (VY acc ++ VY p)) (hg : w0.grownBy w1 v.ownBlock) (hat : v'.ownBlock = v.ownBlock ∨ v'.ownBlock = some w0.heap.size) :
    w1.heap[x]? = some (.cells #[v] 144 (0, 0)) ∧ WrP W x (acc ++ p) o (w1.setCell ⟨x, 0, none⟩ v') := by
  have hx := blk_lt h1
  have hx1 : w1.heap[x]? = some (.cells #[v] 144 (0, 0)) := (hg.block x (Nat.lt_of_lt_of_le hx h0.size) (fun e => hne (by rw [← h3]; exact e.symm))).trans ((h0.block x hx).trans h1)
  have hs := h0.size
  have hne' : v'.ownBlock ≠ some x := by
    rcases hat with e | e
    · rw [e, h3]; exact hne
    · rw [e]; intro e2; cases e2; omega
  refine ⟨hx1, v'.ownBlock, ⟨⟨v', ?_, ?_, rfl⟩, hne'⟩, ?_, ?_⟩
  · have := blk_set hx1 0 v'
    simpa using this
  · rw [List.length_append, VY_append]
    exact World.ownsRow.kept hown (grown_set w1 x 0 v') (.inr hne')
  · rcases hat with e | e
    · exact .inl (e.trans h3)
    · exact .inr ⟨_, e, hs⟩
  · refine ((fr_below h0 (WrS x o)).trans (S' := WrS x o) (fr_grown hg fun k hk => .inr (by rw [← h3]; exact hk)) fun _ _ h => h).trans (S' := WrS x o) (fr_grown (grown_set w1 x 0 v') fun k hk => .inl (by cases hk; rfl)) fun _ _ h => h
set_option maxHeartbeats 2000000 in
theorem raw_any {W : World} {x : Nat} {acc : List Nat} {o : Option Nat} (h : Wr W x acc o) (A : Option Addr) (n c : Nat) (p : List Nat) (hA : Sl W A (VY p)) (hl : p.length = n) (hc : A = none → c = 0) (hlen : acc.length + n ≤ 1099511627776) :
    Calls Tryz.prog 103 #[.pointer (some ⟨x, 0, none⟩), .slice A n c] W fun e W' => e = .returned (.tuple #[]) ∧ WrP W x (acc ++ p) o W' := by
  obtain ⟨v, h1, h2, h3⟩ := h.ex
  have hc0 : W.cell? ⟨x, 0, none⟩ = some v := cell_blk h1 0
  have Hne := Lib.hid h.ne
  have H3 := Lib.hid h3
  have H1 := Lib.hid h1
  have Hl := Lib.hid hl
  clear h1 h3 hl
  go_enter Tryz.func103, Tryz.ntmps103
  go_wp2_with (at_builtin; refine appE el_u8 rfl _ _ rfl 0 v acc.length (VY acc) rfl h2 A n c (VY p) rfl hc (by rw [VY_length, Hl.out, Nat.mul_one]) hA (VY_one _) hlen (Nat.zero_le _) ?_; intro v' w1 hown hg _ hat; obtain ⟨A7, c7, hv7, _⟩ := own_form hown; subst hv7; obtain ⟨hx1, hW⟩ := Wr.put (acc := acc) (p := p) H1.out H3.out Hne.out (Below.refl _ W) (by rw [Hl.out]; exact hown) hg hat; have hc1 : w1.cell? ⟨x, 0, none⟩ = some v := cell_blk hx1 0; have hf1 := frozen_blk hx1 0; have HW := Lib.hid hW; clear hx1 hW hown hg hat)


  go_end0
  exact ⟨rfl, HW.out⟩
theorem Sl.fr {W W' : World} {A : Option Addr} {xs : List Value} {S : Nat → Prop} (h : Sl W A xs) (hf : Fr W W' S) (hs : ∀ a, A = Option.some a → ¬ S a.block) : Sl W' A xs :=
  h.kept fun a ha hx => hf.block _ (h.lt a ha hx) (hs a ha)
theorem wrp_trans {A B C : World} {x : Nat} {a b : List Nat} {o o1 : Option Nat} (h1 : Wr B x a o1) (h2 : o1 = o ∨ ∃ k, o1 = some k ∧ A.heap.size ≤ k) (h3 : Fr A B (WrS x o)) (k : WrP B x b o1 C) : WrP A x b o C := by
  obtain ⟨o2, h4, h5, h6⟩ := k
  refine ⟨o2, h4, ?_, h3.trans h6 fun j hj hn hj2 => ?_⟩
  · rcases h5 with rfl | ⟨k, rfl, hk⟩
    · exact h2
    · exact .inr ⟨k, rfl, Nat.le_trans h3.size hk⟩
  · rcases hj2 with rfl | e
    · exact hn (.inl rfl)
    · rcases h2 with rfl | ⟨k, rfl, hk⟩
      · exact hn (.inr e)
      · cases e; omega
theorem getDn {s : List Nat} {i : Nat} (h : i < s.length) : s.getD i 0 = s[i] := by simp [List.getD, List.getElem?_eq_getElem h]
theorem or128 {v : Nat} : bits .or .u8 ((v : Int) % 256) 128 = ((v % 128 + 128 : Nat) : Int) := by
  have e1 : (v : Int) % 256 = ((v % 256 : Nat) : Int) := by omega
  rw [e1, show (128 : Int) = ((128 : Nat) : Int) from rfl, u8_or_nat _ _ (Nat.mod_lt _ (by decide)) (by decide)]
  congr 1
  have h1 : v % 256 ||| 128 = v % 128 ||| 128 := by
    apply Nat.eq_of_testBit_eq
    intro i
    rw [Nat.testBit_or, Nat.testBit_or, show 256 = 2 ^ 8 from rfl, show (128 : Nat) = 2 ^ 7 from rfl, Nat.testBit_mod_two_pow, Nat.testBit_mod_two_pow, Nat.testBit_two_pow]
    by_cases h : i = 7
    · subst h; simp
    · have e : decide (i < 8) = decide (i < 7) := by rw [decide_eq_decide]; omega
      rw [e]
  rw [h1]
  have := Nat.two_pow_add_eq_or_of_lt (i := 7) (b := v % 128) (Nat.mod_lt _ (by decide)) 1
  rw [Nat.or_comm]
  simpa [Nat.add_comm] using this.symm
theorem wrap8_lo {v : Nat} (h : v < 128) : IntKind.u8.wrap (v : Int) = (v : Int) := by
  simp [IntKind.wrap, IntKind.bits, IntKind.signed]
  omega
open Sg in
set_option maxHeartbeats 4000000 in
theorem nums_any {W : World} {x : Nat} {acc : List Nat} {o : Option Nat} (h : Wr W x acc o) (A : Option Addr) (n c : Nat) (vs : List Nat) (hA : Sl W A (VI (NI vs))) (hl : vs.length = n) (hap : ∀ a, A = some a → ¬ WrS x o a.block) (hv : ∀ v ∈ vs, v < 4294967296) (hn : n ≤ 1099511627) (hlen : acc.length ≤ 1099511627) :
    Calls Tryz.prog 104 #[.pointer (some ⟨x, 0, none⟩), .slice A n c] W fun e W' => e = .returned (.tuple #[]) ∧ WrP W x (acc ++ nums vs) o W' := by
  have HW := Lib.hid h
  have HA := Lib.hid hA
  have Hl := Lib.hid hl
  have Hap := Lib.hid hap
  have Hv := Lib.hid hv
  clear h hA hl hap hv
  go_enter Tryz.func104, Tryz.ntmps104
  go_wp2_with fail
  go_loopw [11] (fun q wr => ∃ k : Nat, k ≤ n ∧ q = .int .i64 (k : Int) ∧ Hid (WrP W x (acc ++ nums (vs.take k)) o wr)) (fun q _ => n - (intOf q).toNat)
  case atStart => exact ⟨0, Nat.zero_le _, rfl, Lib.hid (by simpa [nums] using HW.out.self)⟩
  case round =>
    obtain ⟨k, hk, rfl, HP⟩ := hrel
    by_cases hkn : k < n
    · obtain ⟨o1, hw1, ho1, hf1⟩ := HP.out
      have hA1 := HA.out.fr hf1 Hap.out
      obtain ⟨a, rfl, hcell⟩ := hA1.some (j := k) (by rw [VI_length, NI_length, Hl.out]; exact hkn)
      rw [VI_get _ _ (by rw [NI_length, Hl.out]; exact hkn), NI_getD _ _ (by rw [Hl.out]; exact hkn)] at hcell
      have hvk : vs.getD k 0 < 4294967296 := Hv.out _ (by rw [getDn (by rw [Hl.out]; exact hkn)]; exact List.getElem_mem _)
      have htk : nums (vs.take (k + 1)) = nums (vs.take k) ++ num (vs.getD k 0) := by
        rw [List.take_succ_eq_append_getElem (by rw [Hl.out]; exact hkn), nums_snoc, getDn (by rw [Hl.out]; exact hkn)]
      have hnl := nums_len 4 (vs.take k) (fun v hv => by have := Hv.out v (List.mem_of_mem_take hv); omega)
      rw [List.length_take] at hnl
      have hnl2 := num_len 4 (vs.getD k 0) (by omega)
      obtain ⟨v, hve⟩ : ∃ v, vs.getD k 0 = v := ⟨_, rfl⟩
      rw [hve] at hcell hvk htk hnl2
      have Hw1 := Lib.hid hw1
      have Ho1 := Lib.hid ho1
      have Hf1 := Lib.hid hf1
      have Htk := Lib.hid htk
      have hal : (acc ++ nums (vs.take k)).length ≤ 8796093016 := by rw [List.length_append]; omega
      have Hal := Lib.hid hal
      have hmin : min (v : Int) 4611686018427387904 = (v : Int) := by omega
      clear hw1 ho1 hf1 hA1 htk hve hnl hal
      obtain ⟨wo, rfl⟩ : ∃ wo : World, wo = wr := ⟨_, rfl⟩
      have hz : v = 0 ∨ 0 < v := by omega
      rcases hz with hz | hz
      · have hzi : ¬ (0 : Int) < (v : Int) := by omega
        have Hz : Hid (Value.int .u64 0 = Value.int .u64 (v : Int)) := by show _ = _; rw [hz]; rfl
        clear hz
        go_wp2_with fail
        go_loopw [6] (fun q wr2 => ∃ (u : Nat) (dn : List Nat), q = .int .u64 (u : Int) ∧ u ≤ v ∧ Hid (num v = dn ++ num u) ∧ Hid (WrP W x (acc ++ nums (vs.take k) ++ dn) o wr2)) (fun q _ => (intOf q).toNat)
        case atStart => exact ⟨v, [], (by first | exact Hz.out | rfl), Nat.le_refl _, Lib.hid rfl, Lib.hid (by rw [List.append_nil]; exact HP.out)⟩
        case round =>
          obtain ⟨u, dn, rfl, huv, Hnu, HP2⟩ := hrel
          obtain ⟨o2, hw2, ho2, hf2⟩ := HP2.out
          have hdl : dn.length + (num u).length ≤ 5 := by
            have := congrArg List.length Hnu.out
            rw [List.length_append] at this
            omega
          have hnp := num_pos u
          have hal := Hal.out
          have hnum : 128 ≤ u → num u = (u % 128 + 128) :: num (u / 128) := num_hi
          have hnuml : u < 128 → num u = [u] := num_lo
          obtain ⟨vv, h1, h2, h3⟩ := hw2.ex
          have hc0 : wr.cell? ⟨x, 0, none⟩ = some vv := cell_blk h1 0
          have H1 := Lib.hid h1
          have H2 := Lib.hid h2
          have H3 := Lib.hid h3
          have Hne := Lib.hid hw2.ne
          have Hw2 := Lib.hid hw2
          have Ho2 := Lib.hid ho2
          have Hf2 := Lib.hid hf2
          have Hnl := Lib.hid hnuml
          have Hnh := Lib.hid hnum
          have hal2 : (acc ++ nums (vs.take k) ++ dn).length + 1 ≤ 1099511627776 := by rw [List.length_append]; omega
          obtain ⟨L, hL⟩ : ∃ L, acc ++ nums (vs.take k) ++ dn = L := ⟨_, rfl⟩
          rw [hL] at H2 hal2 Hw2
          have HL := Lib.hid hL
          clear h1 h2 h3 hw2 ho2 hf2 hdl hnp hal hnum hnuml hL
          by_cases hu : 128 ≤ u
          · exfalso; omega
          · have hui : ¬ (128 : Int) ≤ (u : Int) := by omega
            have hw8 : IntKind.u8.wrap (u : Int) = (u : Int) := wrap8_lo (by omega)
            go_wp2_with (at_builtin; refine appE el_u8 rfl _ _ rfl 0 vv L.length (VY L) rfl (World.ownsRow.alloc H2.out _) (some ⟨wr.heap.size, 0, none⟩) 1 1 (VY [u]) rfl (fun h => by cases h) rfl (sl_blk (heap_alloc_new wr _)) (VY_one _) hal2 (Nat.zero_le _) ?_; intro v' w1 hown hg _ hat; obtain ⟨A7, c7, hv7, _⟩ := own_form hown; subst hv7; obtain ⟨hx1, hW⟩ := Wr.put (acc := L) (p := [u]) H1.out H3.out Hne.out ((Below.refl _ wr).alloc (Nat.le_refl _) _) hown hg hat; have hc1 : w1.cell? ⟨x, 0, none⟩ = some vv := cell_blk hx1 0; have hf1 := frozen_blk hx1 0; have HWn := Lib.hid hW; clear hx1 hW hown hg hat)
            go_roundw
            case rel => exact ⟨k + 1, by omega, by go_num, Lib.hid (by rw [Htk.out, Hnu.out, Hnl.out (by omega), ← List.append_assoc, ← List.append_assoc, HL.out]; exact wrp_trans Hw2.out Ho2.out Hf2.out HWn.out)⟩
            case measure => simp [intOf]; omega
      · have hzi : (0 : Int) < (v : Int) := by omega
        have Hz : Hid (Value.int .u64 (v : Int) = Value.int .u64 (v : Int)) := Lib.hid rfl
        clear hz
        go_wp2_with fail
        go_loopw [6] (fun q wr2 => ∃ (u : Nat) (dn : List Nat), q = .int .u64 (u : Int) ∧ u ≤ v ∧ Hid (num v = dn ++ num u) ∧ Hid (WrP W x (acc ++ nums (vs.take k) ++ dn) o wr2)) (fun q _ => (intOf q).toNat)
        case atStart => exact ⟨v, [], rfl, Nat.le_refl _, Lib.hid rfl, Lib.hid (by rw [List.append_nil]; exact HP.out)⟩
        case round =>
          obtain ⟨u, dn, rfl, huv, Hnu, HP2⟩ := hrel
          obtain ⟨o2, hw2, ho2, hf2⟩ := HP2.out
          have hdl : dn.length + (num u).length ≤ 5 := by
            have := congrArg List.length Hnu.out
            rw [List.length_append] at this
            omega
          have hnp := num_pos u
          have hal := Hal.out
          have hnum : 128 ≤ u → num u = (u % 128 + 128) :: num (u / 128) := num_hi
          have hnuml : u < 128 → num u = [u] := num_lo
          obtain ⟨vv, h1, h2, h3⟩ := hw2.ex
          have hc0 : wr.cell? ⟨x, 0, none⟩ = some vv := cell_blk h1 0
          have H1 := Lib.hid h1
          have H2 := Lib.hid h2
          have H3 := Lib.hid h3
          have Hne := Lib.hid hw2.ne
          have Hw2 := Lib.hid hw2
          have Ho2 := Lib.hid ho2
          have Hf2 := Lib.hid hf2
          have Hnl := Lib.hid hnuml
          have Hnh := Lib.hid hnum
          have hal2 : (acc ++ nums (vs.take k) ++ dn).length + 1 ≤ 1099511627776 := by rw [List.length_append]; omega
          obtain ⟨L, hL⟩ : ∃ L, acc ++ nums (vs.take k) ++ dn = L := ⟨_, rfl⟩
          rw [hL] at H2 hal2 Hw2
          have HL := Lib.hid hL
          clear h1 h2 h3 hw2 ho2 hf2 hdl hnp hal hnum hnuml hL
          by_cases hu : 128 ≤ u
          · have hui : (128 : Int) ≤ (u : Int) := by omega
            have hor := @or128 u
            obtain ⟨d, hd⟩ : ∃ d, u % 128 + 128 = d := ⟨_, rfl⟩
            obtain ⟨u2, hu2⟩ : ∃ d, u / 128 = d := ⟨_, rfl⟩
            have hdv : (u : Int) / 128 = (u2 : Int) := by omega
            have hnx := Hnh.out hu
            rw [hd] at hor hnx
            rw [hu2] at hnx
            have Hnx := Lib.hid hnx
            have hu2v : u2 < u := by omega
            clear hd hu2 hnx
            go_wp2_with (at_builtin; refine appE el_u8 rfl _ _ rfl 0 vv L.length (VY L) rfl (World.ownsRow.alloc H2.out _) (some ⟨wr.heap.size, 0, none⟩) 1 1 (VY [d]) rfl (fun h => by cases h) rfl (sl_blk (heap_alloc_new wr _)) (VY_one _) hal2 (Nat.zero_le _) ?_; intro v' w1 hown hg _ hat; obtain ⟨A7, c7, hv7, _⟩ := own_form hown; subst hv7; obtain ⟨hx1, hW⟩ := Wr.put (acc := L) (p := [d]) H1.out H3.out Hne.out ((Below.refl _ wr).alloc (Nat.le_refl _) _) hown hg hat; have hc1 : w1.cell? ⟨x, 0, none⟩ = some vv := cell_blk hx1 0; have hf1 := frozen_blk hx1 0; have HWn := Lib.hid hW; clear hx1 hW hown hg hat)
            go_roundw
            case rel => exact ⟨u2, dn ++ [d], by first | rfl | go_num, by omega, Lib.hid (by rw [Hnu.out, Hnx.out]; simp), Lib.hid (by rw [← List.append_assoc, HL.out]; exact wrp_trans Hw2.out Ho2.out Hf2.out HWn.out)⟩
            case measure => simp [intOf]; omega
          · have hui : ¬ (128 : Int) ≤ (u : Int) := by omega
            have hw8 : IntKind.u8.wrap (u : Int) = (u : Int) := wrap8_lo (by omega)
            go_wp2_with (at_builtin; refine appE el_u8 rfl _ _ rfl 0 vv L.length (VY L) rfl (World.ownsRow.alloc H2.out _) (some ⟨wr.heap.size, 0, none⟩) 1 1 (VY [u]) rfl (fun h => by cases h) rfl (sl_blk (heap_alloc_new wr _)) (VY_one _) hal2 (Nat.zero_le _) ?_; intro v' w1 hown hg _ hat; obtain ⟨A7, c7, hv7, _⟩ := own_form hown; subst hv7; obtain ⟨hx1, hW⟩ := Wr.put (acc := L) (p := [u]) H1.out H3.out Hne.out ((Below.refl _ wr).alloc (Nat.le_refl _) _) hown hg hat; have hc1 : w1.cell? ⟨x, 0, none⟩ = some vv := cell_blk hx1 0; have hf1 := frozen_blk hx1 0; have HWn := Lib.hid hW; clear hx1 hW hown hg hat)
            go_roundw
            case rel => exact ⟨k + 1, by omega, by go_num, Lib.hid (by rw [Htk.out, Hnu.out, Hnl.out (by omega), ← List.append_assoc, ← List.append_assoc, HL.out]; exact wrp_trans Hw2.out Ho2.out Hf2.out HWn.out)⟩
            case measure => simp [intOf]; omega
    · obtain rfl : k = n := by omega
      go_wp2_with fail
      go_end0
      exact ⟨rfl, by have := HP.out; rwa [← Hl.out, List.take_length] at this⟩
end Go.Proofs.YtphccomhggnccaaGreat
namespace Go.Proofs.YtphccomhggnccaaGreat
set_option maxRecDepth 100000
set_option linter.unusedVariables false
set_option linter.unusedSimpArgs false
set_option maxRecDepth 100000
open Go.RowKit
theorem crc_odd {v : Nat} (hv : v < 4294967296) (h : v % 2 = 1) : bits .and .u32 (v : Int) 1 = 1 := by
  rw [show (1 : Int) = ((1 : Nat) : Int) from rfl, u32_and_nat _ _ hv (by decide), Nat.and_one_is_mod, h]
theorem crc_even {v : Nat} (hv : v < 4294967296) (h : v % 2 = 0) : bits .and .u32 (v : Int) 1 = 0 := by
  rw [show (1 : Int) = ((1 : Nat) : Int) from rfl, u32_and_nat _ _ hv (by decide), Nat.and_one_is_mod, h]
  rfl
theorem crc_mask1 : bits .and .u32 3988292384 4294967295 = 3988292384 := by decide
theorem crc_mask0 : bits .and .u32 3988292384 0 = 0 := by decide
theorem crc_x1 {v : Nat} (hv : v < 4294967296) : bits .xor .u32 ((v : Int) / 2) 3988292384 = (((v / 2) ^^^ 3988292384 : Nat) : Int) := by
  rw [show (3988292384 : Int) = ((3988292384 : Nat) : Int) from rfl, show (v : Int) / 2 = ((v / 2 : Nat) : Int) by omega, u32_xor_nat _ _ (by omega) (by decide)]
theorem crc_x0 {v : Nat} (hv : v < 4294967296) : bits .xor .u32 ((v : Int) / 2) 0 = ((v / 2 : Nat) : Int) := by
  rw [show (0 : Int) = ((0 : Nat) : Int) from rfl, show (v : Int) / 2 = ((v / 2 : Nat) : Int) by omega, u32_xor_nat _ _ (by omega) (by decide), Nat.xor_zero]
theorem crc_in {v c : Nat} (hv : v < 4294967296) (hc : c < 256) : bits .xor .u32 (v : Int) (c : Int) = ((v ^^^ c : Nat) : Int) := u32_xor_nat _ _ hv (by omega)
theorem crc_out {v : Nat} (hv : v < 4294967296) : bits .xor .u32 IntKind.u32.max (v : Int) = ((v ^^^ 4294967295 : Nat) : Int) := by
  rw [show IntKind.u32.max = (4294967295 : Int) from rfl, show (4294967295 : Int) = ((4294967295 : Nat) : Int) from rfl, u32_xor_nat _ _ (by decide) hv, Nat.xor_comm]
open Sg in
theorem crcF_snoc (v : Nat) (p : List Nat) (k : Nat) (h : k < p.length) : crcF v (p.take (k + 1)) = crcN 8 (crcF v (p.take k) ^^^ p.getD k 0) := by
  rw [List.take_succ_eq_append_getElem h, crcF_append, getDn h]
  rfl
open Sg in
set_option maxHeartbeats 4000000 in
theorem sum_any (w : World) (b o cc : Nat) (A : Option Addr) (n c : Nat) (p : List Nat) (hcell : w.cell? ⟨b, o, none⟩ = some (.slice A n c)) (hA : Sl w A (VY p)) (hl : p.length = n) (hb : ∀ x ∈ p, x < 256) (hn : n ≤ 1099511627776) :
    Calls Tryz.prog 146 #[.slice (some ⟨b, o, none⟩) 1 cc] w fun e w' => e = .returned (.int .u32 ((crc p : Nat) : Int)) ∧ w = w' := by
  have HA := Lib.hid hA
  have Hl := Lib.hid hl
  have Hb := Lib.hid hb
  clear hA hl hb
  go_enter Tryz.func146, Tryz.ntmps146
  go_wp2_with fail
  go_loopw [3, 10] (fun s3 q wr => ((q = .int .i64 0 ∧ s3 = .int .u32 4294967295) ∨ (q = .int .i64 1 ∧ s3 = .int .u32 ((crcF 4294967295 p : Nat) : Int))) ∧ w = wr) (fun _ q _ => 1 - (intOf q).toNat)
  case atStart => exact ⟨.inl ⟨rfl, by first | rfl | decide⟩, rfl⟩
  case round =>
    obtain ⟨hq, rfl⟩ := hrel
    rcases hq with ⟨rfl, rfl⟩ | ⟨rfl, rfl⟩
    · go_wp2_with fail
      go_loopw [3, 16] (fun s3 q wr => ∃ (k v : Nat), k ≤ n ∧ q = .int .i64 (k : Int) ∧ s3 = .int .u32 (v : Int) ∧ v < 4294967296 ∧ Hid (v = crcF 4294967295 (p.take k)) ∧ w = wr) (fun _ q _ => n - (intOf q).toNat)
      case atStart => exact ⟨0, 4294967295, Nat.zero_le _, rfl, rfl, by decide, Lib.hid rfl, rfl⟩
      case round =>
        obtain ⟨k, v, hk, rfl, rfl, hv, HV, rfl⟩ := hrel
        by_cases hkn : k < n
        · obtain ⟨a, rfl, hc1⟩ := HA.out.some (j := k) (by rw [VY_length, Hl.out]; exact hkn)
          rw [VY_get _ _ (by rw [Hl.out]; exact hkn)] at hc1
          have hpb : p.getD k 0 < 256 := Hb.out _ (by rw [getDn (by rw [Hl.out]; exact hkn)]; exact List.getElem_mem _)
          have hsn := crcF_snoc 4294967295 p k (by rw [Hl.out]; exact hkn)
          rw [← HV.out] at hsn
          generalize p.getD k 0 = ch at *
          have hxi := crc_in hv hpb
          have hvx : v ^^^ ch < 4294967296 := xor_lt32 hv (by omega)
          generalize v ^^^ ch = u0 at *
          have Hsn := Lib.hid hsn
          clear hsn
          go_wp2_with fail
          go_loopw [3, 24] (fun s3 q wr => ∃ (j u : Nat), j ≤ 8 ∧ q = .int .i64 (j : Int) ∧ s3 = .int .u32 (u : Int) ∧ u < 4294967296 ∧ Hid (u = crcN j u0) ∧ w = wr) (fun _ q _ => 8 - (intOf q).toNat)
          case atStart => exact ⟨0, u0, by omega, rfl, rfl, hvx, Lib.hid rfl, rfl⟩
          case round =>
            obtain ⟨j, u, hj, rfl, rfl, hu, HU, rfl⟩ := hrel
            by_cases hj8 : j < 8
            · rcases Nat.mod_two_eq_zero_or_one u with hm | hm
              · have h1 := crc_even hu hm
                have h2 := crc_mask0
                have h3 := crc_x0 hu
                obtain ⟨u2, hu2⟩ : ∃ x, u / 2 = x := ⟨_, rfl⟩
                rw [hu2] at h3
                have HU2 : Hid (u2 = crcN (j + 1) u0) := Lib.hid (by rw [crcN_succ, ← HU.out, ← hu2]; unfold crcB; rw [if_neg (by omega)])
                have hu3 : u2 < 4294967296 := by omega
                clear hu2 hm
                go_wp2_with fail
                go_roundw
                case rel => exact ⟨j + 1, u2, by omega, by go_num, rfl, hu3, HU2, trivial⟩
                case measure => simp [intOf]; omega
              · have h1 := crc_odd hu hm
                have h2 := crc_mask1
                have h3 := crc_x1 hu
                have hu4 := xor_lt32 (a := u / 2) (b := 3988292384) (by omega) (by decide)
                obtain ⟨u2, hu2⟩ : ∃ x, u / 2 ^^^ 3988292384 = x := ⟨_, rfl⟩
                rw [hu2] at h3 hu4
                have HU2 : Hid (u2 = crcN (j + 1) u0) := Lib.hid (by rw [crcN_succ, ← HU.out, ← hu2]; unfold crcB; rw [if_pos hm])
                clear hu2 hm
                go_wp2_with fail
                go_roundw
                case rel => exact ⟨j + 1, u2, by omega, by go_num, rfl, hu4, HU2, trivial⟩
                case measure => simp [intOf]; omega
            · obtain rfl : j = 8 := by omega
              have HV2 : Hid (u = crcF 4294967295 (p.take (k + 1))) := Lib.hid (by rw [Hsn.out]; exact HU.out)
              go_wp2_with fail
              go_roundw
              case rel => exact ⟨k + 1, u, by omega, by go_num, rfl, hu, HV2, trivial⟩
              case measure => simp [intOf]; omega
        · obtain rfl : k = n := by omega
          have HV2 : Hid (v = crcF 4294967295 p) := Lib.hid (by have := HV.out; rwa [← Hl.out, List.take_length] at this)
          go_wp2_with fail
          refine ⟨⟨.inr ⟨rfl, by rw [HV2.out]⟩, trivial⟩, by decide⟩
    · have hcl : crcF 4294967295 p < 4294967296 := crcF_lt Hb.out (by decide)
      have ho := crc_out hcl
      have Hcr : Hid (crc p = crcF 4294967295 p ^^^ 4294967295) := Lib.hid rfl
      generalize crcF 4294967295 p = u at *
      generalize u ^^^ 4294967295 = z at *
      go_wp2_with fail
      go_ret
      exact ⟨by rw [Hcr.out]; rfl, rfl⟩
end Go.Proofs.YtphccomhggnccaaGreat
namespace Go.Proofs.YtphccomhggnccaaGreat
set_option maxRecDepth 100000
set_option linter.unusedVariables false
set_option linter.unusedSimpArgs false
set_option maxRecDepth 100000
open Go.RowKit Sg
theorem kn_length (p : List Nat) : (kn p).length = p.length := by simp [kn]
theorem kn_append (p q : List Nat) : kn (p ++ q) = kn p ++ kn q := by simp [kn]
theorem ofNat_toNat {x : Nat} (h : x < 256) : (UInt8.ofNat x).toNat = x := by simp; exact h
theorem holdsB {w : World} {A : Option Addr} {n c : Nat} {p : List Nat} (hS : Sl w A (VY p)) (hl : p.length = n) (hb : ∀ x ∈ p, x < 256) : Lib.HoldsBytes w (.slice A n c) (kn p) := by
  refine ⟨A, c, by rw [kn_length, hl], fun e => ?_, fun a ha i x hx => ?_⟩
  · have := hS.nil e
    have h2 : p.length = 0 := by rw [← VY_length, this]; rfl
    rw [List.eq_nil_of_length_eq_zero h2]; rfl
  · have hi : i < p.length := by
      rcases Nat.lt_or_ge i p.length with h | h
      · exact h
      · rw [List.getElem?_eq_none (by rw [kn_length]; exact h)] at hx; cases hx
    have hx2 : x = UInt8.ofNat (p.getD i 0) := by
      simp [kn, List.getElem?_eq_getElem hi, List.getD] at hx ⊢
      exact hx.symm
    rw [hx2, ofNat_toNat (hb _ (by rw [getDn hi]; exact List.getElem_mem hi))]
    exact hS.cell a ha i _ (VY_get p i hi)
theorem freshSl {B : Nat} {w' : World} {v : Value} {p : List Nat} (h : Lib.FreshBytes B w' v (kn p)) (hb : ∀ x ∈ p, x < 256) : ∃ g cap, v = .slice (some ⟨g, 0, none⟩) p.length cap ∧ B ≤ g ∧ p.length ≤ cap ∧ Sl w' (some ⟨g, 0, none⟩) (VY p) := by
  obtain ⟨g, cap, zs, h1, h2, h3, h4, h5, h6, h7, h8, h9⟩ := h
  rw [kn_length] at h1 h3 h7
  refine ⟨g, cap, h1, h2, h3, fun e => (by cases e), fun a ha j u hu => ?_⟩
  cases ha
  have hj : j < p.length := by
    rcases Nat.lt_or_ge j p.length with h | h
    · exact h
    · rw [List.getElem?_eq_none (by rw [VY_length]; exact h)] at hu; cases hu
  rw [show (⟨g, 0, none⟩ : Addr).add j = ⟨g, j, none⟩ by unfold Addr.add; split <;> simp_all, h8 j (by omega), ← hu, VY_get p j hj]
  have hz : j < zs.length := by omega
  have e1 := congrArg (fun l => l[j]?) h7
  have hzj := h6 zs[j] (List.getElem_mem hz)
  simp [Lib.bytesOf, kn, List.getElem?_take, hj, List.getElem?_eq_getElem hz, List.getElem?_eq_getElem hj] at e1
  have e2 := congrArg UInt8.toNat e1
  rw [ofNat_toNat (hb _ (List.getElem_mem hj)), ofNat_toNat (by omega)] at e2
  simp only [List.getD, List.getElem?_eq_getElem hz, List.getElem?_eq_getElem hj, Option.getD_some]
  congr 2
  omega
def MadeY (w : World) (p : List Nat) (e : Ending) (w' : World) : Prop := ∃ g cap, e = .returned (.slice (some ⟨g, 0, none⟩) p.length cap) ∧ w.heap.size ≤ g ∧ p.length ≤ cap ∧ Sl w' (some ⟨g, 0, none⟩) (VY p) ∧ Below w.heap.size w w'
theorem join2_any (w : World) (b o cc : Nat) (A1 A2 : Option Addr) (n1 n2 c1 c2 : Nat) (p1 p2 : List Nat) (h1 : w.cell? ⟨b, o, none⟩ = some (.slice A1 n1 c1)) (h2 : w.cell? ⟨b, o + 1, none⟩ = some (.slice A2 n2 c2)) (hS1 : Sl w A1 (VY p1)) (hS2 : Sl w A2 (VY p2)) (hl1 : p1.length = n1) (hl2 : p2.length = n2) (hb1 : ∀ x ∈ p1, x < 256) (hb2 : ∀ x ∈ p2, x < 256) (hcc : 2 ≤ cc) (hn : n1 + n2 ≤ 1099511627776) :
    Calls Tryz.prog 143 #[.slice (some ⟨b, o, none⟩) 2 cc] w (MadeY w (p1 ++ p2)) := by
  have hP : Lib.PartsAt w ⟨b, o, none⟩ [.slice A1 n1 c1, .slice A2 n2 c2] [kn p1, kn p2] := by
    refine ⟨rfl, fun i v hv => ?_, fun i v l hv hl => ?_⟩
    · match i, hv with
      | 0, hv => simp at hv; subst hv; exact h1
      | 1, hv => simp at hv; subst hv; exact h2
    · match i, hv, hl with
      | 0, hv, hl => simp at hv hl; subst hv hl; exact holdsB hS1 hl1 hb1
      | 1, hv, hl => simp at hv hl; subst hv hl; exact holdsB hS2 hl2 hb2
  have HJ := Lib.hid (Tryz.bytes_Join_many b o 2 cc [.slice A1 n1 c1, .slice A2 n2 c2] [kn p1, kn p2] (.slice none 0 0) [] w rfl (by omega) hP hcc ⟨none, 0, rfl, fun _ => rfl, fun a ha => by cases ha⟩ (by omega) (by simp [Lib.lens, kn_length]; omega))
  subst hl1 hl2
  clear hP h1 h2 hS1 hS2
  go_enter Tryz.func143, Tryz.ntmps143
  go_wp2_with fail
  go_at_call 197
  refine HJ.out.mono ?_
  rintro e w' ⟨v, rfl, hF, hB⟩
  have e1 : Lib.join [kn p1, kn p2] [] = kn (p1 ++ p2) := by rw [kn_append]; simp [Lib.join, List.intercalate]
  rw [e1] at hF
  obtain ⟨g, cap, rfl, hg, hc, hS⟩ := freshSl hF (fun x hx => by rcases List.mem_append.1 hx with h | h; exact hb1 x h; exact hb2 x h)
  have HS := Lib.hid hS
  have HB := Lib.hid hB
  have HG := Lib.hid (And.intro hg hc)
  clear hF hB hS hg hc HJ
  go_wp2_with fail
  go_ret
  exact ⟨g, cap, by first | rfl | (rw [List.length_append]; rfl), HG.out.1, HG.out.2, HS.out, HB.out⟩
theorem join1_any (w : World) (b o cc : Nat) (ad : Addr) (n1 c1 : Nat) (p1 : List Nat) (h1 : w.cell? ⟨b, o, none⟩ = some (.slice (some ad) n1 c1)) (hS1 : Sl w (some ad) (VY p1)) (hl1 : p1.length = n1) (hb1 : ∀ x ∈ p1, x < 256) (h0 : 0 < n1) (hn : n1 ≤ 1099511627776) :
    Calls Tryz.prog 143 #[.slice (some ⟨b, o, none⟩) 1 cc] w (MadeY w p1) := by
  have HJ := Lib.hid (Tryz.bytes_Join_one b o cc ad c1 (kn p1) (.slice none 0 0) w (by rw [kn_length, hl1]; exact h1) (fun i x hx => by
    obtain ⟨A, c, e, _, h⟩ := holdsB (n := n1) (c := c1) hS1 hl1 hb1
    injection e with e1
    exact h ad e1.symm i x hx) (by rw [kn_length, hl1]; exact h0) (by rw [kn_length, hl1]; omega))
  subst hl1
  clear h1 hS1
  go_enter Tryz.func143, Tryz.ntmps143
  go_wp2_with fail
  go_at_call 197
  refine HJ.out.mono ?_
  rintro e w' ⟨v, rfl, hF, hB⟩
  obtain ⟨g, cap, rfl, hg, hc, hS⟩ := freshSl hF hb1
  have HS := Lib.hid hS
  have HB := Lib.hid hB
  have HG := Lib.hid (And.intro hg hc)
  clear hF hB hS hg hc HJ
  go_wp2_with fail
  go_ret
  exact ⟨g, cap, by first | rfl | (rw [List.length_append]; rfl), HG.out.1, HG.out.2, HS.out, HB.out⟩
theorem four_any (w : World) (v : Nat) (hv : v < 4294967296) : Calls Tryz.prog 145 #[.int .u32 (v : Int)] w fun e w' => e = .returned (.slice (some ⟨w.heap.size, 0, none⟩) 4 4) ∧ Sl w' (some ⟨w.heap.size, 0, none⟩) (VY (four v)) ∧ Below w.heap.size w w' := by
  have e0 : (v : Int) % 256 = ((v % 256 : Nat) : Int) := by omega
  have e1 : (v : Int) / 256 % 256 = ((v / 256 % 256 : Nat) : Int) := by omega
  have e2 : (v : Int) / 65536 % 256 = ((v / 65536 % 256 : Nat) : Int) := by omega
  have e3 : (v : Int) / 16777216 = ((v / 16777216 % 256 : Nat) : Int) := by omega
  have HF := Lib.hid (show four v = [v % 256, v / 256 % 256, v / 65536 % 256, v / 16777216 % 256] from rfl)
  generalize v % 256 = d0 at *
  generalize v / 256 % 256 = d1 at *
  generalize v / 65536 % 256 = d2 at *
  generalize v / 16777216 % 256 = d3 at *
  go_enter Tryz.func145, Tryz.ntmps145
  go_wp2_with fail
  go_ret
  refine ⟨rfl, ?_, (Below.refl _ w).alloc (Nat.le_refl _) _⟩
  rw [HF.out]
  exact sl_blk (heap_alloc_new w _)
end Go.Proofs.YtphccomhggnccaaGreat
namespace Go.Proofs.YtphccomhggnccaaGreat
set_option maxRecDepth 100000
set_option linter.unusedVariables false
set_option linter.unusedSimpArgs false
set_option maxRecDepth 100000
open Go.RowKit Sg
theorem below_next {w w1 w2 : World} (h : Below w.heap.size w w1) (h2 : Below w1.heap.size w1 w2) : Below w.heap.size w w2 := h.trans (h2.mono h.size)
set_option maxHeartbeats 2000000 in
theorem headOf_any (w : World) (n : Nat) (hn : n < 4294967296) : Calls Tryz.prog 144 #[.int .u32 (n : Int)] w (MadeY w (headF n)) := by
  have HF := Lib.hid (fun W => four_any W n hn)
  have Hcl := Lib.hid (crc_lt (four_lt n))
  have Hhd := Lib.hid (show headF n = four n ++ four (crc (four n)) from rfl)
  go_enter Tryz.func144, Tryz.ntmps144
  go_wp2_with fail
  go_at_call 145
  refine (HF.out _).mono ?_
  rintro e w1 ⟨rfl, hS1, hB1⟩
  have HS1 := Lib.hid hS1
  have HB1 := Lib.hid hB1
  clear hS1 hB1
  go_wp2_with fail
  go_at_call 145
  refine (HF.out _).mono ?_
  rintro e w2 ⟨rfl, hS2, hB2⟩
  have HS12 := Lib.hid (HS1.out.below hB2)
  have HB2 := Lib.hid (below_next HB1.out hB2)
  have hC3 := (Below.refl _ w2).alloc (Nat.le_refl _) (.cells #[.slice (some ⟨w1.heap.size, 0, none⟩) 4 4] 34)
  have HSum := Lib.hid (sum_any (w2.alloc (.cells #[.slice (some ⟨w1.heap.size, 0, none⟩) 4 4] 34)) w2.heap.size 0 1 (some ⟨w1.heap.size, 0, none⟩) 4 4 (four n) (cell_blk (heap_alloc_new w2 _) 0) (hS2.below hC3) rfl (four_lt n) (by decide))
  have HS3 := Lib.hid (HS12.out.below hC3)
  have HB3 := Lib.hid (below_next HB2.out hC3)
  clear hS2 hB2 hC3 HS1 HS12
  go_wp2_with fail
  go_at_call 146
  refine HSum.out.mono ?_
  rintro e w3 ⟨rfl, hw⟩
  have HF2 := Lib.hid (fun W => four_any W (crc (four n)) Hcl.out)
  clear HSum
  subst hw
  generalize crc (four n) = cr at *
  generalize w2.alloc (.cells #[.slice (some ⟨w1.heap.size, 0, none⟩) 4 4] 34) = w3 at *
  go_wp2_with fail
  go_at_call 145
  refine (HF2.out _).mono ?_
  rintro e w4 ⟨rfl, hS4, hB4⟩
  have HS4 := Lib.hid hS4
  have HS34 := Lib.hid (HS3.out.below hB4)
  have HB4 := Lib.hid (below_next HB3.out hB4)
  have hC5 := (Below.refl _ w4).alloc (Nat.le_refl _) (.cells #[.slice (some ⟨w.heap.size, 0, none⟩) 4 4, .slice (some ⟨w3.heap.size, 0, none⟩) 4 4] 34)
  have HJ := Lib.hid (join2_any (w4.alloc (.cells #[.slice (some ⟨w.heap.size, 0, none⟩) 4 4, .slice (some ⟨w3.heap.size, 0, none⟩) 4 4] 34)) w4.heap.size 0 2 (some ⟨w.heap.size, 0, none⟩) (some ⟨w3.heap.size, 0, none⟩) 4 4 4 4 (four n) (four cr) (cell_blk (heap_alloc_new w4 _) 0) (cell_blk (heap_alloc_new w4 _) 1) (HS34.out.below hC5) (hS4.below hC5) rfl rfl (four_lt n) (four_lt cr) (by decide) (by decide))
  have HB5 := Lib.hid (below_next HB4.out hC5)
  clear hS4 hB4 hC5
  go_wp2_with fail
  go_at_call 143
  refine HJ.out.mono ?_
  rintro e w6 ⟨g, cap, rfl, hg, hc, hS, hB⟩
  have HB6 := Lib.hid (below_next HB5.out hB)
  have HS6 := Lib.hid hS
  have Hg := Lib.hid (show w.heap.size ≤ g from Nat.le_trans HB5.out.size hg)
  have Hc := Lib.hid hc
  clear hS hB hg hc HJ
  go_wp2_with fail
  go_ret
  exact ⟨g, cap, by rw [Hhd.out]; first | rfl | (rw [List.length_append]; rfl), Hg.out, by rw [Hhd.out]; exact Hc.out, by rw [Hhd.out]; exact HS6.out, HB6.out⟩
set_option maxHeartbeats 4000000 in
theorem encode_any (w : World) (b o cc : Nat) (ad : Addr) (n c : Nat) (p : List Nat) (hcell : w.cell? ⟨b, o, none⟩ = some (.slice (some ad) n c)) (hS : Sl w (some ad) (VY p)) (hl : p.length = n) (hb : ∀ x ∈ p, x < 256) (h0 : 0 < n) (hn : n ≤ 1048512) :
    Calls Tryz.prog 108 #[.slice (some ⟨b, o, none⟩) 1 cc] w fun e w' => ∃ g cap, e = .returned (.tuple #[.slice (some ⟨g, 0, none⟩) (frame p).length cap, .int .i64 0]) ∧ w.heap.size ≤ g ∧ (frame p).length ≤ cap ∧ Sl w' (some ⟨g, 0, none⟩) (VY (frame p)) ∧ Below w.heap.size w w' := by
  have HS := Lib.hid hS
  have Hl := Lib.hid hl
  have Hb := Lib.hid hb
  have HHd := Lib.hid (headOf_any w n (by omega))
  have hbb := World.block_lt_of_cell? w _ hcell
  have hn2 : (n : Int) % 4294967296 = (n : Int) := by omega
  clear hS hl hb
  go_enter Tryz.func108, Tryz.ntmps108
  go_wp2_with fail
  go_loopw [4, 10] (fun s4 q wr => ((q = .int .i64 0 ∧ s4 = .int .i64 0) ∨ (q = .int .i64 1 ∧ s4 = .int .i64 (n : Int))) ∧ w = wr) (fun _ q _ => 1 - (intOf q).toNat)
  case atStart => exact ⟨.inl ⟨rfl, rfl⟩, rfl⟩
  case round =>
    obtain ⟨hq, rfl⟩ := hrel
    rcases hq with ⟨rfl, rfl⟩ | ⟨rfl, rfl⟩
    · go_wp2_with fail
      refine ⟨⟨.inr ⟨rfl, by first | rfl | go_num⟩, trivial⟩, by decide⟩
    · go_wp2_with fail
      go_at_call 144
      refine HHd.out.mono ?_
      rintro e w1 ⟨g1, cap1, rfl, hg1, hc1, hS1, hB1⟩
      rw [headF_length] at hc1 ⊢
      have HS1 := Lib.hid hS1
      have HB1 := Lib.hid hB1
      have HJ1 := Lib.hid (join1_any w1 b o cc ad n c p ((World.cell?_of_block (hB1.block b hbb)).trans hcell) (HS.out.below hB1) Hl.out Hb.out h0 (by omega))
      clear hS1 hB1 HHd
      go_wp2_with fail
      go_at_call 143
      refine HJ1.out.mono ?_
      rintro e w2 ⟨g2, cap2, rfl, hg2, hc2, hS2, hB2⟩
      have HS12 := Lib.hid (HS1.out.below hB2)
      have HB2 := Lib.hid (below_next HB1.out hB2)
      have hC3 := (Below.refl _ w2).alloc (Nat.le_refl _) (.cells #[.slice (some ⟨g1, 0, none⟩) 8 cap1, .slice (some ⟨g2, 0, none⟩) n cap2] 34)
      rw [Hl.out] at hc2 ⊢
      have HJ2 := Lib.hid (join2_any (w2.alloc (.cells #[.slice (some ⟨g1, 0, none⟩) 8 cap1, .slice (some ⟨g2, 0, none⟩) n cap2] 34)) w2.heap.size 0 2 (some ⟨g1, 0, none⟩) (some ⟨g2, 0, none⟩) 8 n cap1 cap2 (headF n) p (cell_blk (heap_alloc_new w2 _) 0) (cell_blk (heap_alloc_new w2 _) 1) (HS12.out.below hC3) (hS2.below hC3) (headF_length n) Hl.out (headF_lt n) Hb.out (by decide) (by omega))
      have HB3 := Lib.hid (below_next HB2.out hC3)
      clear hS2 hB2 hC3 HJ1 HS1
      go_wp2_with fail
      go_at_call 143
      refine HJ2.out.mono ?_
      rintro e w4 ⟨g4, cap4, rfl, hg4, hc4, hS4, hB4⟩
      obtain ⟨hp, hhp⟩ : ∃ hp, headF n ++ p = hp := ⟨_, rfl⟩
      have hl4 : (headF n ++ p).length = n + 8 := by rw [List.length_append, headF_length, Hl.out]; omega
      have hb4 : ∀ x ∈ headF n ++ p, x < 256 := fun x hx => by rcases List.mem_append.1 hx with h | h; exact headF_lt n x h; exact Hb.out x h
      rw [hl4] at hc4 ⊢
      have HFr := Lib.hid (show frame p = hp ++ four (crc hp) by unfold frame; rw [Hl.out, hhp])
      rw [hhp] at hS4 hl4 hb4
      have HB4 := Lib.hid (below_next HB3.out hB4)
      have hC5 := (Below.refl _ w4).alloc (Nat.le_refl _) (.cells #[.slice (some ⟨g4, 0, none⟩) (n + 8) cap4] 34)
      have HSm := Lib.hid (sum_any (w4.alloc (.cells #[.slice (some ⟨g4, 0, none⟩) (n + 8) cap4] 34)) w4.heap.size 0 1 (some ⟨g4, 0, none⟩) (n + 8) cap4 hp (cell_blk (heap_alloc_new w4 _) 0) (hS4.below hC5) hl4 hb4 (by omega))
      have HS5 := Lib.hid (hS4.below hC5)
      have HB5 := Lib.hid (below_next HB4.out hC5)
      have Hl4 := Lib.hid hl4
      have Hb4 := Lib.hid hb4
      have Hcr := Lib.hid (crc_lt hb4)
      clear hS4 hB4 hC5 HJ2 hl4 hb4 hhp HS12
      go_wp2_with fail
      go_at_call 146
      refine HSm.out.mono ?_
      rintro e w5 ⟨rfl, hw⟩
      clear HSm
      subst hw
      generalize crc hp = cr at *
      generalize w4.alloc (.cells #[.slice (some ⟨g4, 0, none⟩) (n + 8) cap4] 34) = w5 at *
      have HF2 := Lib.hid (four_any w5 cr Hcr.out)
      go_wp2_with fail
      go_at_call 145
      refine HF2.out.mono ?_
      rintro e w6 ⟨rfl, hS6, hB6⟩
      have HS56 := Lib.hid (HS5.out.below hB6)
      have HB6 := Lib.hid (below_next HB5.out hB6)
      have hC7 := (Below.refl _ w6).alloc (Nat.le_refl _) (.cells #[.slice (some ⟨g4, 0, none⟩) (n + 8) cap4, .slice (some ⟨w5.heap.size, 0, none⟩) 4 4] 34)
      have HJ3 := Lib.hid (join2_any (w6.alloc (.cells #[.slice (some ⟨g4, 0, none⟩) (n + 8) cap4, .slice (some ⟨w5.heap.size, 0, none⟩) 4 4] 34)) w6.heap.size 0 2 (some ⟨g4, 0, none⟩) (some ⟨w5.heap.size, 0, none⟩) (n + 8) 4 cap4 4 hp (four cr) (cell_blk (heap_alloc_new w6 _) 0) (cell_blk (heap_alloc_new w6 _) 1) (HS56.out.below hC7) (hS6.below hC7) Hl4.out rfl Hb4.out (four_lt cr) (by decide) (by omega))
      have HB7 := Lib.hid (below_next HB6.out hC7)
      clear hS6 hB6 hC7 HF2
      go_wp2_with fail
      go_at_call 143
      refine HJ3.out.mono ?_
      rintro e w8 ⟨g8, cap8, rfl, hg8, hc8, hS8, hB8⟩
      have HB8 := Lib.hid (below_next HB7.out hB8)
      have HS8 := Lib.hid hS8
      have Hc8 := Lib.hid hc8
      have Hg8 := Lib.hid (show w.heap.size ≤ g8 from Nat.le_trans HB7.out.size hg8)
      rw [← HFr.out] at HS8 Hc8 ⊢
      clear hS8 hB8 hc8 hg8 HJ3
      obtain ⟨fl, hfl⟩ : ∃ fl, (frame p).length = fl := ⟨_, rfl⟩
      have Hfl := Lib.hid hfl
      rw [hfl]
      clear hfl
      go_wp2_with fail
      go_ret2
      exact ⟨g8, cap8, by rw [Hfl.out]; rfl, Hg8.out, Hc8.out, HS8.out, HB8.out⟩
end Go.Proofs.YtphccomhggnccaaGreat
namespace Go.Proofs.YtphccomhggnccaaGreat
set_option maxRecDepth 100000
set_option linter.unusedVariables false
set_option linter.unusedSimpArgs false
set_option maxRecDepth 100000
open Go.RowKit Sg
theorem Wr.fresh {W : World} {x : Nat} {acc : List Nat} {o : Option Nat} (h : Wr W x acc o) : ¬ WrS x o W.heap.size := by
  rintro (e | e)
  · have := h.lt.1; omega
  · have := h.lt.2 _ e; omega
theorem lt_one {n m : Nat} (h : n < m) : ∀ v ∈ [n], v < m := fun v hv => by rw [show v = n by simpa using hv]; exact h
theorem nums_one (v : Nat) : nums [v] = num v := by simp [nums]
set_option maxHeartbeats 4000000 in
theorem bytesW_any {W : World} {x : Nat} {acc : List Nat} {o : Option Nat} (h : Wr W x acc o) (b off cc : Nat) (A : Option Addr) (n c : Nat) (p : List Nat) (hcell : W.cell? ⟨b, off, none⟩ = some (.slice A n c)) (hb : ¬ WrS x o b) (hA : Sl W A (VY p)) (hl : p.length = n) (hc : A = none → c = 0)
    (hap : ∀ a, A = some a → ¬ WrS x o a.block) (hn : n ≤ 1048576) (hlen : acc.length ≤ 1099511627) :
    Calls Tryz.prog 105 #[.pointer (some ⟨x, 0, none⟩), .slice (some ⟨b, off, none⟩) 1 cc] W fun e W' => e = .returned (.tuple #[]) ∧ WrP W x (acc ++ byt p) o W' := by
  have HW := Lib.hid h
  have HA := Lib.hid hA
  have Hl := Lib.hid hl
  have Hap := Lib.hid hap
  have Hc := Lib.hid hc
  have Hbt := Lib.hid (show byt p = num n ++ p by unfold byt; rw [hl])
  have hlt := World.block_lt_of_cell? W _ hcell
  clear h hA hl hap hc
  go_enter Tryz.func105, Tryz.ntmps105
  go_wp2_with fail
  go_loopw [8] (fun q wr => (q = .int .i64 0 ∧ W = wr) ∨ (q = .int .i64 1 ∧ Hid (WrP W x (acc ++ byt p) o wr))) (fun q _ => 1 - (intOf q).toNat)
  case atStart => exact .inl ⟨rfl, rfl⟩
  case round =>
    rcases hrel with ⟨rfl, rfl⟩ | ⟨rfl, HP⟩
    · have hC := (Below.refl _ W).alloc (Nat.le_refl _) (.cells #[.int .i64 (n : Int)] 3)
      have HN := Lib.hid (nums_any (HW.out.below hC) (some ⟨W.heap.size, 0, none⟩) 1 1 [n] (sl_blk (heap_alloc_new W _)) rfl (fun a ha => by cases ha; exact HW.out.fresh) (lt_one (by omega)) (by decide) hlen)
      rw [nums_one] at HN
      have HC := Lib.hid hC
      clear hC
      go_wp2_with fail
      go_at_call 104
      refine HN.out.mono ?_
      rintro e w1 ⟨rfl, o1, hw1, ho1, hf1⟩
      have hfr : Fr W w1 (WrS x o) := (fr_below HC.out (WrS x o)).trans hf1 fun _ _ h => h
      have ho1' : o1 = o ∨ ∃ k, o1 = some k ∧ W.heap.size ≤ k := by
        rcases ho1 with h | ⟨k, h, hk⟩
        · exact .inl h
        · exact .inr ⟨k, h, Nat.le_trans HC.out.size hk⟩
      have hln := num_len 4 n (by omega)
      have HR := Lib.hid (raw_any hw1 A n c p (HA.out.fr hfr Hap.out) Hl.out Hc.out (by rw [List.length_append]; omega))
      have HT := Lib.hid (fun w2 (h2 : WrP w1 x (acc ++ num n ++ p) o1 w2) => wrp_trans hw1 ho1' hfr h2)
      clear hw1 ho1 hf1 hfr ho1' HN hln
      go_wp2_with fail
      go_at_call 103
      refine HR.out.mono ?_
      rintro e w2 ⟨rfl, hP⟩
      have HP2 := Lib.hid (HT.out w2 hP)
      rw [List.append_assoc, ← Hbt.out] at HP2
      clear hP HR
      go_wp2_with fail
      refine ⟨.inr ⟨rfl, HP2⟩, by decide⟩
    · go_wp2_with fail
      go_end0
      exact ⟨rfl, HP.out⟩
theorem VY_NI (l : List Nat) : (NI l).map (Value.int .u8) = VY l := by simp [NI, VY]
def MadeO (w : World) (p : List Nat) (e : Ending) (w' : World) : Prop := ∃ v, e = .returned v ∧ w'.ownsRow w.heap.size 5 1 v p.length (VY p) ∧ v ≠ .slice none 0 0 ∧ Below w.heap.size w w'
theorem clone_any (w : World) (ad : Addr) (n c : Nat) (p : List Nat) (hS : Sl w (some ad) (VY p)) (hl : p.length = n) (hn : n ≤ 1099511627776) :
    Calls Tryz.prog 124 #[.slice (some ad) n c] w (MadeO w p) := by
  refine (Tryz.bytes_Clone_at ad n c (NI p) w (by rw [NI_length, hl]) (by omega) (fun i hi => ?_)).mono ?_
  · rw [NI_getD _ _ (by omega)]
    exact hS.cell ad rfl i _ (VY_get p i (by omega))
  · rintro e w' ⟨v, rfl, h1, h2, h3⟩
    rw [VY_NI] at h1
    exact ⟨v, rfl, by rw [hl]; exact h1, h2, h3⟩
theorem out_any {W : World} {x : Nat} {acc : List Nat} {o : Option Nat} (h : Wr W x acc o) (h0 : 0 < acc.length) (hlen : acc.length ≤ 1099511627776) :
    Calls Tryz.prog 107 #[.pointer (some ⟨x, 0, none⟩)] W (MadeO W acc) := by
  obtain ⟨v, h1, h2, h3⟩ := h.ex
  obtain ⟨A, c, rfl, hS, -, -, -, -, -⟩ := own_form h2
  cases A with
  | none =>
    have := hS.nil rfl
    have h4 := congrArg List.length this
    rw [VY_length] at h4
    simp at h4
    rw [h4] at h0
    simp at h0
  | some ad =>
    have hc0 : W.cell? ⟨x, 0, none⟩ = some (.slice (some ad) acc.length c) := cell_blk h1 0
    have HC := Lib.hid (clone_any W ad acc.length c acc hS rfl hlen)
    clear h1 h2 h3 hS h
    go_enter Tryz.func107, Tryz.ntmps107
    go_wp2_with fail

    go_at_call 124
    refine HC.out.mono ?_
    rintro e w' ⟨v, rfl, h1, h2, h3⟩
    have H1 := Lib.hid h1
    have H2 := Lib.hid h2
    have H3 := Lib.hid h3
    clear h1 h2 h3 HC
    go_wp2_with fail
    go_ret
    exact ⟨v, rfl, H1.out, H2.out, H3.out⟩
end Go.Proofs.YtphccomhggnccaaGreat
