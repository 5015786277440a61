/- A segment in memory; a key as bytes. -/
import Derived.Test.YtphccomhggnccaaGreatSgC
import Derived.Test.YtphccomhggnccaaGreatSgB
import Derived.Test.YtphccomhggnccaaGreatFmE
import Derived.Laws.IdiomStrings
import Derived.Test.YtphccomhggnccaaGreatWv
import Derived.RegionTactic
namespace Go.Proofs.YtphccomhggnccaaGreat
set_option maxRecDepth 100000
set_option linter.unusedVariables false
set_option linter.unusedSimpArgs false
set_option maxRecDepth 100000
open Go.RowKit Sg Fm
theorem conv_key (w : World) (k : Key) (hk : k.length ≤ 1099511627776) : ∃ c W, (convert 9 34 (.string (ba k))).run Tryz.prog w = .ok (.slice (some ⟨w.heap.size, 0, none⟩) k.length c) W ∧ Sl W (some ⟨w.heap.size, 0, none⟩) (VY (nk k)) ∧ Below w.heap.size w W ∧ W.heap.size = w.heap.size + 1 ∧ k.length ≤ c := by
  have h := run_bytes_of_string (P := Tryz.prog) w 9 34 5 (ba k) Tryz.underlying9 Tryz.underlying34 Tryz.underlying5
  have hs : (ba k).size = k.length := by simp [ba, ByteArray.size]
  rw [hs] at h
  refine ⟨_, _, h, ?_, (below_drewN w.heap.size w 1).trans ((Below.refl _ w.drew).alloc (Nat.le_refl _) _), by simp, grownCap_ge w k.length 0 5⟩
  refine ⟨fun e => (by cases e), fun a ha j u hu => ?_⟩
  cases ha
  have hj : j < k.length := by
    rcases Nat.lt_or_ge j k.length with h | h
    · exact h
    · rw [List.getElem?_eq_none (by rw [VY_length, nk_length]; exact h)] at hu; cases hu
  rw [show (⟨w.heap.size, 0, none⟩ : Addr).add j = ⟨w.heap.size, j, none⟩ by unfold Addr.add; split <;> simp_all]
  have hb : (w.drew.alloc (.cells (bytesRow (ba k) (grownCap w k.length 0 5)) 5 ((bytesRow (ba k) (grownCap w k.length 0 5)).size, (bytesRow (ba k) (grownCap w k.length 0 5)).size + 1))).heap[w.heap.size]? = some (.cells (bytesRow (ba k) (grownCap w k.length 0 5)) 5 ((bytesRow (ba k) (grownCap w k.length 0 5)).size, (bytesRow (ba k) (grownCap w k.length 0 5)).size + 1)) := heap_alloc_new w.drew _
  rw [cell_blk hb, ← hu, VY_get _ _ (by rw [nk_length]; exact hj)]
  simp [bytesRow, ba, Array.getElem?_append, hj, nk, List.getD]
structure AdOk (w : World) (base : Nat) (A : Option Addr) : Prop where
  sp : ∀ a, A = some a → a.spot = none
  ge : ∀ a, A = some a → base ≤ a.block ∧ a.block < w.heap.size
theorem AdOk.below {w w' : World} {base B : Nat} {A : Option Addr} (h : AdOk w base A) (hb : Below B w w') : AdOk w' base A := ⟨h.sp, fun a ha => ⟨(h.ge a ha).1, Nat.lt_of_lt_of_le (h.ge a ha).2 hb.size⟩⟩
theorem AdOk.mono {w : World} {base base' : Nat} {A : Option Addr} (h : AdOk w base A) (hb : base' ≤ base) : AdOk w base' A := ⟨h.sp, fun a ha => ⟨Nat.le_trans hb (h.ge a ha).1, (h.ge a ha).2⟩⟩
structure SegM (w : World) (base x : Nat) (ds : List Dc) (gs : List Key) (sa : List Nat) : Prop where
  ge : base ≤ x
  blk : ∃ (ix : Nat) (Ak Ag : Option Addr) (ck cg : Nat), w.heap[x]? = some (.cells #[.pointer (some ⟨ix, 0, none⟩), .slice Ak ds.length ck, .slice Ag gs.length cg] 46 (0, 0)) ∧
    IdxM w base ix (rowT (textsD ds)) sa ∧ Sl w Ak (VS (keysD ds)) ∧ Sl w Ag (VS gs) ∧ AdOk w base Ak ∧ AdOk w base Ag ∧ (Ak = none → ck = 0) ∧ (Ag = none → cg = 0)
theorem SegM.below {w w' : World} {base x : Nat} {ds : List Dc} {gs : List Key} {sa : List Nat} (h : SegM w base x ds gs sa) (hb : Below w.heap.size w w') : SegM w' base x ds gs sa := by
  obtain ⟨ix, Ak, Ag, ck, cg, h1, h2, h3, h4, h5, h6, h7, h8⟩ := h.blk
  exact ⟨h.ge, ix, Ak, Ag, ck, cg, (hb.block x (blk_lt h1)).trans h1, h2.below hb, h3.below hb, h4.below hb, h5.below hb, h6.below hb, h7, h8⟩
theorem Sl.keepB {w w' : World} {base : Nat} {A : Option Addr} {xs : List Value} (h : Sl w A xs) (ha : AdOk w base A) (hk : ∀ k, base ≤ k → k < w.heap.size → w'.heap[k]? = w.heap[k]?) : Sl w' A xs :=
  h.kept fun a e _ => hk _ (ha.ge a e).1 (ha.ge a e).2
theorem SegM.keep {w w' : World} {base x : Nat} {ds : List Dc} {gs : List Key} {sa : List Nat} (h : SegM w base x ds gs sa) (hs : w.heap.size ≤ w'.heap.size) (hk : ∀ k, base ≤ k → k < w.heap.size → w'.heap[k]? = w.heap[k]?) : SegM w' base x ds gs sa := by
  obtain ⟨ix, Ak, Ag, ck, cg, h1, h2, h3, h4, h5, h6, h7, h8⟩ := h.blk
  exact ⟨h.ge, ix, Ak, Ag, ck, cg, (hk x h.ge (blk_lt h1)).trans h1, h2.keep hk, h3.keepB h5 hk, h4.keepB h6 hk, ⟨h5.sp, fun a e => ⟨(h5.ge a e).1, Nat.lt_of_lt_of_le (h5.ge a e).2 hs⟩⟩, ⟨h6.sp, fun a e => ⟨(h6.ge a e).1, Nat.lt_of_lt_of_le (h6.ge a e).2 hs⟩⟩, h7, h8⟩
theorem SegM.mono {w : World} {base base' x : Nat} {ds : List Dc} {gs : List Key} {sa : List Nat} (h : SegM w base x ds gs sa) (hb : base' ≤ base) : SegM w base' x ds gs sa := by
  obtain ⟨ix, Ak, Ag, ck, cg, h1, h2, h3, h4, h5, h6, h7, h8⟩ := h.blk
  exact ⟨Nat.le_trans hb h.ge, ix, Ak, Ag, ck, cg, h1, h2.mono hb, h3, h4, h5.mono hb, h6.mono hb, h7, h8⟩
theorem SegM.lt {w : World} {base x : Nat} {ds : List Dc} {gs : List Key} {sa : List Nat} (h : SegM w base x ds gs sa) : x < w.heap.size := by
  obtain ⟨ix, Ak, Ag, ck, cg, h1, _⟩ := h.blk
  exact blk_lt h1
theorem SegM.ord {w : World} {base x : Nat} {ds : List Dc} {gs : List Key} {sa : List Nat} (h : SegM w base x ds gs sa) : IsSA (rowT (textsD ds)) sa := by
  obtain ⟨ix, Ak, Ag, ck, cg, h1, h2, _⟩ := h.blk
  exact h2.ord
structure Fits (ds : List Dc) (gs : List Key) : Prop where
  k : (keysB (keysD ds)).length ≤ 400000
  g : (keysB gs).length ≤ 400000
  t : (rowT (textsD ds)).length ≤ 65536
theorem keysB_count (l : List Key) : l.length ≤ (keysB l).length := by
  induction l with
  | nil => simp [keysB]
  | cons a r ih =>
    rw [keysB_cons, List.length_append, List.length_cons]
    have := num_pos (nk a).length
    unfold byt
    rw [List.length_append]
    omega
theorem keysB_mem {l : List Key} {k : Key} (h : k ∈ l) : k.length ≤ (keysB l).length := by
  induction l with
  | nil => cases h
  | cons a r ih =>
    rw [keysB_cons, List.length_append]
    rcases List.mem_cons.1 h with rfl | h
    · unfold byt
      rw [List.length_append, nk_length]
      omega
    · have := ih h
      omega
theorem keysB_take_le (l : List Key) (k : Nat) : (keysB (l.take k)).length ≤ (keysB l).length := by
  conv => rhs; rw [← List.take_append_drop k l]
  unfold keysB
  rw [List.flatMap_append, List.length_append]
  omega
def turnS (ds : List Dc) (sa : List Nat) : List Nat := trn (rowT (textsD ds)) sa
theorem SegM.turn_lt {w : World} {base x : Nat} {ds : List Dc} {gs : List Key} {sa : List Nat} (h : SegM w base x ds gs sa) : ∀ v ∈ turnS ds sa, v < 512 := by
  obtain ⟨ix, Ak, Ag, ck, cg, h1, h2, _⟩ := h.blk
  intro v hv
  exact h2.lt v ((trn_perm h2.cl h2.ord).mem_iff.1 hv)
theorem SegM.turn_len {w : World} {base x : Nat} {ds : List Dc} {gs : List Key} {sa : List Nat} (h : SegM w base x ds gs sa) : (turnS ds sa).length = (rowT (textsD ds)).length := by
  obtain ⟨ix, Ak, Ag, ck, cg, h1, h2, _⟩ := h.blk
  exact trn_length h2.ord
end Go.Proofs.YtphccomhggnccaaGreat
namespace Go.Proofs.YtphccomhggnccaaGreat
set_option maxRecDepth 100000
set_option linter.unusedVariables false
set_option linter.unusedSimpArgs false
set_option maxRecDepth 100000
open Go.RowKit PkMath Pop Rank BtMath Wv Fm
set_option maxRecDepth 100000 in
set_option maxHeartbeats 2000000 in
theorem tallX_any {w : World} {base b W : Nat} {l : List Nat} (h : TM w base b W l) :
    Calls Tryz.prog 142 #[.pointer (some ⟨b, 0, none⟩)] w fun e w' => ∃ A c, e = .returned (.slice A l.length c) ∧ Sl w' A (VI (IL l)) ∧ (∀ a, A = some a → w.heap.size ≤ a.block) ∧ Below w.heap.size w w' := by
  obtain ⟨n, hn⟩ : ∃ n, l.length = n := ⟨_, rfl⟩
  have hlen := h.len
  have hc0 := h.c0
  rw [hn] at hlen hc0 ⊢
  have Hn := Lib.hid hn
  have HTM := Lib.hid h
  have HL := Lib.hid (tlen_cell b (n : Int) w hc0)
  clear hn h hc0
  go_enter Tryz.func142, Tryz.ntmps142
  go_wp2_with (go_at_call 66; refine HL.out.mono ?_; rintro e w' ⟨rfl, rfl⟩)
  go_loopw [3, 7] (fun v i wr => ∃ j : Nat, j ≤ n ∧ i = .int .i64 (j : Int) ∧ wr.ownsRow w.heap.size 3 1 v ((IL l).take j).length (VI ((IL l).take j)) ∧ Below w.heap.size w wr) (fun _ i _ => n - (intOf i).toNat)
  case atStart => exact ⟨0, Nat.zero_le _, rfl, World.ownsRow_nil _ _ _ _, Below.refl _ _⟩
  case round =>
    obtain ⟨j, hj, rfl, hown, hB⟩ := hrel
    by_cases hlt : j < n
    · obtain ⟨A0, c9, hv, hsl0, hl0, hA0⟩ := own_sl hown
      subst hv
      have hG := tget_any (HTM.out.below hB) j (by rw [Hn.out]; exact hlt)
      have HG := Lib.hid hG
      have hsucc : (IL l).take (j + 1) = (IL l).take j ++ [((l.getD j 0 : Nat) : Int)] := by
        have h1 : j < (IL l).length := by rw [IL_length, Hn.out]; exact hlt
        rw [List.take_succ_eq_append_getElem h1, ← IL_getD l j (by rw [Hn.out]; exact hlt)]
        simp [List.getD, List.getElem?_eq_getElem h1]
      have Hsucc := Lib.hid hsucc
      have hlj : ((IL l).take j).length = j := by rw [List.length_take, IL_length, Hn.out]; omega
      clear hG hsucc
      generalize l.getD j 0 = x at *
      generalize (IL l).take j = xs at *
      have Hlj := Lib.hid hlj
      clear hlj
      go_wp2_with fail
      go_at_call 67
      refine HG.out.mono ?_
      rintro e w1 ⟨rfl, hB1⟩
      have hB2 := below_step hB hB1
      have hown1 := World.ownsRow.kept hown (below_grown hB1 (Nat.le_refl _) none) (by
        cases A0 with
        | none => exact .inl rfl
        | some q => exact .inr (by simp [Value.ownBlock]))
      have hbl := hB2.size
      go_wp2_with (at_builtin; refine app_int rfl _ _ rfl w.heap.size _ xs rfl (World.ownsRow.alloc hown1 _) (some ⟨w1.heap.size, 0, none⟩) 1 1 [(x : Int)] rfl (fun h => by cases h) rfl (sl_blk (heap_alloc_new w1 _)) (by have := Hlj.out; omega) (by simp; omega) ?_; intro v' w2 hown2 hgrow hnil)
      have hB3 : Below w.heap.size w w2 := (hB2.alloc hB2.size _).grown hgrow (by simp; omega) (fun k hk => (World.ownsRow.lt hown1 k hk).1)
      refine ⟨⟨j + 1, by omega, rfl, by rw [Hsucc.out]; exact hown2, hB3⟩, ?_⟩
      show n - ((j : Int) + 1).toNat < n - ((j : Int)).toNat
      omega
    · obtain rfl : j = n := by omega
      have ht : (IL l).take j = IL l := List.take_of_length_le (by rw [IL_length, Hn.out]; exact Nat.le_refl _)
      rw [ht] at hown
      obtain ⟨A, c, hv, hsl, hl1, hA1⟩ := own_sl hown
      subst hv
      rw [IL_length, Hn.out]
      go_wp2_with fail
      go_ret
      exact ⟨A, c, rfl, hsl, hA1, hB⟩
theorem turnedY_any {w : World} {base x : Nat} {s sa : List Nat} (h : IdxM w base x s sa) :
    Calls Tryz.prog 106 #[.pointer (some ⟨x, 0, none⟩)] w fun e w' => ∃ A c, e = .returned (.slice A s.length c) ∧ Sl w' A (VI (NI (trn s sa))) ∧ (∀ a, A = some a → w.heap.size ≤ a.block) ∧ Below w.heap.size w w' := by
  have htl := trn_length h.ord
  obtain ⟨h1, h2, h3, h4, h5, tr, g3, y, yc, mb, pb, pg, kk, rb, r, b1, b2, b3, b4, b5, c0, c1, c2, c3, c4, c5, c6, c7, c8⟩ := h
  have hc0 := (cell_blk c0 0).trans rfl
  have H := Lib.hid (whole_any x tr w hc0)
  have HT := Lib.hid (tallX_any c1)
  rw [htl] at HT
  clear c0 c1 c2 c3 c4 c5 c6 c7 c8 h1 h3 h4 h5 b1 b2 b3 b4 b5 htl
  go_enter Tryz.func106, Tryz.ntmps106
  go_wp2_with (go_at_call 64; refine H.out.mono ?_; rintro e w' ⟨rfl, rfl⟩)
  go_at_call 142
  refine HT.out.mono ?_
  rintro e w1 ⟨A, c, rfl, hS, hA, hB⟩
  have HS := Lib.hid hS
  have HAd := Lib.hid hA
  clear hA hS
  go_wp2_with fail
  go_ret
  exact ⟨A, c, rfl, HS.out, HAd.out, hB⟩
end Go.Proofs.YtphccomhggnccaaGreat
namespace Go.Proofs.YtphccomhggnccaaGreat
set_option maxRecDepth 100000
set_option linter.unusedVariables false
set_option linter.unusedSimpArgs false
set_option maxRecDepth 100000
open Go.RowKit Sg Fm
def rowOf (ds : List Dc) (gs : List Key) (j : Nat) : List Key := if j = 0 then keysD ds else gs
def accOf (ds : List Dc) (gs : List Key) (j : Nat) : List Nat := if j = 0 then [83, 1] else if j = 1 then [83, 1] ++ (num (keysD ds).length ++ keysB (keysD ds)) else [83, 1] ++ (num (keysD ds).length ++ keysB (keysD ds)) ++ (num gs.length ++ keysB gs)
theorem accOf_succ (ds : List Dc) (gs : List Key) (j : Nat) (h : j < 2) : accOf ds gs (j + 1) = accOf ds gs j ++ (num (rowOf ds gs j).length ++ keysB (rowOf ds gs j)) := by
  have hj : j = 0 ∨ j = 1 := by omega
  rcases hj with rfl | rfl <;> simp [accOf, rowOf]
theorem accOf_len {ds : List Dc} {gs : List Key} (h : Fits ds gs) (j : Nat) : (accOf ds gs j).length ≤ 800020 := by
  have h1 := h.k
  have h2 := h.g
  have h3 := keysB_count (keysD ds)
  have h4 := keysB_count gs
  have h5 := num_len 4 (keysD ds).length (by omega)
  have h6 := num_len 4 gs.length (by omega)
  unfold accOf
  split
  · simp
  · split
    · simp; omega
    · simp; omega
theorem wrp_then {A B B' C : World} {x : Nat} {a b : List Nat} {o o1 : Option Nat} (h1 : Wr B x a o1) (h2 : o1 = o ∨ ∃ k, o1 = some k ∧ A.heap.size ≤ k) (h3 : Fr A B (WrS x o)) (hb : Below B.heap.size B B') (k : WrP B' x b o1 C) : WrP A x b o C := by
  refine wrp_trans h1 h2 h3 ?_
  obtain ⟨o2, h4, h5, h6⟩ := k
  refine ⟨o2, h4, ?_, (fr_below hb (WrS x o1)).trans h6 fun _ _ h => h⟩
  rcases h5 with h | ⟨k, h, hk⟩
  · exact .inl h
  · exact .inr ⟨k, h, Nat.le_trans hb.size hk⟩
theorem WrS.ge {x B : Nat} {o : Option Nat} (hx : B ≤ x) (ho : ∀ k, o = some k → B ≤ k) : ∀ k, WrS x o k → B ≤ k := fun k hk => by
  rcases hk with rfl | e
  · exact hx
  · exact ho k e
set_option maxHeartbeats 8000000 in
theorem record_any {w : World} {base x : Nat} {ds : List Dc} {gs : List Key} {sa : List Nat} (h : SegM w base x ds gs sa) (hf : Fits ds gs) :
    Calls Tryz.prog 54 #[.pointer (some ⟨x, 0, none⟩)] w fun e w' => ∃ g cap, e = .returned (.tuple #[.slice (some ⟨g, 0, none⟩) (frame (bodyS (keysD ds) gs (turnS ds sa))).length cap, .int .i64 0]) ∧ w.heap.size ≤ g ∧ (frame (bodyS (keysD ds) gs (turnS ds sa))).length ≤ cap ∧ Sl w' (some ⟨g, 0, none⟩) (VY (frame (bodyS (keysD ds) gs (turnS ds sa)))) ∧ Below w.heap.size w w' := by
  obtain ⟨ix, Ak, Ag, ck, cg, hx, hI, hSk, hSg, hAk, hAg, hck, hcg⟩ := h.blk
  have HI := Lib.hid hI
  have HX := Lib.hid hx
  have HSk := Lib.hid hSk
  have HSg := Lib.hid hSg
  have HAk := Lib.hid hAk
  have HAg := Lib.hid hAg
  have Htl := Lib.hid h.turn_lt
  have Htn := Lib.hid h.turn_len
  have HF := Lib.hid hf
  obtain ⟨nk', hnk⟩ : ∃ n, ds.length = n := ⟨_, rfl⟩
  obtain ⟨ng, hng⟩ : ∃ n, gs.length = n := ⟨_, rfl⟩
  rw [hnk, hng] at HX hx
  have Hnk := Lib.hid hnk
  have Hng := Lib.hid hng
  have hxl := blk_lt hx
  have hx0 := cell_blk hx 0
  have hx1 := cell_blk hx 1
  have hx2 := cell_blk hx 2
  have Hck := Lib.hid hck
  have Hcg := Lib.hid hcg
  clear h hI hx hSk hSg hAk hAg hck hcg hf hnk hng
  go_enter Tryz.func54, Tryz.ntmps54
  go_wp2_with fail
  obtain ⟨xw, hxw⟩ : ∃ n, w.heap.size = n := ⟨_, rfl⟩
  have hW0 := wr_new w
  rw [hxw] at hW0
  have hC1 := (Below.refl _ (w.alloc (.cells #[.slice none 0 0] 144))).alloc (Nat.le_refl _) (.cells #[.int .u8 83, .int .u8 1] 5)
  have hW1 := hW0.below hC1
  have hsz1 : (w.alloc (.cells #[.slice none 0 0] 144)).heap.size = xw + 1 := by simp [hxw]
  have hS1 := sl_blk (xs := VY [83, 1]) (heap_alloc_new (w.alloc (.cells #[.slice none 0 0] 144)) (.cells #[.int .u8 83, .int .u8 1] 5))
  rw [hsz1] at hS1
  have hB1 : Below w.heap.size w ((w.alloc (.cells #[.slice none 0 0] 144)).alloc (.cells #[.int .u8 83, .int .u8 1] 5)) := ((Below.refl _ w).alloc (Nat.le_refl _) _).alloc (by simp) _
  have HR := Lib.hid (raw_any hW1 (some ⟨xw + 1, 0, none⟩) 2 2 [83, 1] hS1 rfl (fun e => by cases e) (by decide))
  have HB1 := Lib.hid hB1
  have Hxw := Lib.hid hxw
  have hxb : xw ≤ xw := Nat.le_refl _
  clear hW0 hC1 hW1 hsz1 hS1 hB1
  rw [hxw]
  clear hxw
  generalize (w.alloc (.cells #[.slice none 0 0] 144)).alloc (.cells #[.int .u8 83, .int .u8 1] 5) = w1 at *
  go_at_call 103
  refine HR.out.mono ?_
  rintro e w2 ⟨rfl, o2, hw2, ho2, hf2⟩
  have Ho2 : Hid (∀ k, o2 = some k → w.heap.size ≤ k) := Lib.hid (fun k hk => by
    rcases ho2 with h | ⟨k', h, hk'⟩
    · rw [h] at hk; cases hk
    · rw [h] at hk; cases hk; exact Nat.le_trans HB1.out.size hk')
  have HB2 := Lib.hid (HB1.out.trans (hf2.below (B := w.heap.size) HB1.out.size (fun k hk => by rcases hk with rfl | hk; rw [Hxw.out]; exact Nat.le_refl _; cases hk)))
  have Hw2 := Lib.hid hw2
  have hx1' : w2.cell? ⟨x, 1, none⟩ = some (.slice Ak nk' ck) := (World.cell?_of_block (HB2.out.block x hxl)).trans hx1
  have hx2' : w2.cell? ⟨x, 2, none⟩ = some (.slice Ag ng cg) := (World.cell?_of_block (HB2.out.block x hxl)).trans hx2
  clear hx1 hx2 hw2 ho2 hf2 HR HB1
  go_wp2_with fail
  go_region
  go_wp2_with fail
  have hC3 := ((Below.refl _ w2).alloc (Nat.le_refl _) (.cells #[.slice Ak nk' ck, .slice Ag ng cg] 23)).trans (below_drewN _ _ 1)
  have hb3 : (w2.alloc (.cells #[.slice Ak nk' ck, .slice Ag ng cg] 23)).drew.heap[w2.heap.size]? = some (.cells #[.slice Ak nk' ck, .slice Ag ng cg] 23 (0, 0)) := heap_alloc_new w2 _
  have hw3 := Hw2.out.below hC3
  have hB3 := HB2.out.trans (hC3.mono HB2.out.size)
  obtain ⟨rb, hrb⟩ : ∃ n, w2.heap.size = n := ⟨_, rfl⟩
  have hrbo : ¬ WrS xw o2 rb := by
    rw [← hrb]
    exact Hw2.out.fresh
  have hwg : w.heap.size ≤ rb := by rw [← hrb]; exact HB2.out.size
  change Below _ _ (w2.alloc (.cells #[.slice Ak nk' ck, .slice Ag ng cg] 23)).drew at hC3
  change Below _ _ (w2.alloc (.cells #[.slice Ak nk' ck, .slice Ag ng cg] 23)).drew at hB3
  change Wr (w2.alloc (.cells #[.slice Ak nk' ck, .slice Ag ng cg] 23)).drew _ _ _ at hw3
  rw [hrb] at hb3 ⊢
  clear hx1' hx2' hC3 hrb HB2 Hw2
  generalize (w2.alloc (.cells #[.slice Ak nk' ck, .slice Ag ng cg] 23)).drew = w3 at *
  have Hb3 := Lib.hid hb3
  have Hw3 := Lib.hid hw3
  have HB3 := Lib.hid hB3
  have Hrbo := Lib.hid hrbo
  have HWS : Hid (∀ k, WrS xw o2 k → w.heap.size ≤ k) := Lib.hid (WrS.ge (by rw [Hxw.out]; exact Nat.le_refl _) Ho2.out)
  clear hb3 hw3 hB3 hrbo
  go_loopw [23] (fun q wr => ∃ j : Nat, j ≤ 2 ∧ q = .int .i64 (j : Int) ∧ Hid (WrP w3 xw (accOf ds gs j) o2 wr)) (fun q _ => 2 - (intOf q).toNat)
  case atStart => exact ⟨0, by omega, rfl, Lib.hid Hw3.out.self⟩
  case round =>
    clear Hw3
    obtain ⟨j, hj, rfl, HP⟩ := hrel
    obtain ⟨wo, rfl⟩ : ∃ wo : World, wo = wr := ⟨_, rfl⟩
    obtain ⟨o1, hw1, ho1, hf1⟩ := HP.out
    have hBo : Below w.heap.size w wo := HB3.out.trans (hf1.below (B := w.heap.size) HB3.out.size HWS.out)
    have hrbb : wo.heap[rb]? = some (.cells #[.slice Ak nk' ck, .slice Ag ng cg] 23 (0, 0)) := (hf1.block rb (blk_lt Hb3.out) Hrbo.out).trans Hb3.out
    by_cases hj2 : j < 2
    · obtain ⟨A, n, c, hcell, hS, hl, hA, hcn⟩ : ∃ A n c, wo.cell? ⟨rb, j, none⟩ = some (.slice A n c) ∧ Sl w A (VS (rowOf ds gs j)) ∧ (rowOf ds gs j).length = n ∧ AdOk w base A ∧ (A = none → c = 0) := by
        have hj' : j = 0 ∨ j = 1 := by omega
        rcases hj' with rfl | rfl
        · exact ⟨Ak, nk', ck, cell_blk hrbb 0, HSk.out, by show (keysD ds).length = _; rw [keysD_length]; exact Hnk.out, HAk.out, Hck.out⟩
        · exact ⟨Ag, ng, cg, cell_blk hrbb 1, HSg.out, Hng.out, HAg.out, Hcg.out⟩
      have hlen : (keysB (rowOf ds gs j)).length ≤ 400000 := by
        unfold rowOf
        split
        · exact HF.out.k
        · exact HF.out.g
      have hcnt := keysB_count (rowOf ds gs j)
      have hal := accOf_len HF.out j
      have hjz : (j : Int) < 2 := by omega
      have Hsu := Lib.hid (accOf_succ ds gs j hj2)
      have hkm := fun k (hk : k ∈ rowOf ds gs j) => keysB_mem hk
      have hktl := fun k => keysB_take_le (rowOf ds gs j) k
      rw [hl] at Hsu hcnt
      obtain ⟨l, hle⟩ : ∃ l, rowOf ds gs j = l := ⟨_, rfl⟩
      obtain ⟨aj, haj⟩ : ∃ a, accOf ds gs j = a := ⟨_, rfl⟩
      rw [hle] at hS hl hlen hcnt hkm hktl Hsu
      rw [haj] at hw1 hal Hsu HP
      have HS := Lib.hid hS
      have Hl := Lib.hid hl
      have HA := Lib.hid hA
      have Hcn := Lib.hid hcn
      have Hkm := Lib.hid hkm
      have Hktl := Lib.hid hktl
      have HBo := Lib.hid hBo
      have Hn5 := Lib.hid (num_len 4 n (by omega))
      have hC4 := (Below.refl _ wo).alloc (Nat.le_refl _) (.cells #[.int .i64 (n : Int)] 3)
      have HN := Lib.hid (nums_any (hw1.below hC4) (some ⟨wo.heap.size, 0, none⟩) 1 1 [n] (sl_blk (heap_alloc_new wo _)) rfl (fun a ha => by cases ha; exact hw1.fresh) (lt_one (by omega)) (by decide) (by omega))
      rw [nums_one] at HN
      have HT := Lib.hid (fun (w5 : World) (k : WrP (wo.alloc (.cells #[.int .i64 (n : Int)] 3)) xw (aj ++ num n) o1 w5) => wrp_then hw1 ho1 hf1 hC4 k)
      clear hS hl hA hcn hkm hktl hBo hC4 hw1 ho1 hf1 HP hrbb hle haj
      go_wp2_with fail
      go_at_call 104
      refine HN.out.mono ?_
      rintro e w5 ⟨rfl, hP5⟩
      have HP5 := Lib.hid (HT.out w5 hP5)
      clear hP5 HT HN
      go_wp2_with fail
      go_loopw [33] (fun q wr => ∃ k : Nat, k ≤ n ∧ q = .int .i64 (k : Int) ∧ Hid (WrP w3 xw (aj ++ num n ++ keysB (l.take k)) o2 wr)) (fun q _ => n - (intOf q).toNat)
      case atStart => exact ⟨0, Nat.zero_le _, rfl, by simpa [keysB] using HP5⟩
      case round =>
        clear HP5
        obtain ⟨k, hk, rfl, HP⟩ := hrel
        obtain ⟨o1, hw1, ho1, hf1⟩ := HP.out
        have hBo : Below w.heap.size w wr := HB3.out.trans (hf1.below (B := w.heap.size) HB3.out.size HWS.out)
        by_cases hkn : k < n
        · obtain ⟨b, off, rfl, hkc⟩ : ∃ b off, A = some ⟨b, off, none⟩ ∧ wr.cell? ⟨b, off + k, none⟩ = some (.string (ba (l.getD k []))) := by
            cases A with
            | none =>
              exfalso
              have h := HS.out.nil rfl
              have h2 : l.length = 0 := by rw [← VS_length, h]; rfl
              have := Hl.out
              omega
            | some a =>
              obtain ⟨b, off, sp⟩ := a
              have h2' : sp = none := HA.out.sp _ rfl
              subst h2'
              exact ⟨b, off, rfl, VS_cell (HS.out.below hBo) (by rw [Hl.out]; exact hkn)⟩
          have hkm2 := Hkm.out _ (getD_memK (l := l) (i := k) (by rw [Hl.out]; exact hkn))
          have Hks : Hid (keysB (l.take (k + 1)) = keysB (l.take k) ++ byt (nk (l.getD k []))) := Lib.hid (by
            rw [List.take_succ_eq_append_getElem (by rw [Hl.out]; exact hkn), keysB_snoc]
            simp [List.getD, List.getElem?_eq_getElem (show k < l.length by rw [Hl.out]; exact hkn)])
          have hkt := Hktl.out k
          obtain ⟨key, hke⟩ : ∃ key, l.getD k [] = key := ⟨_, rfl⟩
          rw [hke] at hkc hkm2 Hks
          obtain ⟨cc, W, hrun, hsl, hbl, hsz, hcc⟩ := conv_key wr key (by omega)
          have hC6 := (Below.refl _ W).alloc (Nat.le_refl _) (.cells #[.slice (some ⟨wr.heap.size, 0, none⟩) key.length cc] 34)
          have hbc := below_next hbl hC6
          have hln : (aj ++ num n ++ keysB (l.take k)).length ≤ 1099511627 := by
            have := Hn5.out
            rw [List.length_append, List.length_append]; omega
          have hBy := (bytesW_any (hw1.below hbc) W.heap.size 0 1 (some ⟨wr.heap.size, 0, none⟩) key.length cc (nk key) (cell_blk (heap_alloc_new W _) 0) ((hw1.below hbl).fresh) (hsl.below hC6) (nk_length key) (fun e => by cases e) (fun a ha => by cases ha; exact hw1.fresh) (by omega) hln)
          rw [hsz] at hBy
          have HBy := Lib.hid hBy
          clear hBy
          have HT := Lib.hid (fun (w5 : World) (kk : WrP (W.alloc (.cells #[.slice (some ⟨wr.heap.size, 0, none⟩) key.length cc] 34)) xw (aj ++ num n ++ keysB (l.take k) ++ byt (nk key)) o1 w5) => wrp_then hw1 ho1 hf1 hbc kk)
          clear hsl hbl hcc hC6 hbc hln hw1 ho1 hf1 HP hBo hke hkt
          go_wp2_with fail
          go_at_call 105
          refine HBy.out.mono ?_
          rintro e w7 ⟨rfl, hP7⟩
          have HP7 := Lib.hid (HT.out w7 hP7)
          rw [List.append_assoc, ← Hks.out] at HP7
          clear hP7 HT HBy hrun hsz
          go_wp2_with fail
          go_roundw
          case rel => exact ⟨k + 1, by omega, by go_num, HP7⟩
          case measure => simp [intOf]; omega
        · obtain rfl : k = n := by omega
          have HP9 : Hid (WrP w3 xw (accOf ds gs (j + 1)) o2 wr) := Lib.hid (by
            have := HP.out
            rw [← Hl.out, List.take_length, Hl.out, List.append_assoc, ← Hsu.out] at this
            exact this)
          clear hw1 ho1 hf1 HP hBo
          go_wp2_with fail
          go_roundw
          case rel => exact ⟨j + 1, by omega, by go_num, HP9⟩
          case measure => simp [intOf]; omega
    · obtain rfl : j = 2 := by omega
      have hxc : wo.cell? ⟨x, 0, none⟩ = some (.pointer (some ⟨ix, 0, none⟩)) := cell_blk ((hBo.block x hxl).trans HX.out) 0
      have HTn := Lib.hid (turnedY_any (HI.out.below hBo))
      have HBo := Lib.hid hBo
      have Hl1 := Lib.hid hw1
      have hal := accOf_len HF.out 2
      obtain ⟨m, hm⟩ : ∃ m, (rowT (textsD ds)).length = m := ⟨_, rfl⟩
      have hm6 : m ≤ 65536 := by rw [← hm]; exact HF.out.t
      rw [hm] at HTn
      have Hm : Hid ((turnS ds sa).length = m) := Lib.hid (by rw [Htn.out, hm])
      have Hbod : Hid (bodyS (keysD ds) gs (turnS ds sa) = accOf ds gs 2 ++ num m ++ nums (turnS ds sa)) := Lib.hid (by
        unfold bodyS accOf
        rw [Hm.out]
        simp)
      obtain ⟨a2, ha2⟩ : ∃ a, accOf ds gs 2 = a := ⟨_, rfl⟩
      rw [ha2] at Hbod hw1 hal HP Hl1
      change Hid (Calls _ _ _ _ fun e w' => ∃ A c, e = _ ∧ Sl w' A (VI (NI (turnS ds sa))) ∧ _) at HTn
      obtain ⟨tt, htt⟩ : ∃ t, turnS ds sa = t := ⟨_, rfl⟩
      have Htv := Lib.hid Htl.out
      rw [htt] at Hbod Hm HTn Htv
      have Htt := Lib.hid htt
      have Ho1 := Lib.hid ho1
      have Hf1 := Lib.hid hf1
      clear hm ha2 hBo hw1 htt hrbb ho1 hf1 HP
      go_wp2_with fail
      go_at_call 106
      refine HTn.out.mono ?_
      rintro e w5 ⟨A5, c5, rfl, hS5, hA5, hB5⟩
      have hw5 := Hl1.out.below hB5
      have hS5l : ∀ a, A5 = some a → ¬ WrS xw o1 a.block := fun a ha hk => by
        have h1 := hA5 a ha
        rcases hk with h | h
        · have := Hl1.out.lt.1; omega
        · have := Hl1.out.lt.2 _ h; omega
      have hC6 := (Below.refl _ w5).alloc (Nat.le_refl _) (.cells #[.int .i64 (m : Int)] 3)
      have hw6 := hw5.below hC6
      have HN := Lib.hid (nums_any hw6 (some ⟨w5.heap.size, 0, none⟩) 1 1 [m] (sl_blk (heap_alloc_new w5 _)) rfl (fun a ha => by cases ha; exact hw5.fresh) (lt_one (by omega)) (by decide) (by omega))
      rw [nums_one] at HN
      have HS6 := Lib.hid (hS5.below hC6)
      have HB5 := Lib.hid (below_next hB5 hC6)
      have HSl := Lib.hid hS5l
      have Hn5 := Lib.hid (num_len 4 m (by omega))
      clear hS5 hA5 hB5 hw5 hC6 hw6 hS5l HTn
      go_wp2_with fail
      go_at_call 104
      refine HN.out.mono ?_
      rintro e w7 ⟨rfl, o7, hw7, ho7, hf7⟩
      have hS7 := HS6.out.fr hf7 HSl.out
      have hT7 := wrp_then Hl1.out Ho1.out Hf1.out HB5.out ⟨o7, hw7, ho7, hf7⟩
      have hsl7 : ∀ a, A5 = some a → ¬ WrS xw o7 a.block := fun a ha hk => by
        have hne : 0 < m := by
          rcases Nat.eq_zero_or_pos m with h | h
          · exfalso
            have h1 := Hm.out
            rw [h] at h1
            have := HI.out.cl.pos
            rw [← Htn.out, Htt.out, h1] at this
            omega
          · exact h
        have hlt := HS6.out.lt a ha (fun e => by
          have h2 := congrArg List.length e
          rw [VI_length, NI_length, Hm.out] at h2
          simp at h2
          omega)
        rcases hk with h | h
        · exact HSl.out a ha (.inl h)
        · rcases ho7 with h2 | ⟨k, h2, h3⟩
          · rw [h2] at h; exact HSl.out a ha (.inr h)
          · rw [h2] at h; cases h; omega
      have HNs := Lib.hid (nums_any hw7 A5 m c5 tt hS7 Hm.out hsl7 (fun v hv => by have := Htv.out v hv; omega) (by omega) (by have := Hn5.out; rw [List.length_append]; omega))
      have hBt := HB3.out.trans ((show Fr w3 w7 (WrS xw o2) from by obtain ⟨_, _, _, h⟩ := hT7; exact h).below (B := w.heap.size) HB3.out.size HWS.out)
      have HB7 := Lib.hid hBt
      have hge7 : ∀ k, WrS xw o7 k → w.heap.size ≤ k := fun k hk => by
        obtain ⟨o', _, _, _⟩ := hT7
        rcases hk with h | h
        · rw [h]; have := Hxw.out; omega
        · rcases ho7 with h2 | ⟨k', h2, h3⟩
          · rw [h2] at h
            rcases Ho1.out with h4 | ⟨k4, h4, h5⟩
            · rw [h4] at h; exact Ho2.out _ h
            · rw [h4] at h; cases h; exact Nat.le_trans HB3.out.size h5
          · rw [h2] at h; cases h
            exact Nat.le_trans (Nat.le_trans HBo.out.size HB5.out.size) h3
      have HG7 := Lib.hid hge7
      clear hS7 hT7 hsl7 hw7 ho7 hf7 HN hBt hge7
      go_wp2_with fail
      go_at_call 104
      refine HNs.out.mono ?_
      rintro e w8 ⟨rfl, o8, hw8, ho8, hf8⟩
      rw [← Hbod.out] at hw8
      have HB8 := Lib.hid (HB7.out.trans (hf8.below (B := w.heap.size) HB7.out.size HG7.out))
      have hbl : 0 < (bodyS (keysD ds) gs tt).length ∧ (bodyS (keysD ds) gs tt).length ≤ 1048512 := by
        have h1 := Hn5.out
        have h2 := nums_len 1 tt (fun v hv => by have := Htv.out v hv; omega)
        have h3 := num_pos m
        rw [Hbod.out, List.length_append, List.length_append]
        rw [Hm.out] at h2
        omega
      have Hby := Lib.hid (bodyS_lt (keysD ds) gs tt)
      obtain ⟨bd, hbd⟩ : ∃ b, bodyS (keysD ds) gs tt = b := ⟨_, rfl⟩
      have Hbd := Lib.hid hbd
      rw [hbd] at hw8 hbl Hby
      have HO := Lib.hid (out_any hw8 hbl.1 (by omega))
      have Hbl := Lib.hid hbl
      have hbl2 : ¬ (1048512 : Int) < (bd.length : Int) := by omega
      clear hw8 ho8 hf8 hbl hbd HNs Hbod HG7 HB7
      go_wp2_with fail
      go_at_call 107
      refine HO.out.mono ?_
      rintro e w9 ⟨v9, rfl, hown9, hn9, hB9⟩
      obtain ⟨A9, c9, rfl, hS9, -, -, -, -, -⟩ := own_form hown9
      have HB9 := Lib.hid (HB8.out.trans (hB9.mono HB8.out.size))
      cases A9 with
      | none =>
        exfalso
        have h1 := hS9.nil rfl
        have h2 := congrArg List.length h1
        rw [VY_length] at h2
        have := Hbl.out.1
        simp at h2
        rw [h2] at this
        simp at this
      | some ad =>
        obtain ⟨nb, hnb⟩ : ∃ n, bd.length = n := ⟨_, rfl⟩
        have hCa := (Below.refl _ w9).alloc (Nat.le_refl _) (.cells #[.slice (some ad) nb c9] 34)
        have hbl := Hbl.out
        rw [hnb] at hbl hbl2 ⊢
        have HE := Lib.hid (encode_any (w9.alloc (.cells #[.slice (some ad) nb c9] 34)) w9.heap.size 0 1 ad nb c9 bd (cell_blk (heap_alloc_new w9 _) 0) (hS9.below hCa) hnb Hby.out hbl.1 hbl.2)
        have HBa := Lib.hid (HB9.out.trans (hCa.mono HB9.out.size))
        clear hS9 hown9 hn9 hB9 hCa hbl hnb HO
        go_wp2_with fail
        go_at_call 108
        refine HE.out.mono ?_
        rintro e wa ⟨g, cap, rfl, hg, hc, hSa, hBa⟩
        have HSa := Lib.hid hSa
        have Hga := Lib.hid (show w.heap.size ≤ g from Nat.le_trans HBa.out.size hg)
        have Hca := Lib.hid hc
        have HBz := Lib.hid (HBa.out.trans (hBa.mono HBa.out.size))
        obtain ⟨fl, hfl⟩ : ∃ fl, (frame bd).length = fl := ⟨_, rfl⟩
        have Hfl := Lib.hid hfl
        rw [hfl]
        clear hfl hSa hg hc hBa HE
        go_wp2_with fail
        go_ret2
        rw [Htt.out, Hbd.out]
        exact ⟨g, cap, by rw [Hfl.out]; rfl, Hga.out, Hca.out, HSa.out, HBz.out⟩
end Go.Proofs.YtphccomhggnccaaGreat
namespace Go.Proofs.YtphccomhggnccaaGreat
set_option maxRecDepth 100000
set_option linter.unusedVariables false
set_option linter.unusedSimpArgs false
set_option maxRecDepth 100000
open Go.RowKit Sg Fm
theorem own_keepR {w w' : World} {base : Nat} {e : TypeId} {size : Nat} {v : Value} {n : Nat} {xs : List Value} {r : Option Nat} (h : w.ownsRow base e size v n xs) (hg : w.grownBy w' r) (hne : ∀ g, v.ownBlock = some g → r ≠ some g) : w'.ownsRow base e size v n xs := by
  refine World.ownsRow.kept h hg ?_
  cases hv : v.ownBlock with
  | none => exact .inl rfl
  | some k => exact .inr fun e => hne k hv e.symm
structure NS (w0 w : World) (x : Nat) (c0 cv gv : Value) (kv : Value) (ks : List Key) (tv : Value) (ts : List Value) (L : List (Nat × Obj)) : Prop where
  xb : w.heap[x]? = some (.cells #[c0, cv, gv] 46 (0, 0))
  xg : w0.heap.size ≤ x
  hk : w.ownsRow w0.heap.size 9 1 kv ks.length (VS ks)
  ht : w.ownsRow w0.heap.size 34 1 tv ts.length ts
  kept : ∀ p ∈ L, w.heap[p.1]? = some p.2 ∧ kv.ownBlock ≠ some p.1 ∧ tv.ownBlock ≠ some p.1 ∧ p.1 ≠ x
  xk : kv.ownBlock ≠ some x
  xt : tv.ownBlock ≠ some x
  kt : ∀ g, kv.ownBlock = some g → tv.ownBlock ≠ some g
  bel : Below w0.heap.size w0 w
section
variable {w0 w : World} {x : Nat} {c0 cv gv kv : Value} {ks : List Key} {tv : Value} {ts : List Value} {L : List (Nat × Obj)}
theorem NS.drew (h : NS w0 w x c0 cv gv kv ks tv ts L) : NS w0 w.drew x c0 cv gv kv ks tv ts L :=
  ⟨h.xb, h.xg, own_keepR h.hk (grown_drew w none) (fun _ _ => nofun), own_keepR h.ht (grown_drew w none) (fun _ _ => nofun), h.kept, h.xk, h.xt, h.kt, h.bel.drew⟩
theorem NS.alloc (o : Obj) (h : NS w0 w x c0 cv gv kv ks tv ts L) : NS w0 (w.alloc o) x c0 cv gv kv ks tv ts ((w.heap.size, o) :: L) := by
  refine ⟨blk_alloc h.xb o, h.xg, World.ownsRow.alloc h.hk o, World.ownsRow.alloc h.ht o, fun p hp => ?_, h.xk, h.xt, h.kt, h.bel.alloc h.bel.size o⟩
  rcases List.mem_cons.1 hp with rfl | hp
  · have hx := blk_lt h.xb
    refine ⟨heap_alloc_new w o, fun e => ?_, fun e => ?_, ?_⟩
    · have := (World.ownsRow.lt h.hk _ e).2
      exact absurd this (Nat.lt_irrefl _)
    · have := (World.ownsRow.lt h.ht _ e).2
      exact absurd this (Nat.lt_irrefl _)
    · show w.heap.size ≠ x
      omega
  · obtain ⟨h1, h2⟩ := h.kept p hp
    exact ⟨blk_alloc h1 o, h2⟩
theorem NS.weak (h : NS w0 w x c0 cv gv kv ks tv ts L) : NS w0 w x c0 cv gv kv ks tv ts [] := ⟨h.xb, h.xg, h.hk, h.ht, (fun p hp => by cases hp), h.xk, h.xt, h.kt, h.bel⟩
theorem NS.store (h : NS w0 w x c0 cv gv kv ks tv ts L) (v : Value) : NS w0 (w.setCell ⟨x, 1, none⟩ v) x c0 v gv kv ks tv ts L := by
  refine ⟨?_, h.xg, own_keepR h.hk (grown_set w x 1 v) (fun g hg e => ?_), own_keepR h.ht (grown_set w x 1 v) (fun g hg e => ?_), fun p hp => ?_, h.xk, h.xt, h.kt, ?_⟩
  · exact blk_set h.xb 1 v
  · have := Option.some.inj e; subst this; exact h.xk hg
  · have := Option.some.inj e; subst this; exact h.xt hg
  · obtain ⟨h1, h2, h3, h4⟩ := h.kept p hp
    exact ⟨blk_other h1 h4 1 v, h2, h3, h4⟩
  · exact h.bel.grown (grown_set w x 1 v) (Nat.le_trans h.xg (Nat.le_of_lt (blk_lt h.xb)) |> fun _ => h.bel.size) (fun k hk => by have := Option.some.inj hk; have := h.xg; omega)
theorem NS.appK {w' : World} {kv' : Value} {k : Key} (h : NS w0 w x c0 cv gv kv ks tv ts L) (ho : w'.ownsRow w0.heap.size 9 1 kv' (ks.length + 1) (VS ks ++ [encStr k])) (hg : w.grownBy w' kv.ownBlock)
    (hat : kv'.ownBlock = kv.ownBlock ∨ kv'.ownBlock = some w.heap.size) : NS w0 w' x c0 cv gv kv' (ks ++ [k]) tv ts L := by
  have hne : ∀ b o, w.heap[b]? = some o → kv.ownBlock ≠ some b → kv'.ownBlock ≠ some b := fun b o hb h1 e => by
    rcases hat with h2 | h2
    · exact h1 (h2.symm.trans e)
    · rw [e] at h2; have := Option.some.inj h2; have := blk_lt hb; omega
  refine ⟨grown_blk hg h.xb (Ne.symm h.xk), h.xg, ?_, own_keepR h.ht hg (fun g h1 e => h.kt g e h1), fun p hp => ?_, hne x _ h.xb h.xk, h.xt, fun g h1 h2 => ?_, h.bel.grown hg h.bel.size (fun k hk => (World.ownsRow.lt h.hk k hk).1)⟩
  · rw [List.length_append, VS_append]; exact ho
  · obtain ⟨h1, h2, h3, h4⟩ := h.kept p hp
    exact ⟨grown_blk hg h1 (Ne.symm h2), hne _ _ h1 h2, h3, h4⟩
  · rcases hat with h3 | h3
    · exact h.kt g (h3.symm.trans h1) h2
    · rw [h1] at h3; have := Option.some.inj h3; have := (World.ownsRow.lt h.ht g h2).2; omega
theorem NS.appT {w' : World} {tv' : Value} {u : Value} (h : NS w0 w x c0 cv gv kv ks tv ts L) (ho : w'.ownsRow w0.heap.size 34 1 tv' (ts.length + 1) (ts ++ [u])) (hg : w.grownBy w' tv.ownBlock)
    (hat : tv'.ownBlock = tv.ownBlock ∨ tv'.ownBlock = some w.heap.size) : NS w0 w' x c0 cv gv kv ks tv' (ts ++ [u]) L := by
  have hne : ∀ b o, w.heap[b]? = some o → tv.ownBlock ≠ some b → tv'.ownBlock ≠ some b := fun b o hb h1 e => by
    rcases hat with h2 | h2
    · exact h1 (h2.symm.trans e)
    · rw [e] at h2; have := Option.some.inj h2; have := blk_lt hb; omega
  refine ⟨grown_blk hg h.xb (Ne.symm h.xt), h.xg, own_keepR h.hk hg (fun g h1 e => h.kt g h1 e), ?_, fun p hp => ?_, h.xk, hne x _ h.xb h.xt, fun g h1 h2 => ?_, h.bel.grown hg h.bel.size (fun k hk => (World.ownsRow.lt h.ht k hk).1)⟩
  · rw [List.length_append]; exact ho
  · obtain ⟨h1, h2, h3, h4⟩ := h.kept p hp
    exact ⟨grown_blk hg h1 (Ne.symm h3), h2, hne _ _ h1 h3, h4⟩
  · rcases hat with h3 | h3
    · exact h.kt g h1 (h3.symm.trans h2)
    · rw [h2] at h3; have := Option.some.inj h3; have := (World.ownsRow.lt h.hk g h1).2; omega
theorem NS.cell {b : Nat} {u : Value} {j : Nat} {cs : Array Value} {t : TypeId} (h : NS w0 w x c0 cv gv kv ks tv ts L) (hm : ∃ p ∈ L, p.2 = .cells cs t (0, 0) ∧ p.1 = b) (hj : cs[j]? = some u) : w.cell? ⟨b, j, none⟩ = some u := by
  obtain ⟨⟨b', o⟩, hp, h1, h2⟩ := hm
  have h1' : o = _ := h1
  have h2' : b' = b := h2
  subst h1' h2'
  exact (cell_blk (h.kept _ hp).1 j).trans hj
theorem NS.l0 (h : NS w0 w x c0 cv gv kv ks tv ts L) : w.cell? ⟨x, 1, none⟩ = some cv := cell_blk h.xb 1
theorem NS.l1 (h : NS w0 w x c0 cv gv kv ks tv ts L) : ∀ o, (w.alloc o).cell? ⟨x, 1, none⟩ = some cv := fun o => (h.alloc o).l0
theorem NS.l2 (h : NS w0 w x c0 cv gv kv ks tv ts L) : ∀ o o', ((w.alloc o).alloc o').cell? ⟨x, 1, none⟩ = some cv := fun o o' => ((h.alloc o).alloc o').l0
theorem NS.f0 (h : NS w0 w x c0 cv gv kv ks tv ts L) : w.frozen? ⟨x, 1, none⟩ = false := frozen_blk h.xb 1
theorem NS.f1 (h : NS w0 w x c0 cv gv kv ks tv ts L) : ∀ o, (w.alloc o).frozen? ⟨x, 1, none⟩ = false := fun o => (h.alloc o).f0
theorem ns_end {j : Nat} {At Ak : Option Addr} {ct ck : Nat} (h : NS w0 w x c0 (.slice Ak j ck) gv (.slice Ak j ck) ks (.slice At j ct) ts L) :
    ∃ At' ct' Ak' ck', Value.slice At j ct = .slice At' j ct' ∧ Hid (NS w0 w x c0 (.slice Ak' j ck') gv (.slice Ak' j ck') ks (.slice At j ct) ts []) := ⟨At, ct, Ak, ck, rfl, Lib.hid h.weak⟩
theorem stepK {o : Oper} {a : Act} {K : Act → World → Prop} {Q : Exit → Act → World → Prop} {E : Prop} {ys : Nat → Option Bool} (hgd : o.guard = none) (s xx : Operand)
    (ho : o.op = .call { callee := .builtin .append, args := #[s, xx], argTypes := #[23, 23] })
    (h : NS w0 w x c0 cv gv kv ks tv ts L) (hs : a.eval s = kv) {b c : Nat} (hx : a.eval xx = .slice (some ⟨b, 0, none⟩) 1 c) {k : Key} {t : TypeId}
    (hm : ∃ p ∈ L, p.2 = .cells #[.string (ba k)] t (0, 0) ∧ p.1 = b) {n : Nat} (hn : ks.length = n) (hl : n ≤ 1099511627)
    (hk : ∀ A c' w', NS w0 w' x c0 cv gv (.slice A (n + 1) c') (ks ++ [k]) tv ts L → K (a.put o.dst (.slice A (n + 1) c')) w') : if Region.wanted o ys = true then Oper.wp Tryz.prog o a w K Q else E := by
  obtain ⟨⟨b', o'⟩, hp, h1, h2⟩ := hm
  have h1' : o' = _ := h1
  have h2' : b' = b := h2
  subst h1' h2' hn
  refine stepE el_str hgd s xx ho w0.heap.size kv ks.length (VS ks) hs h.hk (some ⟨b', 0, none⟩) 1 c [encStr k] hx (fun e => by cases e) rfl (sl_blk (xs := [encStr k]) (h.kept _ hp).1) (fun u hu => by simp at hu; subst hu; rfl) (by omega) h.bel.size ?_
  intro v' w' h3 h4 _ h5
  obtain ⟨A, c', rfl, -, -, -, -, -, -⟩ := own_form h3
  exact hk A c' w' (h.appK h3 h4 h5)
theorem stepT {o : Oper} {a : Act} {K : Act → World → Prop} {Q : Exit → Act → World → Prop} {E : Prop} {ys : Nat → Option Bool} (hgd : o.guard = none) (s xx : Operand)
    (ho : o.op = .call { callee := .builtin .append, args := #[s, xx], argTypes := #[47, 47] })
    (h : NS w0 w x c0 cv gv kv ks tv ts L) (hs : a.eval s = tv) {b c : Nat} (hx : a.eval xx = .slice (some ⟨b, 0, none⟩) 1 c) {u : Value} {t : TypeId} (hu : u.oneCell' = true)
    (hm : ∃ p ∈ L, p.2 = .cells #[u] t (0, 0) ∧ p.1 = b) {n : Nat} (hn : ts.length = n) (hl : n ≤ 1099511627)
    (hk : ∀ A c' w', NS w0 w' x c0 cv gv kv ks (.slice A (n + 1) c') (ts ++ [u]) L → K (a.put o.dst (.slice A (n + 1) c')) w') : if Region.wanted o ys = true then Oper.wp Tryz.prog o a w K Q else E := by
  obtain ⟨⟨b', o'⟩, hp, h1, h2⟩ := hm
  have h1' : o' = _ := h1
  have h2' : b' = b := h2
  subst h1' h2' hn
  refine stepE el_row hgd s xx ho w0.heap.size tv ts.length ts hs h.ht (some ⟨b', 0, none⟩) 1 c [u] hx (fun e => by cases e) rfl (sl_blk (xs := [u]) (h.kept _ hp).1) (fun u' hu' => by simp at hu'; subst hu'; exact hu) (by omega) h.bel.size ?_
  intro v' w' h3 h4 _ h5
  obtain ⟨A, c', rfl, -, -, -, -, -, -⟩ := own_form h3
  exact hk A c' w' (h.appT h3 h4 h5)
end
end Go.Proofs.YtphccomhggnccaaGreat
namespace Go.Proofs.YtphccomhggnccaaGreat
set_option maxRecDepth 100000
set_option linter.unusedVariables false
set_option linter.unusedSimpArgs false
set_option maxRecDepth 100000
open Go.RowKit Sg Fm
namespace Sg
def wtD (ds : List Dc) : Nat := (ds.map fun d => 5 + d.1.length + d.2.length).sum
def wtG (gs : List Key) : Nat := (gs.map fun g => 5 + g.length).sum
theorem wtD_cons (d : Dc) (r : List Dc) : wtD (d :: r) = 5 + d.1.length + d.2.length + wtD r := by simp [wtD]
theorem wtG_cons (g : Key) (r : List Key) : wtG (g :: r) = 5 + g.length + wtG r := by simp [wtG]
theorem wtD_append (a b : List Dc) : wtD (a ++ b) = wtD a + wtD b := by simp [wtD]
theorem wtG_append (a b : List Key) : wtG (a ++ b) = wtG a + wtG b := by simp [wtG]
theorem wtD_perm {a b : List Dc} (h : a.Perm b) : wtD a = wtD b := (h.map _).sum_nat
theorem wtG_perm {a b : List Key} (h : a.Perm b) : wtG a = wtG b := (h.map _).sum_nat
theorem wtD_mem {ds : List Dc} {d : Dc} (h : d ∈ ds) : 5 + d.1.length + d.2.length ≤ wtD ds := by
  induction ds with
  | nil => cases h
  | cons a r ih =>
    rw [wtD_cons]
    rcases List.mem_cons.1 h with rfl | h
    · omega
    · have := ih h; omega
theorem wtG_mem {gs : List Key} {g : Key} (h : g ∈ gs) : 5 + g.length ≤ wtG gs := by
  induction gs with
  | nil => cases h
  | cons a r ih =>
    rw [wtG_cons]
    rcases List.mem_cons.1 h with rfl | h
    · omega
    · have := ih h; omega
theorem wtD_len (ds : List Dc) : 5 * ds.length ≤ wtD ds := by
  induction ds with
  | nil => simp [wtD]
  | cons a r ih => rw [wtD_cons, List.length_cons]; omega
theorem wtG_len (gs : List Key) : 5 * gs.length ≤ wtG gs := by
  induction gs with
  | nil => simp [wtG]
  | cons a r ih => rw [wtG_cons, List.length_cons]; omega
theorem keysB_wt (gs : List Key) (h : wtG gs ≤ 20000) : (keysB gs).length ≤ wtG gs := by
  induction gs with
  | nil => simp [keysB]
  | cons a r ih =>
    rw [wtG_cons] at h ⊢
    have h1 := ih (by omega)
    rw [keysB_cons, List.length_append]
    have h2 := num_len 4 (nk a).length (by rw [nk_length]; omega)
    unfold byt
    rw [List.length_append, nk_length]
    rw [nk_length] at h2
    omega
theorem wtG_keysD (ds : List Dc) : wtG (keysD ds) ≤ wtD ds := by
  induction ds with
  | nil => simp [wtG, wtD, keysD]
  | cons a r ih => 
    show wtG (a.1 :: keysD r) ≤ _
    rw [wtG_cons, wtD_cons]; omega
theorem body_wt (ds : List Dc) : (body (textsD ds)).length ≤ wtD ds := by
  induction ds with
  | nil => simp [body, wtD, textsD]
  | cons a r ih =>
    show (body (a.2 :: textsD r)).length ≤ _
    rw [body_cons, wtD_cons, List.length_append, txt_length]; omega
structure Lite (ds : List Dc) (gs : List Key) : Prop where
  w : wtD ds + wtG gs ≤ 20000
  t : ∀ d ∈ ds, d.2.length ≤ 4096
theorem Lite.perm {ds ds' : List Dc} {gs gs' : List Key} (h : Lite ds gs) (h1 : ds'.Perm ds) (h2 : gs'.Perm gs) : Lite ds' gs' :=
  ⟨by rw [wtD_perm h1, wtG_perm h2]; exact h.w, fun d hd => h.t d (h1.mem_iff.1 hd)⟩
end Sg
open Sg
theorem Sg.Lite.fits {ds : List Dc} {gs : List Key} (h : Lite ds gs) : Fits ds gs := by
  have h0 := h.w
  have h1 := wtG_keysD ds
  have h2 := keysB_wt (keysD ds) (by omega)
  have h3 := keysB_wt gs (by omega)
  have h4 := body_wt ds
  exact ⟨by omega, by omega, by rw [rowT_length]; omega⟩
structure TxtOk (w : World) (e : De) : Prop where
  len : e.t.length = e.n
  le : e.n ≤ e.c
  nil : e.a = none → e.c = 0
  sl : Sl w e.a (VY e.t)
  lt : ∀ b ∈ e.t, b < 256
theorem TxtOk.below {w w' : World} {e : De} (h : TxtOk w e) (hb : Below w.heap.size w w') : TxtOk w' e := ⟨h.len, h.le, h.nil, h.sl.below hb, h.lt⟩
structure DArg (w : World) (A : Option Addr) (n c : Nat) (es : List De) : Prop where
  len : es.length = n
  le : n ≤ c
  nil : A = none → c = 0
  sl : Sl w A (VD es)
  txt : ∀ e ∈ es, TxtOk w e
theorem DArg.below {w w' : World} {A : Option Addr} {n c : Nat} {es : List De} (h : DArg w A n c es) (hb : Below w.heap.size w w') : DArg w' A n c es :=
  ⟨h.len, h.le, h.nil, h.sl.below hb, fun e he => (h.txt e he).below hb⟩
structure GArg (w : World) (A : Option Addr) (n c : Nat) (gs : List Key) : Prop where
  len : gs.length = n
  le : n ≤ c
  nil : A = none → c = 0
  sl : Sl w A (VS gs)
theorem GArg.below {w w' : World} {A : Option Addr} {n c : Nat} {gs : List Key} (h : GArg w A n c gs) (hb : Below w.heap.size w w') : GArg w' A n c gs :=
  ⟨h.len, h.le, h.nil, h.sl.below hb⟩
theorem sl_at {w : World} {A : Option Addr} {xs : List Value} (h : Sl w A xs) (hn : 0 < xs.length) : ∀ a, A = some a → a.block < w.heap.size ∧ a.spot = none := by
  intro a ha
  obtain ⟨b, off, hA, hc⟩ := h.lit (j := 0) hn
  rw [ha] at hA
  have hA := Option.some.inj hA
  subst hA
  refine ⟨?_, rfl⟩
  rw [List.getElem?_eq_getElem hn] at hc
  exact World.block_lt_of_cell? w _ hc
theorem DArg.lt {w : World} {A : Option Addr} {n c : Nat} {es : List De} (h : DArg w A n c es) (hn : 0 < n) : ∀ a, A = some a → a.block < w.heap.size ∧ a.spot = none := sl_at h.sl (by rw [VD_length, h.len]; omega)
theorem GArg.lt {w : World} {A : Option Addr} {n c : Nat} {gs : List Key} (h : GArg w A n c gs) (hn : 0 < n) : ∀ a, A = some a → a.block < w.heap.size ∧ a.spot = none := sl_at h.sl (by rw [VS_length, h.len]; omega)
theorem docs_of_arg {w : World} {A : Option Addr} {n c : Nat} {es : List De} (h : DArg w A n c es) : SgD.Docs w.heap.size w (.slice A n c) es := by
  rcases Nat.eq_zero_or_pos n with h0 | h0
  · subst h0
    exact .inl ⟨A, c, rfl, List.eq_nil_of_length_eq_zero h.len⟩
  · cases A with
    | none => have := h.nil rfl; have := h.le; omega
    | some a =>
      obtain ⟨h1, h2⟩ := h.lt h0 a rfl
      obtain ⟨b, off, sp⟩ := a
      have h2' : sp = none := h2
      subst h2'
      refine .inr ⟨b, off, c, by rw [h.len], h1, fun j hj => ⟨?_, ?_⟩⟩
      · have h3 := h.sl.cell _ rfl (j * 2) _ (VD_get0 es j hj)
        rwa [show (⟨b, off, none⟩ : Addr).add (j * 2) = ⟨b, off + j * 2, none⟩ by unfold Addr.add; split <;> simp_all] at h3
      · have h3 := h.sl.cell _ rfl (j * 2 + 1) _ (VD_get1 es j hj)
        rwa [show (⟨b, off, none⟩ : Addr).add (j * 2 + 1) = ⟨b, off + j * 2 + 1, none⟩ by unfold Addr.add; split <;> simp_all; omega] at h3
theorem ints_of_arg {w : World} {A : Option Addr} {n c : Nat} {gs : List Key} (h : GArg w A n c gs) : SgS.Ints w.heap.size w (.slice A n c) gs := by
  rcases Nat.eq_zero_or_pos n with h0 | h0
  · subst h0
    exact .inl ⟨A, c, rfl, List.eq_nil_of_length_eq_zero h.len⟩
  · exact ints_of_sl h.sl h.len h.nil (h.lt h0)
def VT (l : List De) : List Value := l.map fun e => .slice e.a e.n e.c
theorem VT_length (l : List De) : (VT l).length = l.length := by simp [VT]
theorem VT_get (l : List De) (i : Nat) (h : i < l.length) : (VT l)[i]? = some (.slice (l[i]?.getD default).a (l[i]?.getD default).n (l[i]?.getD default).c) := by simp [VT, h]
theorem rarg_of_row {w : World} {A : Option Addr} {n c : Nat} {m : List De} (hS : Sl w A (VT m)) (hl : m.length = n) (hn : n ≤ 1099511627776) (ht : ∀ e ∈ m, TxtOk w e) (hm : ∀ e ∈ m, e.n ≤ 1099511627776) : RArg w A n c (m.map (·.t)) := by
  refine ⟨by simp [hl], by omega, fun t h => ?_, fun t h => ?_, fun d hd => ?_⟩
  · obtain ⟨e, he, rfl⟩ := List.mem_map.1 h
    have := hm e he
    rw [(ht e he).len]; omega
  · obtain ⟨e, he, rfl⟩ := List.mem_map.1 h
    exact (ht e he).lt
  · have hd' : d < m.length := by omega
    obtain ⟨a, rfl, hc⟩ := hS.some (j := d) (by rw [VT_length]; exact hd')
    rw [VT_get m d hd'] at hc
    have h1 := ht _ (List.getElem_mem hd')
    have e1 : m[d]?.getD default = m[d] := by simp [hd']
    have e2 : (m.map (·.t)).getD d [] = m[d].t := by simp [List.getD, hd']
    rw [e1] at hc
    rw [e2]
    exact ⟨a, m[d].a, m[d].n, m[d].c, rfl, hc, h1.len, h1.le, h1.nil, h1.sl⟩
theorem buildS_ok (w : World) (A : Option Addr) (n c : Nat) (ts : List (List Nat)) (hA : RArg w A n c ts) (hn : n ≤ 1099511627776) (hm : (rowT ts).length ≤ 65536) :
    Calls Tryz.prog 53 #[.slice A n c] w (BuiltX w ts) := by
  have hle : ∀ t ∈ ts, t.length ≤ 1099511627776 := by
    intro t ht
    obtain ⟨i, hi, rfl⟩ := List.getElem_of_mem ht
    have h1 := body_take_succ ts i hi
    have h2 := body_take_le ts (i + 1)
    have e : ts.getD i [] = ts[i] := by simp [List.getD, List.getElem?_eq_getElem hi]
    rw [h1, List.length_append, txt_length, e] at h2
    rw [rowT_length] at hm
    omega
  refine (build_fm w A n c ts hA hn hle).mono ?_
  rintro e w' (⟨_, h⟩ | ⟨h, _⟩)
  · exact h
  · omega
end Go.Proofs.YtphccomhggnccaaGreat
