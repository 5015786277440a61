/- A segment in memory; a key as bytes. -/
import Derived.Test.YtphccomhggnccaaGreatSgC
import Derived.Test.YtphccomhggnccaaGreatSgB
import Derived.Test.YtphccomhggnccaaGreatFmRes
import Derived.Laws.IdiomStrings
import Derived.Test.YtphccomhggnccaaGreatWv
import Derived.RegionTactic
import Derived.Deep.RegionHeldLaw
import Derived.StillTailTactics
import Derived.Lib.SlBytesConst
namespace Go.Proofs.YtphccomhggnccaaGreat
set_option maxRecDepth 100000
set_option linter.unusedVariables false
set_option linter.unusedSimpArgs false
set_option maxRecDepth 100000
open Go.RowKit Sg Fm
theorem conv_key (w : World) (k : Key) (hk : k.length ≤ 1099511627776) : ∃ c W, (convert 9 34 (.string (ba k))).run Tryz.prog w = .ok (.slice (some ⟨w.heap.size, 0, none⟩) k.length c) W ∧ Sl W (some ⟨w.heap.size, 0, none⟩) (VY (nk k)) ∧ Below w.heap.size w W ∧ W.heap.size = w.heap.size + 1 ∧ k.length ≤ c := by
  have h := run_bytes_of_string (P := Tryz.prog) w 9 34 5 (ba k) Tryz.underlying9 Tryz.underlying34 Tryz.underlying5
  have hs : (ba k).size = k.length := by simp [ba, ByteArray.size]
  rw [hs] at h
  refine ⟨_, _, h, ?_, (below_drewN w.heap.size w 1).trans ((Below.refl _ w.drew).alloc (Nat.le_refl _) _), by simp, grownCap_ge w k.length 0 5⟩
  refine ⟨fun e => (by cases e), fun a ha j u hu => ?_⟩
  cases ha
  have hj : j < k.length := by
    rcases Nat.lt_or_ge j k.length with h | h
    · exact h
    · rw [List.getElem?_eq_none (by rw [VY_length, nk_length]; exact h)] at hu; cases hu
  rw [show (⟨w.heap.size, 0, none⟩ : Addr).add j = ⟨w.heap.size, j, none⟩ by unfold Addr.add; split <;> simp_all]
  have hb : (w.drew.alloc (.cells (bytesRow (ba k) (grownCap w k.length 0 5)) 5 ((bytesRow (ba k) (grownCap w k.length 0 5)).size, (bytesRow (ba k) (grownCap w k.length 0 5)).size + 1))).heap[w.heap.size]? = some (.cells (bytesRow (ba k) (grownCap w k.length 0 5)) 5 ((bytesRow (ba k) (grownCap w k.length 0 5)).size, (bytesRow (ba k) (grownCap w k.length 0 5)).size + 1)) := heap_alloc_new w.drew _
  rw [cell_blk hb, ← hu, VY_get _ _ (by rw [nk_length]; exact hj)]
  simp [bytesRow, ba, Array.getElem?_append, hj, nk, List.getD]
/-- an address of a row that is read: no spot, in a block from base on that is there -/
structure AdOk (w : World) (base : Nat) (A : Option Addr) : Prop where
  sp : ∀ a, A = some a → a.spot = none
  ge : ∀ a, A = some a → base ≤ a.block ∧ a.block < w.heap.size
theorem AdOk.below {w w' : World} {base B : Nat} {A : Option Addr} (h : AdOk w base A) (hb : Below B w w') : AdOk w' base A := ⟨h.sp, fun a ha => ⟨(h.ge a ha).1, Nat.lt_of_lt_of_le (h.ge a ha).2 hb.size⟩⟩
theorem AdOk.mono {w : World} {base base' : Nat} {A : Option Addr} (h : AdOk w base A) (hb : base' ≤ base) : AdOk w base' A := ⟨h.sp, fun a ha => ⟨Nat.le_trans hb (h.ge a ha).1, (h.ge a ha).2⟩⟩
theorem own_ad {w : World} {base : Nat} {e : TypeId} {size : Nat} {A : Option Addr} {m c n : Nat} {xs : List Value} (h : w.ownsRow base e size (.slice A m c) n xs) : AdOk w base A ∧ m = n := by
  obtain ⟨A', c', e1, _, _, _, _, h2, _⟩ := own_form h
  injection e1 with e1 e2 e3
  subst e1
  exact ⟨⟨fun a ha => by rw [(h2 a ha).2.2.1], fun a ha => ⟨(h2 a ha).1, (h2 a ha).2.1⟩⟩, e2⟩
/-- a segment in memory -/
structure SegM (w : World) (base x : Nat) (ds : List Dc) (gs : List Key) (sa : List Nat) : Prop where
  ge : base ≤ x
  blk : ∃ (ix : Nat) (Ak Ag : Option Addr) (ck cg : Nat), w.heap[x]? = some (.cells #[.pointer (some ⟨ix, 0, none⟩), .slice Ak ds.length ck, .slice Ag gs.length cg] 46 (0, 0)) ∧
    IdxM w base ix (rowT (textsD ds)) sa ∧ Sl w Ak (VS (keysD ds)) ∧ Sl w Ag (VS gs) ∧ AdOk w base Ak ∧ AdOk w base Ag ∧ (Ak = none → ck = 0) ∧ (Ag = none → cg = 0)
theorem SegM.below {w w' : World} {base x : Nat} {ds : List Dc} {gs : List Key} {sa : List Nat} (h : SegM w base x ds gs sa) (hb : Below w.heap.size w w') : SegM w' base x ds gs sa := by
  obtain ⟨ix, Ak, Ag, ck, cg, h1, h2, h3, h4, h5, h6, h7, h8⟩ := h.blk
  exact ⟨h.ge, ix, Ak, Ag, ck, cg, (hb.block x (blk_lt h1)).trans h1, h2.below hb, h3.below hb, h4.below hb, h5.below hb, h6.below hb, h7, h8⟩
theorem Sl.keepB {w w' : World} {base : Nat} {A : Option Addr} {xs : List Value} (h : Sl w A xs) (ha : AdOk w base A) (hk : ∀ k, base ≤ k → k < w.heap.size → w'.heap[k]? = w.heap[k]?) : Sl w' A xs :=
  h.kept fun a e _ => hk _ (ha.ge a e).1 (ha.ge a e).2
theorem SegM.keep {w w' : World} {base x : Nat} {ds : List Dc} {gs : List Key} {sa : List Nat} (h : SegM w base x ds gs sa) (hs : w.heap.size ≤ w'.heap.size) (hk : ∀ k, base ≤ k → k < w.heap.size → w'.heap[k]? = w.heap[k]?) : SegM w' base x ds gs sa := by
  obtain ⟨ix, Ak, Ag, ck, cg, h1, h2, h3, h4, h5, h6, h7, h8⟩ := h.blk
  exact ⟨h.ge, ix, Ak, Ag, ck, cg, (hk x h.ge (blk_lt h1)).trans h1, h2.keep hk, h3.keepB h5 hk, h4.keepB h6 hk, ⟨h5.sp, fun a e => ⟨(h5.ge a e).1, Nat.lt_of_lt_of_le (h5.ge a e).2 hs⟩⟩, ⟨h6.sp, fun a e => ⟨(h6.ge a e).1, Nat.lt_of_lt_of_le (h6.ge a e).2 hs⟩⟩, h7, h8⟩
theorem SegM.mono {w : World} {base base' x : Nat} {ds : List Dc} {gs : List Key} {sa : List Nat} (h : SegM w base x ds gs sa) (hb : base' ≤ base) : SegM w base' x ds gs sa := by
  obtain ⟨ix, Ak, Ag, ck, cg, h1, h2, h3, h4, h5, h6, h7, h8⟩ := h.blk
  exact ⟨Nat.le_trans hb h.ge, ix, Ak, Ag, ck, cg, h1, h2.mono hb, h3, h4, h5.mono hb, h6.mono hb, h7, h8⟩
theorem SegM.lt {w : World} {base x : Nat} {ds : List Dc} {gs : List Key} {sa : List Nat} (h : SegM w base x ds gs sa) : x < w.heap.size := by
  obtain ⟨ix, Ak, Ag, ck, cg, h1, _⟩ := h.blk
  exact blk_lt h1
theorem SegM.ord {w : World} {base x : Nat} {ds : List Dc} {gs : List Key} {sa : List Nat} (h : SegM w base x ds gs sa) : IsSA (rowT (textsD ds)) sa := by
  obtain ⟨ix, Ak, Ag, ck, cg, h1, h2, _⟩ := h.blk
  exact h2.ord
/-- how much a segment may have, so that its record is none too long -/
structure Fits (ds : List Dc) (gs : List Key) : Prop where
  k : (keysB (keysD ds)).length ≤ 400000
  g : (keysB gs).length ≤ 400000
  t : (rowT (textsD ds)).length ≤ 65536
theorem keysB_count (l : List Key) : l.length ≤ (keysB l).length := by
  induction l with
  | nil => simp [keysB]
  | cons a r ih =>
    rw [keysB_cons, List.length_append, List.length_cons]
    have := num_pos (nk a).length
    unfold byt
    rw [List.length_append]
    omega
theorem keysB_mem {l : List Key} {k : Key} (h : k ∈ l) : k.length ≤ (keysB l).length := by
  induction l with
  | nil => cases h
  | cons a r ih =>
    rw [keysB_cons, List.length_append]
    rcases List.mem_cons.1 h with rfl | h
    · unfold byt
      rw [List.length_append, nk_length]
      omega
    · have := ih h
      omega
theorem keysB_take_le (l : List Key) (k : Nat) : (keysB (l.take k)).length ≤ (keysB l).length := by
  conv => rhs; rw [← List.take_append_drop k l]
  unfold keysB
  rw [List.flatMap_append, List.length_append]
  omega
/-- a segment's numbers, turned -/
def turnS (ds : List Dc) (sa : List Nat) : List Nat := trn (rowT (textsD ds)) sa
theorem SegM.turn_lt {w : World} {base x : Nat} {ds : List Dc} {gs : List Key} {sa : List Nat} (h : SegM w base x ds gs sa) : ∀ v ∈ turnS ds sa, v < 512 := by
  obtain ⟨ix, Ak, Ag, ck, cg, h1, h2, _⟩ := h.blk
  intro v hv
  exact h2.lt v ((trn_perm h2.cl h2.ord).mem_iff.1 hv)
theorem SegM.turn_len {w : World} {base x : Nat} {ds : List Dc} {gs : List Key} {sa : List Nat} (h : SegM w base x ds gs sa) : (turnS ds sa).length = (rowT (textsD ds)).length := by
  obtain ⟨ix, Ak, Ag, ck, cg, h1, h2, _⟩ := h.blk
  exact trn_length h2.ord
end Go.Proofs.YtphccomhggnccaaGreat
/- fm: Turned, and where the new row lies. -/
namespace Go.Proofs.YtphccomhggnccaaGreat
set_option maxRecDepth 100000
set_option linter.unusedVariables false
set_option linter.unusedSimpArgs false
set_option maxRecDepth 100000
open Go.RowKit PkMath Pop Rank BtMath Wv Fm
set_option maxRecDepth 100000 in
set_option maxHeartbeats 2000000 in
theorem tallX_any {w : World} {base b W : Nat} {l : List Nat} (h : TM w base b W l) :
    Calls Tryz.prog 142 #[.pointer (some ⟨b, 0, none⟩)] w fun e w' => ∃ A c, e = .returned (.slice A l.length c) ∧ Sl w' A (VI (IL l)) ∧ (∀ a, A = some a → w.heap.size ≤ a.block) ∧ Below w.heap.size w w' := by
  obtain ⟨n, hn⟩ : ∃ n, l.length = n := ⟨_, rfl⟩
  have hlen := h.len
  have hc0 := h.c0
  rw [hn] at hlen hc0 ⊢
  have Hn := Lib.hid hn
  have HTM := Lib.hid h
  have HL := Lib.hid (tlen_cell b (n : Int) w hc0)
  clear hn h hc0
  go_enter Tryz.func142, Tryz.ntmps142
  go_wp2_with (go_at_call 66; refine HL.out.mono ?_; rintro e w' ⟨rfl, rfl⟩)
  go_loopw [3, 7] (fun v i wr => ∃ j : Nat, j ≤ n ∧ i = .int .i64 (j : Int) ∧ wr.ownsRow w.heap.size 3 1 v ((IL l).take j).length (VI ((IL l).take j)) ∧ Below w.heap.size w wr) (fun _ i _ => n - (intOf i).toNat)
  case atStart => exact ⟨0, Nat.zero_le _, rfl, World.ownsRow_nil _ _ _ _, Below.refl _ _⟩
  case round =>
    obtain ⟨j, hj, rfl, hown, hB⟩ := hrel
    by_cases hlt : j < n
    · obtain ⟨A0, c9, hv, hsl0, hl0, hA0⟩ := own_sl hown
      subst hv
      have hG := tget_any (HTM.out.below hB) j (by rw [Hn.out]; exact hlt)
      have HG := Lib.hid hG
      have hsucc : (IL l).take (j + 1) = (IL l).take j ++ [((l.getD j 0 : Nat) : Int)] := by
        have h1 : j < (IL l).length := by rw [IL_length, Hn.out]; exact hlt
        rw [List.take_succ_eq_append_getElem h1, ← IL_getD l j (by rw [Hn.out]; exact hlt)]
        simp [List.getD, List.getElem?_eq_getElem h1]
      have Hsucc := Lib.hid hsucc
      have hlj : ((IL l).take j).length = j := by rw [List.length_take, IL_length, Hn.out]; omega
      clear hG hsucc
      generalize l.getD j 0 = x at *
      generalize (IL l).take j = xs at *
      have Hlj := Lib.hid hlj
      clear hlj
      go_wp2_with fail
      go_at_call 67
      refine HG.out.mono ?_
      rintro e w1 ⟨rfl, hB1⟩
      have hB2 := below_step hB hB1
      have hown1 := World.ownsRow.kept hown (below_grown hB1 (Nat.le_refl _) none) (by
        cases A0 with
        | none => exact .inl rfl
        | some q => exact .inr (by simp [Value.ownBlock]))
      have hbl := hB2.size
      go_wp2_with (at_builtin; refine app_int rfl _ _ rfl w.heap.size _ xs rfl (World.ownsRow.alloc hown1 _) (some ⟨w1.heap.size, 0, none⟩) 1 1 [(x : Int)] rfl (fun h => by cases h) rfl (sl_blk (heap_alloc_new w1 _)) (by have := Hlj.out; omega) (by simp; omega) ?_; intro v' w2 hown2 hgrow hnil)
      have hB3 : Below w.heap.size w w2 := (hB2.alloc hB2.size _).grown hgrow (by simp; omega) (fun k hk => (World.ownsRow.lt hown1 k hk).1)
      refine ⟨⟨j + 1, by omega, rfl, by rw [Hsucc.out]; exact hown2, hB3⟩, ?_⟩
      show n - ((j : Int) + 1).toNat < n - ((j : Int)).toNat
      omega
    · obtain rfl : j = n := by omega
      have ht : (IL l).take j = IL l := List.take_of_length_le (by rw [IL_length, Hn.out]; exact Nat.le_refl _)
      rw [ht] at hown
      obtain ⟨A, c, hv, hsl, hl1, hA1⟩ := own_sl hown
      subst hv
      rw [IL_length, Hn.out]
      go_wp2_with fail
      go_ret
      exact ⟨A, c, rfl, hsl, hA1, hB⟩
theorem turnedY_any {w : World} {base x : Nat} {s sa : List Nat} (h : IdxM w base x s sa) :
    Calls Tryz.prog 106 #[.pointer (some ⟨x, 0, none⟩)] w fun e w' => ∃ A c, e = .returned (.slice A s.length c) ∧ Sl w' A (VI (NI (trn s sa))) ∧ (∀ a, A = some a → w.heap.size ≤ a.block) ∧ Below w.heap.size w w' := by
  have htl := trn_length h.ord
  obtain ⟨h1, h2, h3, h4, h5, tr, g3, y, yc, mb, pb, pg, kk, rb, r, b1, b2, b3, b4, b5, c0, c1, c2, c3, c4, c5, c6, c7, c8⟩ := h
  have hc0 := (cell_blk c0 0).trans rfl
  have H := Lib.hid (whole_any x tr w hc0)
  have HT := Lib.hid (tallX_any c1)
  rw [htl] at HT
  clear c0 c1 c2 c3 c4 c5 c6 c7 c8 h1 h3 h4 h5 b1 b2 b3 b4 b5 htl
  go_enter Tryz.func106, Tryz.ntmps106
  go_wp2_with (go_at_call 64; refine H.out.mono ?_; rintro e w' ⟨rfl, rfl⟩)
  go_at_call 142
  refine HT.out.mono ?_
  rintro e w1 ⟨A, c, rfl, hS, hA, hB⟩
  have HS := Lib.hid hS
  have HAd := Lib.hid hA
  clear hA hS
  go_wp2_with fail
  go_ret
  exact ⟨A, c, rfl, HS.out, HAd.out, hB⟩
end Go.Proofs.YtphccomhggnccaaGreat
/- segment: record, Encode. -/
namespace Go.Proofs.YtphccomhggnccaaGreat
set_option maxRecDepth 100000
set_option linter.unusedVariables false
set_option linter.unusedSimpArgs false
set_option maxRecDepth 100000
open Go.RowKit Sg Fm
/-- the rows of keys that a record lays -/
def rowOf (ds : List Dc) (gs : List Key) (j : Nat) : List Key := if j = 0 then keysD ds else gs
/-- what is laid ahead of the j-th row -/
def accOf (ds : List Dc) (gs : List Key) (j : Nat) : List Nat := if j = 0 then [83, 1] else if j = 1 then [83, 1] ++ (num (keysD ds).length ++ keysB (keysD ds)) else [83, 1] ++ (num (keysD ds).length ++ keysB (keysD ds)) ++ (num gs.length ++ keysB gs)
theorem accOf_succ (ds : List Dc) (gs : List Key) (j : Nat) (h : j < 2) : accOf ds gs (j + 1) = accOf ds gs j ++ (num (rowOf ds gs j).length ++ keysB (rowOf ds gs j)) := by
  have hj : j = 0 ∨ j = 1 := by omega
  rcases hj with rfl | rfl <;> simp [accOf, rowOf]
theorem accOf_len {ds : List Dc} {gs : List Key} (h : Fits ds gs) (j : Nat) : (accOf ds gs j).length ≤ 800020 := by
  have h1 := h.k
  have h2 := h.g
  have h3 := keysB_count (keysD ds)
  have h4 := keysB_count gs
  have h5 := num_len 4 (keysD ds).length (by omega)
  have h6 := num_len 4 gs.length (by omega)
  unfold accOf
  split
  · simp
  · split
    · simp; omega
    · simp; omega
theorem wrp_then {A B B' C : World} {x : Nat} {a b : List Nat} {o o1 : Option Nat} (h1 : Wr B x a o1) (h2 : o1 = o ∨ ∃ k, o1 = some k ∧ A.heap.size ≤ k) (h3 : Fr A B (WrS x o)) (hb : Below B.heap.size B B') (k : WrP B' x b o1 C) : WrP A x b o C := by
  refine wrp_trans h1 h2 h3 ?_
  obtain ⟨o2, h4, h5, h6⟩ := k
  refine ⟨o2, h4, ?_, (fr_below hb (WrS x o1)).trans h6 fun _ _ h => h⟩
  rcases h5 with h | ⟨k, h, hk⟩
  · exact .inl h
  · exact .inr ⟨k, h, Nat.le_trans hb.size hk⟩
theorem WrS.ge {x B : Nat} {o : Option Nat} (hx : B ≤ x) (ho : ∀ k, o = some k → B ≤ k) : ∀ k, WrS x o k → B ≤ k := fun k hk => by
  rcases hk with rfl | e
  · exact hx
  · exact ho k e
set_option maxHeartbeats 8000000 in
theorem record_any {w : World} {base x : Nat} {ds : List Dc} {gs : List Key} {sa : List Nat} (h : SegM w base x ds gs sa) (hf : Fits ds gs) :
    Calls Tryz.prog 54 #[.pointer (some ⟨x, 0, none⟩)] w fun e w' => ∃ g cap, e = .returned (.tuple #[.slice (some ⟨g, 0, none⟩) (frame (bodyS (keysD ds) gs (turnS ds sa))).length cap, .int .i64 0]) ∧ w.heap.size ≤ g ∧ (frame (bodyS (keysD ds) gs (turnS ds sa))).length ≤ cap ∧ Sl w' (some ⟨g, 0, none⟩) (VY (frame (bodyS (keysD ds) gs (turnS ds sa)))) ∧ Below w.heap.size w w' := by
  obtain ⟨ix, Ak, Ag, ck, cg, hx, hI, hSk, hSg, hAk, hAg, hck, hcg⟩ := h.blk
  have HI := Lib.hid hI
  have HX := Lib.hid hx
  have HSk := Lib.hid hSk
  have HSg := Lib.hid hSg
  have HAk := Lib.hid hAk
  have HAg := Lib.hid hAg
  have Htl := Lib.hid h.turn_lt
  have Htn := Lib.hid h.turn_len
  have HF := Lib.hid hf
  obtain ⟨nk', hnk⟩ : ∃ n, ds.length = n := ⟨_, rfl⟩
  obtain ⟨ng, hng⟩ : ∃ n, gs.length = n := ⟨_, rfl⟩
  rw [hnk, hng] at HX hx
  have Hnk := Lib.hid hnk
  have Hng := Lib.hid hng
  have hxl := blk_lt hx
  have hx0 := cell_blk hx 0
  have hx1 := cell_blk hx 1
  have hx2 := cell_blk hx 2
  have Hck := Lib.hid hck
  have Hcg := Lib.hid hcg
  clear h hI hx hSk hSg hAk hAg hck hcg hf hnk hng
  go_enter Tryz.func54, Tryz.ntmps54
  go_wp2_with fail
  obtain ⟨xw, hxw⟩ : ∃ n, w.heap.size = n := ⟨_, rfl⟩
  have hW0 := wr_new w
  rw [hxw] at hW0
  have hC1 := (Below.refl _ (w.alloc (.cells #[.slice none 0 0] 144))).alloc (Nat.le_refl _) (.cells #[.int .u8 83, .int .u8 1] 5)
  have hW1 := hW0.below hC1
  have hsz1 : (w.alloc (.cells #[.slice none 0 0] 144)).heap.size = xw + 1 := by simp [hxw]
  have hS1 := sl_blk (xs := VY [83, 1]) (heap_alloc_new (w.alloc (.cells #[.slice none 0 0] 144)) (.cells #[.int .u8 83, .int .u8 1] 5))
  rw [hsz1] at hS1
  have hB1 : Below w.heap.size w ((w.alloc (.cells #[.slice none 0 0] 144)).alloc (.cells #[.int .u8 83, .int .u8 1] 5)) := ((Below.refl _ w).alloc (Nat.le_refl _) _).alloc (by simp) _
  have HR := Lib.hid (raw_any hW1 (some ⟨xw + 1, 0, none⟩) 2 2 [83, 1] hS1 rfl (fun e => by cases e) (by decide))
  have HB1 := Lib.hid hB1
  have Hxw := Lib.hid hxw
  have hxb : xw ≤ xw := Nat.le_refl _
  clear hW0 hC1 hW1 hsz1 hS1 hB1
  rw [hxw]
  clear hxw
  generalize (w.alloc (.cells #[.slice none 0 0] 144)).alloc (.cells #[.int .u8 83, .int .u8 1] 5) = w1 at *
  go_at_call 103
  refine HR.out.mono ?_
  rintro e w2 ⟨rfl, o2, hw2, ho2, hf2⟩
  have Ho2 : Hid (∀ k, o2 = some k → w.heap.size ≤ k) := Lib.hid (fun k hk => by
    rcases ho2 with h | ⟨k', h, hk'⟩
    · rw [h] at hk; cases hk
    · rw [h] at hk; cases hk; exact Nat.le_trans HB1.out.size hk')
  have HB2 := Lib.hid (HB1.out.trans (hf2.below (B := w.heap.size) HB1.out.size (fun k hk => by rcases hk with rfl | hk; rw [Hxw.out]; exact Nat.le_refl _; cases hk)))
  have Hw2 := Lib.hid hw2
  have hx1' : w2.cell? ⟨x, 1, none⟩ = some (.slice Ak nk' ck) := (World.cell?_of_block (HB2.out.block x hxl)).trans hx1
  have hx2' : w2.cell? ⟨x, 2, none⟩ = some (.slice Ag ng cg) := (World.cell?_of_block (HB2.out.block x hxl)).trans hx2
  clear hx1 hx2 hw2 ho2 hf2 HR HB1
  go_wp2_with fail
  go_region
  go_wp2_with fail
  have hC3 := ((Below.refl _ w2).alloc (Nat.le_refl _) (.cells #[.slice Ak nk' ck, .slice Ag ng cg] 23)).trans (below_drewN _ _ 1)
  have hb3 : (w2.alloc (.cells #[.slice Ak nk' ck, .slice Ag ng cg] 23)).drew.heap[w2.heap.size]? = some (.cells #[.slice Ak nk' ck, .slice Ag ng cg] 23 (0, 0)) := heap_alloc_new w2 _
  have hw3 := Hw2.out.below hC3
  have hB3 := HB2.out.trans (hC3.mono HB2.out.size)
  obtain ⟨rb, hrb⟩ : ∃ n, w2.heap.size = n := ⟨_, rfl⟩
  have hrbo : ¬ WrS xw o2 rb := by
    rw [← hrb]
    exact Hw2.out.fresh
  have hwg : w.heap.size ≤ rb := by rw [← hrb]; exact HB2.out.size
  change Below _ _ (w2.alloc (.cells #[.slice Ak nk' ck, .slice Ag ng cg] 23)).drew at hC3
  change Below _ _ (w2.alloc (.cells #[.slice Ak nk' ck, .slice Ag ng cg] 23)).drew at hB3
  change Wr (w2.alloc (.cells #[.slice Ak nk' ck, .slice Ag ng cg] 23)).drew _ _ _ at hw3
  rw [hrb] at hb3 ⊢
  clear hx1' hx2' hC3 hrb HB2 Hw2
  generalize (w2.alloc (.cells #[.slice Ak nk' ck, .slice Ag ng cg] 23)).drew = w3 at *
  have Hb3 := Lib.hid hb3
  have Hw3 := Lib.hid hw3
  have HB3 := Lib.hid hB3
  have Hrbo := Lib.hid hrbo
  have HWS : Hid (∀ k, WrS xw o2 k → w.heap.size ≤ k) := Lib.hid (WrS.ge (by rw [Hxw.out]; exact Nat.le_refl _) Ho2.out)
  clear hb3 hw3 hB3 hrbo
  go_loopw [23] (fun q wr => ∃ j : Nat, j ≤ 2 ∧ q = .int .i64 (j : Int) ∧ Hid (WrP w3 xw (accOf ds gs j) o2 wr)) (fun q _ => 2 - (intOf q).toNat)
  case atStart => exact ⟨0, by omega, rfl, Lib.hid Hw3.out.self⟩
  case round =>
    clear Hw3
    obtain ⟨j, hj, rfl, HP⟩ := hrel
    obtain ⟨wo, rfl⟩ : ∃ wo : World, wo = wr := ⟨_, rfl⟩
    obtain ⟨o1, hw1, ho1, hf1⟩ := HP.out
    have hBo : Below w.heap.size w wo := HB3.out.trans (hf1.below (B := w.heap.size) HB3.out.size HWS.out)
    have hrbb : wo.heap[rb]? = some (.cells #[.slice Ak nk' ck, .slice Ag ng cg] 23 (0, 0)) := (hf1.block rb (blk_lt Hb3.out) Hrbo.out).trans Hb3.out
    by_cases hj2 : j < 2
    · obtain ⟨A, n, c, hcell, hS, hl, hA, hcn⟩ : ∃ A n c, wo.cell? ⟨rb, j, none⟩ = some (.slice A n c) ∧ Sl w A (VS (rowOf ds gs j)) ∧ (rowOf ds gs j).length = n ∧ AdOk w base A ∧ (A = none → c = 0) := by
        have hj' : j = 0 ∨ j = 1 := by omega
        rcases hj' with rfl | rfl
        · exact ⟨Ak, nk', ck, cell_blk hrbb 0, HSk.out, by show (keysD ds).length = _; rw [keysD_length]; exact Hnk.out, HAk.out, Hck.out⟩
        · exact ⟨Ag, ng, cg, cell_blk hrbb 1, HSg.out, Hng.out, HAg.out, Hcg.out⟩
      have hlen : (keysB (rowOf ds gs j)).length ≤ 400000 := by
        unfold rowOf
        split
        · exact HF.out.k
        · exact HF.out.g
      have hcnt := keysB_count (rowOf ds gs j)
      have hal := accOf_len HF.out j
      have hjz : (j : Int) < 2 := by omega
      have Hsu := Lib.hid (accOf_succ ds gs j hj2)
      have hkm := fun k (hk : k ∈ rowOf ds gs j) => keysB_mem hk
      have hktl := fun k => keysB_take_le (rowOf ds gs j) k
      rw [hl] at Hsu hcnt
      obtain ⟨l, hle⟩ : ∃ l, rowOf ds gs j = l := ⟨_, rfl⟩
      obtain ⟨aj, haj⟩ : ∃ a, accOf ds gs j = a := ⟨_, rfl⟩
      rw [hle] at hS hl hlen hcnt hkm hktl Hsu
      rw [haj] at hw1 hal Hsu HP
      have HS := Lib.hid hS
      have Hl := Lib.hid hl
      have HA := Lib.hid hA
      have Hcn := Lib.hid hcn
      have Hkm := Lib.hid hkm
      have Hktl := Lib.hid hktl
      have HBo := Lib.hid hBo
      have Hn5 := Lib.hid (num_len 4 n (by omega))
      have hC4 := (Below.refl _ wo).alloc (Nat.le_refl _) (.cells #[.int .i64 (n : Int)] 3)
      have HN := Lib.hid (nums_any (hw1.below hC4) (some ⟨wo.heap.size, 0, none⟩) 1 1 [n] (sl_blk (heap_alloc_new wo _)) rfl (fun a ha => by cases ha; exact hw1.fresh) (lt_one (by omega)) (by decide) (by omega))
      rw [nums_one] at HN
      have HT := Lib.hid (fun (w5 : World) (k : WrP (wo.alloc (.cells #[.int .i64 (n : Int)] 3)) xw (aj ++ num n) o1 w5) => wrp_then hw1 ho1 hf1 hC4 k)
      clear hS hl hA hcn hkm hktl hBo hC4 hw1 ho1 hf1 HP hrbb hle haj
      go_wp2_with fail
      go_at_call 104
      refine HN.out.mono ?_
      rintro e w5 ⟨rfl, hP5⟩
      have HP5 := Lib.hid (HT.out w5 hP5)
      clear hP5 HT HN
      go_wp2_with fail
      go_loopw [33] (fun q wr => ∃ k : Nat, k ≤ n ∧ q = .int .i64 (k : Int) ∧ Hid (WrP w3 xw (aj ++ num n ++ keysB (l.take k)) o2 wr)) (fun q _ => n - (intOf q).toNat)
      case atStart => exact ⟨0, Nat.zero_le _, rfl, by simpa [keysB] using HP5⟩
      case round =>
        clear HP5
        obtain ⟨k, hk, rfl, HP⟩ := hrel
        obtain ⟨o1, hw1, ho1, hf1⟩ := HP.out
        have hBo : Below w.heap.size w wr := HB3.out.trans (hf1.below (B := w.heap.size) HB3.out.size HWS.out)
        by_cases hkn : k < n
        · obtain ⟨b, off, rfl, hkc⟩ : ∃ b off, A = some ⟨b, off, none⟩ ∧ wr.cell? ⟨b, off + k, none⟩ = some (.string (ba (l.getD k []))) := by
            cases A with
            | none =>
              exfalso
              have h := HS.out.nil rfl
              have h2 : l.length = 0 := by rw [← VS_length, h]; rfl
              have := Hl.out
              omega
            | some a =>
              obtain ⟨b, off, sp⟩ := a
              have h2' : sp = none := HA.out.sp _ rfl
              subst h2'
              exact ⟨b, off, rfl, VS_cell (HS.out.below hBo) (by rw [Hl.out]; exact hkn)⟩
          have hkm2 := Hkm.out _ (getD_memK (l := l) (i := k) (by rw [Hl.out]; exact hkn))
          have Hks : Hid (keysB (l.take (k + 1)) = keysB (l.take k) ++ byt (nk (l.getD k []))) := Lib.hid (by
            rw [List.take_succ_eq_append_getElem (by rw [Hl.out]; exact hkn), keysB_snoc]
            simp [List.getD, List.getElem?_eq_getElem (show k < l.length by rw [Hl.out]; exact hkn)])
          have hkt := Hktl.out k
          obtain ⟨key, hke⟩ : ∃ key, l.getD k [] = key := ⟨_, rfl⟩
          rw [hke] at hkc hkm2 Hks
          obtain ⟨cc, W, hrun, hsl, hbl, hsz, hcc⟩ := conv_key wr key (by omega)
          have hC6 := (Below.refl _ W).alloc (Nat.le_refl _) (.cells #[.slice (some ⟨wr.heap.size, 0, none⟩) key.length cc] 34)
          have hbc := below_next hbl hC6
          have hln : (aj ++ num n ++ keysB (l.take k)).length ≤ 1099511627 := by
            have := Hn5.out
            rw [List.length_append, List.length_append]; omega
          have hBy := (bytesW_any (hw1.below hbc) W.heap.size 0 1 (some ⟨wr.heap.size, 0, none⟩) key.length cc (nk key) (cell_blk (heap_alloc_new W _) 0) ((hw1.below hbl).fresh) (hsl.below hC6) (nk_length key) (fun e => by cases e) (fun a ha => by cases ha; exact hw1.fresh) (by omega) hln)
          rw [hsz] at hBy
          have HBy := Lib.hid hBy
          clear hBy
          have HT := Lib.hid (fun (w5 : World) (kk : WrP (W.alloc (.cells #[.slice (some ⟨wr.heap.size, 0, none⟩) key.length cc] 34)) xw (aj ++ num n ++ keysB (l.take k) ++ byt (nk key)) o1 w5) => wrp_then hw1 ho1 hf1 hbc kk)
          clear hsl hbl hcc hC6 hbc hln hw1 ho1 hf1 HP hBo hke hkt
          go_wp2_with fail
          go_at_call 105
          refine HBy.out.mono ?_
          rintro e w7 ⟨rfl, hP7⟩
          have HP7 := Lib.hid (HT.out w7 hP7)
          rw [List.append_assoc, ← Hks.out] at HP7
          clear hP7 HT HBy hrun hsz
          go_wp2_with fail
          go_roundw
          case rel => exact ⟨k + 1, by omega, by go_num, HP7⟩
          case measure => simp [intOf]; omega
        · obtain rfl : k = n := by omega
          have HP9 : Hid (WrP w3 xw (accOf ds gs (j + 1)) o2 wr) := Lib.hid (by
            have := HP.out
            rw [← Hl.out, List.take_length, Hl.out, List.append_assoc, ← Hsu.out] at this
            exact this)
          clear hw1 ho1 hf1 HP hBo
          go_wp2_with fail
          go_roundw
          case rel => exact ⟨j + 1, by omega, by go_num, HP9⟩
          case measure => simp [intOf]; omega
    · obtain rfl : j = 2 := by omega
      have hxc : wo.cell? ⟨x, 0, none⟩ = some (.pointer (some ⟨ix, 0, none⟩)) := cell_blk ((hBo.block x hxl).trans HX.out) 0
      have HTn := Lib.hid (turnedY_any (HI.out.below hBo))
      have HBo := Lib.hid hBo
      have Hl1 := Lib.hid hw1
      have hal := accOf_len HF.out 2
      obtain ⟨m, hm⟩ : ∃ m, (rowT (textsD ds)).length = m := ⟨_, rfl⟩
      have hm6 : m ≤ 65536 := by rw [← hm]; exact HF.out.t
      rw [hm] at HTn
      have Hm : Hid ((turnS ds sa).length = m) := Lib.hid (by rw [Htn.out, hm])
      have Hbod : Hid (bodyS (keysD ds) gs (turnS ds sa) = accOf ds gs 2 ++ num m ++ nums (turnS ds sa)) := Lib.hid (by
        unfold bodyS accOf
        rw [Hm.out]
        simp)
      obtain ⟨a2, ha2⟩ : ∃ a, accOf ds gs 2 = a := ⟨_, rfl⟩
      rw [ha2] at Hbod hw1 hal HP Hl1
      change Hid (Calls _ _ _ _ fun e w' => ∃ A c, e = _ ∧ Sl w' A (VI (NI (turnS ds sa))) ∧ _) at HTn
      obtain ⟨tt, htt⟩ : ∃ t, turnS ds sa = t := ⟨_, rfl⟩
      have Htv := Lib.hid Htl.out
      rw [htt] at Hbod Hm HTn Htv
      have Htt := Lib.hid htt
      have Ho1 := Lib.hid ho1
      have Hf1 := Lib.hid hf1
      clear hm ha2 hBo hw1 htt hrbb ho1 hf1 HP
      go_wp2_with fail
      go_at_call 106
      refine HTn.out.mono ?_
      rintro e w5 ⟨A5, c5, rfl, hS5, hA5, hB5⟩
      have hw5 := Hl1.out.below hB5
      have hS5l : ∀ a, A5 = some a → ¬ WrS xw o1 a.block := fun a ha hk => by
        have h1 := hA5 a ha
        rcases hk with h | h
        · have := Hl1.out.lt.1; omega
        · have := Hl1.out.lt.2 _ h; omega
      have hC6 := (Below.refl _ w5).alloc (Nat.le_refl _) (.cells #[.int .i64 (m : Int)] 3)
      have hw6 := hw5.below hC6
      have HN := Lib.hid (nums_any hw6 (some ⟨w5.heap.size, 0, none⟩) 1 1 [m] (sl_blk (heap_alloc_new w5 _)) rfl (fun a ha => by cases ha; exact hw5.fresh) (lt_one (by omega)) (by decide) (by omega))
      rw [nums_one] at HN
      have HS6 := Lib.hid (hS5.below hC6)
      have HB5 := Lib.hid (below_next hB5 hC6)
      have HSl := Lib.hid hS5l
      have Hn5 := Lib.hid (num_len 4 m (by omega))
      clear hS5 hA5 hB5 hw5 hC6 hw6 hS5l HTn
      go_wp2_with fail
      go_at_call 104
      refine HN.out.mono ?_
      rintro e w7 ⟨rfl, o7, hw7, ho7, hf7⟩
      have hS7 := HS6.out.fr hf7 HSl.out
      have hT7 := wrp_then Hl1.out Ho1.out Hf1.out HB5.out ⟨o7, hw7, ho7, hf7⟩
      have hsl7 : ∀ a, A5 = some a → ¬ WrS xw o7 a.block := fun a ha hk => by
        have hne : 0 < m := by
          rcases Nat.eq_zero_or_pos m with h | h
          · exfalso
            have h1 := Hm.out
            rw [h] at h1
            have := HI.out.cl.pos
            rw [← Htn.out, Htt.out, h1] at this
            omega
          · exact h
        have hlt := HS6.out.lt a ha (fun e => by
          have h2 := congrArg List.length e
          rw [VI_length, NI_length, Hm.out] at h2
          simp at h2
          omega)
        rcases hk with h | h
        · exact HSl.out a ha (.inl h)
        · rcases ho7 with h2 | ⟨k, h2, h3⟩
          · rw [h2] at h; exact HSl.out a ha (.inr h)
          · rw [h2] at h; cases h; omega
      have HNs := Lib.hid (nums_any hw7 A5 m c5 tt hS7 Hm.out hsl7 (fun v hv => by have := Htv.out v hv; omega) (by omega) (by have := Hn5.out; rw [List.length_append]; omega))
      have hBt := HB3.out.trans ((show Fr w3 w7 (WrS xw o2) from by obtain ⟨_, _, _, h⟩ := hT7; exact h).below (B := w.heap.size) HB3.out.size HWS.out)
      have HB7 := Lib.hid hBt
      have hge7 : ∀ k, WrS xw o7 k → w.heap.size ≤ k := fun k hk => by
        obtain ⟨o', _, _, _⟩ := hT7
        rcases hk with h | h
        · rw [h]; have := Hxw.out; omega
        · rcases ho7 with h2 | ⟨k', h2, h3⟩
          · rw [h2] at h
            rcases Ho1.out with h4 | ⟨k4, h4, h5⟩
            · rw [h4] at h; exact Ho2.out _ h
            · rw [h4] at h; cases h; exact Nat.le_trans HB3.out.size h5
          · rw [h2] at h; cases h
            exact Nat.le_trans (Nat.le_trans HBo.out.size HB5.out.size) h3
      have HG7 := Lib.hid hge7
      clear hS7 hT7 hsl7 hw7 ho7 hf7 HN hBt hge7
      go_wp2_with fail
      go_at_call 104
      refine HNs.out.mono ?_
      rintro e w8 ⟨rfl, o8, hw8, ho8, hf8⟩
      rw [← Hbod.out] at hw8
      have HB8 := Lib.hid (HB7.out.trans (hf8.below (B := w.heap.size) HB7.out.size HG7.out))
      have hbl : 0 < (bodyS (keysD ds) gs tt).length ∧ (bodyS (keysD ds) gs tt).length ≤ 1048512 := by
        have h1 := Hn5.out
        have h2 := nums_len 1 tt (fun v hv => by have := Htv.out v hv; omega)
        have h3 := num_pos m
        rw [Hbod.out, List.length_append, List.length_append]
        rw [Hm.out] at h2
        omega
      have Hby := Lib.hid (bodyS_lt (keysD ds) gs tt)
      obtain ⟨bd, hbd⟩ : ∃ b, bodyS (keysD ds) gs tt = b := ⟨_, rfl⟩
      have Hbd := Lib.hid hbd
      rw [hbd] at hw8 hbl Hby
      have HO := Lib.hid (out_any hw8 hbl.1 (by omega))
      have Hbl := Lib.hid hbl
      have hbl2 : ¬ (1048512 : Int) < (bd.length : Int) := by omega
      clear hw8 ho8 hf8 hbl hbd HNs Hbod HG7 HB7
      go_wp2_with fail
      go_at_call 107
      refine HO.out.mono ?_
      rintro e w9 ⟨v9, rfl, hown9, hn9, hB9⟩
      obtain ⟨A9, c9, rfl, hS9, -, -, -, -, -⟩ := own_form hown9
      have HB9 := Lib.hid (HB8.out.trans (hB9.mono HB8.out.size))
      cases A9 with
      | none =>
        exfalso
        have h1 := hS9.nil rfl
        have h2 := congrArg List.length h1
        rw [VY_length] at h2
        have := Hbl.out.1
        simp at h2
        rw [h2] at this
        simp at this
      | some ad =>
        obtain ⟨nb, hnb⟩ : ∃ n, bd.length = n := ⟨_, rfl⟩
        have hCa := (Below.refl _ w9).alloc (Nat.le_refl _) (.cells #[.slice (some ad) nb c9] 34)
        have hbl := Hbl.out
        rw [hnb] at hbl hbl2 ⊢
        have HE := Lib.hid (encode_any (w9.alloc (.cells #[.slice (some ad) nb c9] 34)) w9.heap.size 0 1 ad nb c9 bd (cell_blk (heap_alloc_new w9 _) 0) (hS9.below hCa) hnb Hby.out hbl.1 hbl.2)
        have HBa := Lib.hid (HB9.out.trans (hCa.mono HB9.out.size))
        clear hS9 hown9 hn9 hB9 hCa hbl hnb HO
        go_wp2_with fail
        go_at_call 108
        refine HE.out.mono ?_
        rintro e wa ⟨g, cap, rfl, hg, hc, hSa, hBa⟩
        have HSa := Lib.hid hSa
        have Hga := Lib.hid (show w.heap.size ≤ g from Nat.le_trans HBa.out.size hg)
        have Hca := Lib.hid hc
        have HBz := Lib.hid (HBa.out.trans (hBa.mono HBa.out.size))
        obtain ⟨fl, hfl⟩ : ∃ fl, (frame bd).length = fl := ⟨_, rfl⟩
        have Hfl := Lib.hid hfl
        rw [hfl]
        clear hfl hSa hg hc hBa HE
        go_wp2_with fail
        go_ret2
        rw [Htt.out, Hbd.out]
        exact ⟨g, cap, by rw [Hfl.out]; rfl, Hga.out, Hca.out, HSa.out, HBz.out⟩
end Go.Proofs.YtphccomhggnccaaGreat
/- Two rows that grow, and a box that names one of them: what holds through a region that draws. -/
namespace Go.Proofs.YtphccomhggnccaaGreat
set_option maxRecDepth 100000
set_option linter.unusedVariables false
set_option linter.unusedSimpArgs false
set_option maxRecDepth 100000
open Go.RowKit Sg Fm
theorem own_keepR {w w' : World} {base : Nat} {e : TypeId} {size : Nat} {v : Value} {n : Nat} {xs : List Value} {r : Option Nat} (h : w.ownsRow base e size v n xs) (hg : w.grownBy w' r) (hne : ∀ g, v.ownBlock = some g → r ≠ some g) : w'.ownsRow base e size v n xs := by
  refine World.ownsRow.kept h hg ?_
  cases hv : v.ownBlock with
  | none => exact .inl rfl
  | some k => exact .inr fun e => hne k hv e.symm
/-- the state: x's block (its second cell is cv), the keys' row kv, the texts' row tv, and blocks that stay -/
structure NS (w0 w : World) (x : Nat) (c0 cv gv : Value) (kv : Value) (ks : List Key) (tv : Value) (ts : List Value) (L : List (Nat × Obj)) : Prop where
  xb : w.heap[x]? = some (.cells #[c0, cv, gv] 46 (0, 0))
  xg : w0.heap.size ≤ x
  hk : w.ownsRow w0.heap.size 9 1 kv ks.length (VS ks)
  ht : w.ownsRow w0.heap.size 34 1 tv ts.length ts
  kept : ∀ p ∈ L, w.heap[p.1]? = some p.2 ∧ kv.ownBlock ≠ some p.1 ∧ tv.ownBlock ≠ some p.1 ∧ p.1 ≠ x
  xk : kv.ownBlock ≠ some x
  xt : tv.ownBlock ≠ some x
  kt : ∀ g, kv.ownBlock = some g → tv.ownBlock ≠ some g
  bel : Below w0.heap.size w0 w
section
variable {w0 w : World} {x : Nat} {c0 cv gv kv : Value} {ks : List Key} {tv : Value} {ts : List Value} {L : List (Nat × Obj)}
theorem NS.drew (h : NS w0 w x c0 cv gv kv ks tv ts L) : NS w0 w.drew x c0 cv gv kv ks tv ts L :=
  ⟨h.xb, h.xg, own_keepR h.hk (grown_drew w none) (fun _ _ => nofun), own_keepR h.ht (grown_drew w none) (fun _ _ => nofun), h.kept, h.xk, h.xt, h.kt, h.bel.drew⟩
theorem NS.alloc (o : Obj) (h : NS w0 w x c0 cv gv kv ks tv ts L) : NS w0 (w.alloc o) x c0 cv gv kv ks tv ts ((w.heap.size, o) :: L) := by
  refine ⟨blk_alloc h.xb o, h.xg, World.ownsRow.alloc h.hk o, World.ownsRow.alloc h.ht o, fun p hp => ?_, h.xk, h.xt, h.kt, h.bel.alloc h.bel.size o⟩
  rcases List.mem_cons.1 hp with rfl | hp
  · have hx := blk_lt h.xb
    refine ⟨heap_alloc_new w o, fun e => ?_, fun e => ?_, ?_⟩
    · have := (World.ownsRow.lt h.hk _ e).2
      exact absurd this (Nat.lt_irrefl _)
    · have := (World.ownsRow.lt h.ht _ e).2
      exact absurd this (Nat.lt_irrefl _)
    · show w.heap.size ≠ x
      omega
  · obtain ⟨h1, h2⟩ := h.kept p hp
    exact ⟨blk_alloc h1 o, h2⟩
theorem NS.weak (h : NS w0 w x c0 cv gv kv ks tv ts L) : NS w0 w x c0 cv gv kv ks tv ts [] := ⟨h.xb, h.xg, h.hk, h.ht, (fun p hp => by cases hp), h.xk, h.xt, h.kt, h.bel⟩
theorem NS.store (h : NS w0 w x c0 cv gv kv ks tv ts L) (v : Value) : NS w0 (w.setCell ⟨x, 1, none⟩ v) x c0 v gv kv ks tv ts L := by
  refine ⟨?_, h.xg, own_keepR h.hk (grown_set w x 1 v) (fun g hg e => ?_), own_keepR h.ht (grown_set w x 1 v) (fun g hg e => ?_), fun p hp => ?_, h.xk, h.xt, h.kt, ?_⟩
  · exact blk_set h.xb 1 v
  · have := Option.some.inj e; subst this; exact h.xk hg
  · have := Option.some.inj e; subst this; exact h.xt hg
  · obtain ⟨h1, h2, h3, h4⟩ := h.kept p hp
    exact ⟨blk_other h1 h4 1 v, h2, h3, h4⟩
  · exact h.bel.grown (grown_set w x 1 v) (Nat.le_trans h.xg (Nat.le_of_lt (blk_lt h.xb)) |> fun _ => h.bel.size) (fun k hk => by have := Option.some.inj hk; have := h.xg; omega)
theorem NS.appK {w' : World} {kv' : Value} {k : Key} (h : NS w0 w x c0 cv gv kv ks tv ts L) (ho : w'.ownsRow w0.heap.size 9 1 kv' (ks.length + 1) (VS ks ++ [encStr k])) (hg : w.grownBy w' kv.ownBlock)
    (hat : kv'.ownBlock = kv.ownBlock ∨ kv'.ownBlock = some w.heap.size) : NS w0 w' x c0 cv gv kv' (ks ++ [k]) tv ts L := by
  have hne : ∀ b o, w.heap[b]? = some o → kv.ownBlock ≠ some b → kv'.ownBlock ≠ some b := fun b o hb h1 e => by
    rcases hat with h2 | h2
    · exact h1 (h2.symm.trans e)
    · rw [e] at h2; have := Option.some.inj h2; have := blk_lt hb; omega
  refine ⟨grown_blk hg h.xb (Ne.symm h.xk), h.xg, ?_, own_keepR h.ht hg (fun g h1 e => h.kt g e h1), fun p hp => ?_, hne x _ h.xb h.xk, h.xt, fun g h1 h2 => ?_, h.bel.grown hg h.bel.size (fun k hk => (World.ownsRow.lt h.hk k hk).1)⟩
  · rw [List.length_append, VS_append]; exact ho
  · obtain ⟨h1, h2, h3, h4⟩ := h.kept p hp
    exact ⟨grown_blk hg h1 (Ne.symm h2), hne _ _ h1 h2, h3, h4⟩
  · rcases hat with h3 | h3
    · exact h.kt g (h3.symm.trans h1) h2
    · rw [h1] at h3; have := Option.some.inj h3; have := (World.ownsRow.lt h.ht g h2).2; omega
theorem NS.appT {w' : World} {tv' : Value} {u : Value} (h : NS w0 w x c0 cv gv kv ks tv ts L) (ho : w'.ownsRow w0.heap.size 34 1 tv' (ts.length + 1) (ts ++ [u])) (hg : w.grownBy w' tv.ownBlock)
    (hat : tv'.ownBlock = tv.ownBlock ∨ tv'.ownBlock = some w.heap.size) : NS w0 w' x c0 cv gv kv ks tv' (ts ++ [u]) L := by
  have hne : ∀ b o, w.heap[b]? = some o → tv.ownBlock ≠ some b → tv'.ownBlock ≠ some b := fun b o hb h1 e => by
    rcases hat with h2 | h2
    · exact h1 (h2.symm.trans e)
    · rw [e] at h2; have := Option.some.inj h2; have := blk_lt hb; omega
  refine ⟨grown_blk hg h.xb (Ne.symm h.xt), h.xg, own_keepR h.hk hg (fun g h1 e => h.kt g h1 e), ?_, fun p hp => ?_, h.xk, hne x _ h.xb h.xt, fun g h1 h2 => ?_, h.bel.grown hg h.bel.size (fun k hk => (World.ownsRow.lt h.ht k hk).1)⟩
  · rw [List.length_append]; exact ho
  · obtain ⟨h1, h2, h3, h4⟩ := h.kept p hp
    exact ⟨grown_blk hg h1 (Ne.symm h3), h2, hne _ _ h1 h3, h4⟩
  · rcases hat with h3 | h3
    · exact h.kt g h1 (h3.symm.trans h2)
    · rw [h2] at h3; have := Option.some.inj h3; have := (World.ownsRow.lt h.hk g h1).2; omega
theorem NS.cell {b : Nat} {u : Value} {j : Nat} {cs : Array Value} {t : TypeId} (h : NS w0 w x c0 cv gv kv ks tv ts L) (hm : ∃ p ∈ L, p.2 = .cells cs t (0, 0) ∧ p.1 = b) (hj : cs[j]? = some u) : w.cell? ⟨b, j, none⟩ = some u := by
  obtain ⟨⟨b', o⟩, hp, h1, h2⟩ := hm
  have h1' : o = _ := h1
  have h2' : b' = b := h2
  subst h1' h2'
  exact (cell_blk (h.kept _ hp).1 j).trans hj
theorem NS.l0 (h : NS w0 w x c0 cv gv kv ks tv ts L) : w.cell? ⟨x, 1, none⟩ = some cv := cell_blk h.xb 1
theorem NS.l1 (h : NS w0 w x c0 cv gv kv ks tv ts L) : ∀ o, (w.alloc o).cell? ⟨x, 1, none⟩ = some cv := fun o => (h.alloc o).l0
theorem NS.l2 (h : NS w0 w x c0 cv gv kv ks tv ts L) : ∀ o o', ((w.alloc o).alloc o').cell? ⟨x, 1, none⟩ = some cv := fun o o' => ((h.alloc o).alloc o').l0
theorem NS.f0 (h : NS w0 w x c0 cv gv kv ks tv ts L) : w.frozen? ⟨x, 1, none⟩ = false := frozen_blk h.xb 1
theorem NS.f1 (h : NS w0 w x c0 cv gv kv ks tv ts L) : ∀ o, (w.alloc o).frozen? ⟨x, 1, none⟩ = false := fun o => (h.alloc o).f0
theorem NS.f2 (h : NS w0 w x c0 cv gv kv ks tv ts L) : ∀ o o', ((w.alloc o).alloc o').frozen? ⟨x, 1, none⟩ = false := fun o o' => ((h.alloc o).alloc o').f0
theorem ns_end {j : Nat} {At Ak : Option Addr} {ct ck : Nat} (h : NS w0 w x c0 (.slice Ak j ck) gv (.slice Ak j ck) ks (.slice At j ct) ts L) :
    ∃ At' ct' Ak' ck', Value.slice At j ct = .slice At' j ct' ∧ Hid (NS w0 w x c0 (.slice Ak' j ck') gv (.slice Ak' j ck') ks (.slice At j ct) ts []) := ⟨At, ct, Ak, ck, rfl, Lib.hid h.weak⟩
/-- the append of a key, at a step of a region that draws -/
theorem stepK {o : Oper} {a : Act} {K : Act → World → Prop} {Q : Exit → Act → World → Prop} {E : Prop} {ys : Nat → Option Bool} (hgd : o.guard = none) (s xx : Operand)
    (ho : o.op = .call { callee := .builtin .append, args := #[s, xx], argTypes := #[23, 23] })
    (h : NS w0 w x c0 cv gv kv ks tv ts L) (hs : a.eval s = kv) {b c : Nat} (hx : a.eval xx = .slice (some ⟨b, 0, none⟩) 1 c) {k : Key} {t : TypeId}
    (hm : ∃ p ∈ L, p.2 = .cells #[.string (ba k)] t (0, 0) ∧ p.1 = b) {n : Nat} (hn : ks.length = n) (hl : n ≤ 1099511627)
    (hk : ∀ A c' w', NS w0 w' x c0 cv gv (.slice A (n + 1) c') (ks ++ [k]) tv ts L → K (a.put o.dst (.slice A (n + 1) c')) w') : if Region.wanted o ys = true then Oper.wp Tryz.prog o a w K Q else E := by
  obtain ⟨⟨b', o'⟩, hp, h1, h2⟩ := hm
  have h1' : o' = _ := h1
  have h2' : b' = b := h2
  subst h1' h2' hn
  refine stepE el_str hgd s xx ho w0.heap.size kv ks.length (VS ks) hs h.hk (some ⟨b', 0, none⟩) 1 c [encStr k] hx (fun e => by cases e) rfl (sl_blk (xs := [encStr k]) (h.kept _ hp).1) (fun u hu => by simp at hu; subst hu; rfl) (by omega) h.bel.size ?_
  intro v' w' h3 h4 _ h5
  obtain ⟨A, c', rfl, -, -, -, -, -, -⟩ := own_form h3
  exact hk A c' w' (h.appK h3 h4 h5)
/-- the append of a text -/
theorem stepT {o : Oper} {a : Act} {K : Act → World → Prop} {Q : Exit → Act → World → Prop} {E : Prop} {ys : Nat → Option Bool} (hgd : o.guard = none) (s xx : Operand)
    (ho : o.op = .call { callee := .builtin .append, args := #[s, xx], argTypes := #[47, 47] })
    (h : NS w0 w x c0 cv gv kv ks tv ts L) (hs : a.eval s = tv) {b c : Nat} (hx : a.eval xx = .slice (some ⟨b, 0, none⟩) 1 c) {u : Value} {t : TypeId} (hu : u.oneCell' = true)
    (hm : ∃ p ∈ L, p.2 = .cells #[u] t (0, 0) ∧ p.1 = b) {n : Nat} (hn : ts.length = n) (hl : n ≤ 1099511627)
    (hk : ∀ A c' w', NS w0 w' x c0 cv gv kv ks (.slice A (n + 1) c') (ts ++ [u]) L → K (a.put o.dst (.slice A (n + 1) c')) w') : if Region.wanted o ys = true then Oper.wp Tryz.prog o a w K Q else E := by
  obtain ⟨⟨b', o'⟩, hp, h1, h2⟩ := hm
  have h1' : o' = _ := h1
  have h2' : b' = b := h2
  subst h1' h2' hn
  refine stepE el_row hgd s xx ho w0.heap.size tv ts.length ts hs h.ht (some ⟨b', 0, none⟩) 1 c [u] hx (fun e => by cases e) rfl (sl_blk (xs := [u]) (h.kept _ hp).1) (fun u' hu' => by simp at hu'; subst hu'; exact hu) (by omega) h.bel.size ?_
  intro v' w' h3 h4 _ h5
  obtain ⟨A, c', rfl, -, -, -, -, -, -⟩ := own_form h3
  exact hk A c' w' (h.appT h3 h4 h5)
end
end Go.Proofs.YtphccomhggnccaaGreat
/- How much documents and keys weigh; what follows of it. Arguments: documents, keys. -/
namespace Go.Proofs.YtphccomhggnccaaGreat
set_option maxRecDepth 100000
set_option linter.unusedVariables false
set_option linter.unusedSimpArgs false
set_option maxRecDepth 100000
open Go.RowKit Sg Fm
namespace Sg
set_option maxRecDepth 100000
def wtD (ds : List Dc) : Nat := (ds.map fun d => 5 + d.1.length + d.2.length).sum
def wtG (gs : List Key) : Nat := (gs.map fun g => 5 + g.length).sum
theorem wtD_cons (d : Dc) (r : List Dc) : wtD (d :: r) = 5 + d.1.length + d.2.length + wtD r := by simp [wtD]
theorem wtG_cons (g : Key) (r : List Key) : wtG (g :: r) = 5 + g.length + wtG r := by simp [wtG]
theorem wtD_append (a b : List Dc) : wtD (a ++ b) = wtD a + wtD b := by simp [wtD]
theorem wtG_append (a b : List Key) : wtG (a ++ b) = wtG a + wtG b := by simp [wtG]
theorem wtD_perm {a b : List Dc} (h : a.Perm b) : wtD a = wtD b := (h.map _).sum_nat
theorem wtG_perm {a b : List Key} (h : a.Perm b) : wtG a = wtG b := (h.map _).sum_nat
theorem wtD_mem {ds : List Dc} {d : Dc} (h : d ∈ ds) : 5 + d.1.length + d.2.length ≤ wtD ds := by
  induction ds with
  | nil => cases h
  | cons a r ih =>
    rw [wtD_cons]
    rcases List.mem_cons.1 h with rfl | h
    · omega
    · have := ih h; omega
theorem wtG_mem {gs : List Key} {g : Key} (h : g ∈ gs) : 5 + g.length ≤ wtG gs := by
  induction gs with
  | nil => cases h
  | cons a r ih =>
    rw [wtG_cons]
    rcases List.mem_cons.1 h with rfl | h
    · omega
    · have := ih h; omega
theorem wtD_len (ds : List Dc) : 5 * ds.length ≤ wtD ds := by
  induction ds with
  | nil => simp [wtD]
  | cons a r ih => rw [wtD_cons, List.length_cons]; omega
theorem wtG_len (gs : List Key) : 5 * gs.length ≤ wtG gs := by
  induction gs with
  | nil => simp [wtG]
  | cons a r ih => rw [wtG_cons, List.length_cons]; omega
theorem keysB_wt (gs : List Key) (h : wtG gs ≤ 20000) : (keysB gs).length ≤ wtG gs := by
  induction gs with
  | nil => simp [keysB]
  | cons a r ih =>
    rw [wtG_cons] at h ⊢
    have h1 := ih (by omega)
    rw [keysB_cons, List.length_append]
    have h2 := num_len 4 (nk a).length (by rw [nk_length]; omega)
    unfold byt
    rw [List.length_append, nk_length]
    rw [nk_length] at h2
    omega
theorem wtG_keysD (ds : List Dc) : wtG (keysD ds) ≤ wtD ds := by
  induction ds with
  | nil => simp [wtG, wtD, keysD]
  | cons a r ih => 
    show wtG (a.1 :: keysD r) ≤ _
    rw [wtG_cons, wtD_cons]; omega
theorem body_wt (ds : List Dc) : (body (textsD ds)).length ≤ wtD ds := by
  induction ds with
  | nil => simp [body, wtD, textsD]
  | cons a r ih =>
    show (body (a.2 :: textsD r)).length ≤ _
    rw [body_cons, wtD_cons, List.length_append, txt_length]; omega
/-- few enough documents and keys, short enough texts -/
structure Lite (ds : List Dc) (gs : List Key) : Prop where
  w : wtD ds + wtG gs ≤ 20000
  t : ∀ d ∈ ds, d.2.length ≤ 4096
theorem Lite.perm {ds ds' : List Dc} {gs gs' : List Key} (h : Lite ds gs) (h1 : ds'.Perm ds) (h2 : gs'.Perm gs) : Lite ds' gs' :=
  ⟨by rw [wtD_perm h1, wtG_perm h2]; exact h.w, fun d hd => h.t d (h1.mem_iff.1 hd)⟩
end Sg
open Sg
theorem Sg.Lite.fits {ds : List Dc} {gs : List Key} (h : Lite ds gs) : Fits ds gs := by
  have h0 := h.w
  have h1 := wtG_keysD ds
  have h2 := keysB_wt (keysD ds) (by omega)
  have h3 := keysB_wt gs (by omega)
  have h4 := body_wt ds
  exact ⟨by omega, by omega, by rw [rowT_length]; omega⟩
/-- a document's text, as it lies -/
structure TxtOk (w : World) (e : De) : Prop where
  len : e.t.length = e.n
  le : e.n ≤ e.c
  nil : e.a = none → e.c = 0
  sl : Sl w e.a (VY e.t)
  lt : ∀ b ∈ e.t, b < 256
theorem TxtOk.below {w w' : World} {e : De} (h : TxtOk w e) (hb : Below w.heap.size w w') : TxtOk w' e := ⟨h.len, h.le, h.nil, h.sl.below hb, h.lt⟩
/-- documents as an argument -/
structure DArg (w : World) (A : Option Addr) (n c : Nat) (es : List De) : Prop where
  len : es.length = n
  le : n ≤ c
  nil : A = none → c = 0
  sl : Sl w A (VD es)
  lt : ∀ a, A = some a → a.block < w.heap.size ∧ a.spot = none
  txt : ∀ e ∈ es, TxtOk w e
theorem DArg.below {w w' : World} {A : Option Addr} {n c : Nat} {es : List De} (h : DArg w A n c es) (hb : Below w.heap.size w w') : DArg w' A n c es :=
  ⟨h.len, h.le, h.nil, h.sl.below hb, fun a ha => ⟨Nat.lt_of_lt_of_le (h.lt a ha).1 hb.size, (h.lt a ha).2⟩, fun e he => (h.txt e he).below hb⟩
/-- keys as an argument -/
structure GArg (w : World) (A : Option Addr) (n c : Nat) (gs : List Key) : Prop where
  len : gs.length = n
  le : n ≤ c
  nil : A = none → c = 0
  sl : Sl w A (VS gs)
  lt : ∀ a, A = some a → a.block < w.heap.size ∧ a.spot = none
theorem GArg.below {w w' : World} {A : Option Addr} {n c : Nat} {gs : List Key} (h : GArg w A n c gs) (hb : Below w.heap.size w w') : GArg w' A n c gs :=
  ⟨h.len, h.le, h.nil, h.sl.below hb, fun a ha => ⟨Nat.lt_of_lt_of_le (h.lt a ha).1 hb.size, (h.lt a ha).2⟩⟩
theorem docs_of_arg {w : World} {A : Option Addr} {n c : Nat} {es : List De} (h : DArg w A n c es) : SgD.Docs w.heap.size w (.slice A n c) es := by
  cases A with
  | none =>
    have h1 := h.sl.nil rfl
    have h2 : es.length = 0 := by have := VD_length es; rw [h1, List.length_nil] at this; omega
    have h3 := List.eq_nil_of_length_eq_zero h2
    subst h3
    rw [h.nil rfl, ← h.len]
    exact .inl ⟨rfl, rfl⟩
  | some a =>
    obtain ⟨h1, h2⟩ := h.lt a rfl
    obtain ⟨b, off, sp⟩ := a
    have h2' : sp = none := h2
    subst h2'
    refine .inr ⟨b, off, c, by rw [h.len], h1, fun j hj => ⟨?_, ?_⟩⟩
    · have h3 := h.sl.cell _ rfl (j * 2) _ (VD_get0 es j hj)
      rwa [show (⟨b, off, none⟩ : Addr).add (j * 2) = ⟨b, off + j * 2, none⟩ by unfold Addr.add; split <;> simp_all] at h3
    · have h3 := h.sl.cell _ rfl (j * 2 + 1) _ (VD_get1 es j hj)
      rwa [show (⟨b, off, none⟩ : Addr).add (j * 2 + 1) = ⟨b, off + j * 2 + 1, none⟩ by unfold Addr.add; split <;> simp_all; omega] at h3
theorem ints_of_arg {w : World} {A : Option Addr} {n c : Nat} {gs : List Key} (h : GArg w A n c gs) : SgS.Ints w.heap.size w (.slice A n c) gs := ints_of_sl h.sl h.len h.nil h.lt
/-- the texts' slices -/
def VT (l : List De) : List Value := l.map fun e => .slice e.a e.n e.c
theorem VT_length (l : List De) : (VT l).length = l.length := by simp [VT]
theorem VT_get (l : List De) (i : Nat) (h : i < l.length) : (VT l)[i]? = some (.slice (l[i]?.getD default).a (l[i]?.getD default).n (l[i]?.getD default).c) := by simp [VT, h]
theorem rarg_of_row {w : World} {A : Option Addr} {n c : Nat} {m : List De} (hS : Sl w A (VT m)) (hl : m.length = n) (hn : n ≤ 1099511627776) (ht : ∀ e ∈ m, TxtOk w e) (hm : ∀ e ∈ m, e.n ≤ 1099511627776) : RArg w A n c (m.map (·.t)) := by
  refine ⟨by simp [hl], by omega, fun t h => ?_, fun t h => ?_, fun d hd => ?_⟩
  · obtain ⟨e, he, rfl⟩ := List.mem_map.1 h
    have := hm e he
    rw [(ht e he).len]; omega
  · obtain ⟨e, he, rfl⟩ := List.mem_map.1 h
    exact (ht e he).lt
  · have hd' : d < m.length := by omega
    obtain ⟨a, rfl, hc⟩ := hS.some (j := d) (by rw [VT_length]; exact hd')
    rw [VT_get m d hd'] at hc
    have h1 := ht _ (List.getElem_mem hd')
    have e1 : m[d]?.getD default = m[d] := by simp [hd']
    have e2 : (m.map (·.t)).getD d [] = m[d].t := by simp [List.getD, hd']
    rw [e1] at hc
    rw [e2]
    exact ⟨a, m[d].a, m[d].n, m[d].c, rfl, hc, h1.len, h1.le, h1.nil, h1.sl⟩
theorem buildS_ok (w : World) (A : Option Addr) (n c : Nat) (ts : List (List Nat)) (hA : RArg w A n c ts) (hn : n ≤ 1099511627776) (hm : (rowT ts).length ≤ 65536) :
    Calls Tryz.prog 53 #[.slice A n c] w (BuiltX w ts) := by
  have hle : ∀ t ∈ ts, t.length ≤ 1099511627776 := by
    intro t ht
    obtain ⟨i, hi, rfl⟩ := List.getElem_of_mem ht
    have h1 := body_take_succ ts i hi
    have h2 := body_take_le ts (i + 1)
    have e : ts.getD i [] = ts[i] := by simp [List.getD, List.getElem?_eq_getElem hi]
    rw [h1, List.length_append, txt_length, e] at h2
    rw [rowT_length] at hm
    omega
  refine (build_fm w A n c ts hA hn hle).mono ?_
  rintro e w' (⟨_, h⟩ | ⟨h, _⟩)
  · exact h
  · omega
end Go.Proofs.YtphccomhggnccaaGreat
/- segment.New. -/
namespace Go.Proofs.YtphccomhggnccaaGreat
set_option maxRecDepth 100000
set_option linter.unusedVariables false
set_option linter.unusedSimpArgs false
set_option maxRecDepth 100000
open Go.RowKit Sg Fm
/-- what New hands back -/
def NewP (w : World) (ds : List Dc) (gs : List Key) (e : Ending) (w' : World) : Prop :=
  (Rise (keysD ds ++ gs) ∧ ∃ x sa, e = .returned (.tuple #[.pointer (some ⟨x, 0, none⟩), .int .i64 0]) ∧ SegM w' w.heap.size x (sortD ds) (srt gs) sa ∧ Below w.heap.size w w') ∨
  (¬ Rise (keysD ds ++ gs) ∧ e = .returned (.tuple #[.pointer none, .int .i64 1]) ∧ Below w.heap.size w w')
theorem keysM (m : List De) : keysD (m.map De.dc) = m.map (·.k) := by simp [keysD, De.dc]
set_option maxHeartbeats 8000000 in
theorem segnew_any (w : World) (A Ag : Option Addr) (n c ng cg : Nat) (es : List De) (gs : List Key) (hD : DArg w A n c es) (hG : GArg w Ag ng cg gs) (hL : Lite (es.map De.dc) gs) :
    Calls Tryz.prog 16 #[.slice A n c, .slice Ag ng cg] w (NewP w (es.map De.dc) gs) := by
  have hn : n ≤ 4000 := by have h1 := hL.w; have h2 := wtD_len (es.map De.dc); rw [List.length_map, hD.len] at h2; omega
  have hng : ng ≤ 4000 := by have h1 := hL.w; have h2 := wtG_len gs; rw [hG.len] at h2; omega
  have HD := Lib.hid hD
  have HG := Lib.hid hG
  have HL := Lib.hid hL
  clear hD hG hL
  go_enter Tryz.func16, Tryz.ntmps16
  go_wp2_with fail
  go_at_call 46
  refine (SgD.values_any _ _ _ _).mono ?_
  rintro e w1 ⟨rfl, hw1⟩
  subst hw1
  have hB1 := below_new w (.cells #[.slice A n c] 22)
  have hD1 := HD.out.below hB1
  have HS := Lib.hid (sortedStableD_any w.heap.size (w.alloc (.cells #[.slice A n c] 22)).heap.size (.slice A n c) es (by rw [HD.out.len]; omega) _ (by simp) (Nat.le_refl _) ((cell_blk (heap_alloc_new w _) 0).trans rfl) (docs_of_arg hD1))
  have HB1 := Lib.hid hB1
  clear hB1 hD1
  go_wp2_with fail
  go_at_call 45
  refine HS.out.mono ?_
  rintro e w2 ⟨v, m, rfl, hpm, hby, hrow, hB⟩
  obtain ⟨Am, cm, rfl, hmc, hSm, hnm⟩ := hrow
  have hml : m.length = n := by rw [hpm.length_eq, HD.out.len]
  rw [hml] at hmc ⊢
  have HB2 := Lib.hid (HB1.out.trans (hB.mono (by simp)))
  have Hpm := Lib.hid hpm
  have Hby := Lib.hid hby
  have HSm := Lib.hid hSm
  have Hml := Lib.hid hml
  clear hpm hby hB hSm HS HB1 hmc hnm
  go_wp2_with fail
  go_at_call 50
  refine (SgS.values_any _ _ _ _).mono ?_
  rintro e w3 ⟨rfl, hw3⟩
  subst hw3
  have hB3 := below_new w2 (.cells #[.slice Ag ng cg] 23)
  have hG3 := HG.out.below ((HB2.out.trans (hB3.mono HB2.out.size)).mono (Nat.le_refl _))
  have HS := Lib.hid (sortedS_any w2.heap.size (w2.alloc (.cells #[.slice Ag ng cg] 23)).heap.size (.slice Ag ng cg) gs (by rw [HG.out.len]; omega) _ (by simp) (Nat.le_refl _) ((cell_blk (heap_alloc_new w2 _) 0).trans rfl) (ints_of_arg hG3))
  have HB3 := Lib.hid hB3
  clear hB3 hG3
  go_wp2_with fail
  go_at_call 49
  refine HS.out.mono ?_
  rintro e w4 ⟨v4, rfl, hown4, hB4⟩
  obtain ⟨A4, c4, rfl, hS4, hc4, hn4, hl4, ha4, -⟩ := own_form hown4
  have HB4 := Lib.hid (HB2.out.trans ((HB3.out.trans (hB4.mono (by simp))).mono HB2.out.size))
  have HSm4 := Lib.hid (HSm.out.below ((HB3.out.trans (hB4.mono (by simp)))))
  have HS4 := Lib.hid hS4
  have Hn4 := Lib.hid hn4
  have HA4 := Lib.hid ha4
  have hs4 := HB4.out.size
  have HW2 := Lib.hid (Nat.le_trans HB2.out.size (below_new w2 (.cells #[.slice Ag ng cg] 23)).size)
  clear hown4 hB4 hS4 hc4 hn4 hl4 ha4 HS HSm HB3 HB2 hs4
  have HSm := HSm4
  clear HSm4
  go_wp2_with fail
  obtain ⟨x, hx⟩ : ∃ x, w4.heap.size = x := ⟨_, rfl⟩
  obtain ⟨nG, hnG⟩ : ∃ k, (srt gs).length = k := ⟨_, rfl⟩
  rw [hnG]
  have hNS0 : NS w4 (w4.alloc (.cells #[.pointer none, .slice none 0 0, .slice A4 nG c4] 46)) x (.pointer none) (.slice none 0 0) (.slice A4 nG c4) (.slice none 0 0) [] (.slice none 0 0) [] [] := by
    subst hx
    exact ⟨heap_alloc_new w4 _, Nat.le_refl _, World.ownsRow_nil _ _ _ _, World.ownsRow_nil _ _ _ _, (fun p hp => by cases hp), nofun, nofun, (fun g hg => by cases hg), below_new w4 _⟩
  have HNS0 := Lib.hid hNS0
  have Hx := Lib.hid hx
  have HnG := Lib.hid hnG
  rw [hx]
  clear hNS0 hx hnG
  generalize w4.alloc (.cells #[.pointer none, .slice none 0 0, .slice A4 nG c4] 46) = w5 at *
  go_loopw [7, 27] (fun t q wr => ∃ j : Nat, j ≤ n ∧ q = .int .i64 (j : Int) ∧ ∃ At ct Ak ck, t = .slice At j ct ∧ Hid (NS w4 wr x (.pointer none) (.slice Ak j ck) (.slice A4 nG c4) (.slice Ak j ck) ((m.take j).map (·.k)) t (VT (m.take j)) [])) (fun _ q _ => n - (intOf q).toNat)
  case atStart => exact ⟨0, Nat.zero_le _, rfl, none, 0, none, 0, rfl, HNS0⟩
  case round =>
    obtain ⟨j, hj, rfl, At, ct, Ak, ck, rfl, HNS⟩ := hrel
    by_cases hjn : j < n
    · have hjm : j < m.length := by rw [Hml.out]; exact hjn
      have hSr := HSm.out.below (HNS.out.bel)
      obtain ⟨bm, om, rfl, hc0⟩ := hSr.lit (j := j * 2) (by rw [VD_length]; omega)
      have hc1 := hSr.cell _ rfl (j * 2 + 1) _ (VD_get1 m j hjm)
      rw [VD_get0 m j hjm] at hc0
      rw [show (⟨bm, om, none⟩ : Addr).add (j * 2 + 1) = ⟨bm, om + j * 2 + 1, none⟩ by unfold Addr.add; split <;> simp_all; omega] at hc1
      have Hek := Lib.hid (show (m.take (j + 1)).map (·.k) = (m.take j).map (·.k) ++ [(m[j]?.getD default).k] by
        rw [List.take_succ_eq_append_getElem hjm, List.map_append]; simp [hjm])
      have Het := Lib.hid (show VT (m.take (j + 1)) = VT (m.take j) ++ [.slice (m[j]?.getD default).a (m[j]?.getD default).n (m[j]?.getD default).c] by
        unfold VT; rw [List.take_succ_eq_append_getElem hjm, List.map_append]; simp [hjm])
      have Hkl : Hid (((m.take j).map (·.k)).length = j) := Lib.hid (by rw [List.length_map, List.length_take, Nat.min_eq_left (by omega)])
      have Htl : Hid ((VT (m.take j)).length = j) := Lib.hid (by rw [VT_length, List.length_take, Nat.min_eq_left (by omega)])
      generalize m[j]?.getD default = ej at *
      obtain ⟨ks, hks⟩ : ∃ k, (m.take j).map (·.k) = k := ⟨_, rfl⟩
      obtain ⟨ts, hts⟩ : ∃ k, VT (m.take j) = k := ⟨_, rfl⟩
      rw [hks] at HNS Hek Hkl
      rw [hts] at HNS Het Htl
      clear hSr hks hts
      dsimp only [encStr] at hc0
      go_upto_region 7 with fail
      obtain ⟨d, hd⟩ : ∃ d, wr.heap.size = d := ⟨_, rfl⟩
      have hNSa := (HNS.out.alloc (.cells #[.string (ba ej.k), .slice ej.a ej.n ej.c] 36))
      rw [hd] at hNSa
      change NS w4 (wr.alloc (Obj.cells #[Value.string { data := List.toArray ej.k }, Value.slice ej.a ej.n ej.c] 36)) _ _ _ _ _ _ _ _ _ at hNSa
      rw [hd]
      clear hc0 hc1 hd HNS
      generalize wr.alloc (Obj.cells #[Value.string { data := List.toArray ej.k }, Value.slice ej.a ej.n ej.c] 36) = wa at *
      have hNSd := hNSa.drew
      have l0 := hNSd.l0
      have l1 := hNSd.l1
      have l2 := hNSd.l2
      have q1 : ∀ o, (wa.alloc o).drew.cell? ⟨x, 1, none⟩ = some (.slice Ak j ck) := fun o => (hNSa.alloc o).drew.l0
      have q2 : ∀ o o', ((wa.alloc o).alloc o').drew.cell? ⟨x, 1, none⟩ = some (.slice Ak j ck) := fun o o' => ((hNSa.alloc o).alloc o').drew.l0
      have p1 := hNSa.l1
      have p2 := hNSa.l2
      have hj9 : j ≤ 1099511627 := by omega
      have hD0 : wa.cell? ⟨d, 0, none⟩ = some (.string (ba ej.k)) := hNSa.cell (by (first | (refine ⟨_, List.mem_cons_self, rfl, ?_⟩; simp; done) | (refine ⟨_, (List.mem_cons_of_mem _ List.mem_cons_self), rfl, ?_⟩; simp; done) | (refine ⟨_, (List.mem_cons_of_mem _ (List.mem_cons_of_mem _ List.mem_cons_self)), rfl, ?_⟩; simp; done) | (refine ⟨_, (List.mem_cons_of_mem _ (List.mem_cons_of_mem _ (List.mem_cons_of_mem _ List.mem_cons_self))), rfl, ?_⟩; simp; done))) rfl
      have hD1 : wa.cell? ⟨d, 1, none⟩ = some (.slice ej.a ej.n ej.c) := hNSa.cell (by (first | (refine ⟨_, List.mem_cons_self, rfl, ?_⟩; simp; done) | (refine ⟨_, (List.mem_cons_of_mem _ List.mem_cons_self), rfl, ?_⟩; simp; done) | (refine ⟨_, (List.mem_cons_of_mem _ (List.mem_cons_of_mem _ List.mem_cons_self)), rfl, ?_⟩; simp; done) | (refine ⟨_, (List.mem_cons_of_mem _ (List.mem_cons_of_mem _ (List.mem_cons_of_mem _ List.mem_cons_self))), rfl, ?_⟩; simp; done))) rfl
      go_region_held_law (fun w' => w'.cell? ⟨d, 0, none⟩ = some (.string (ba ej.k)) ∧ w'.cell? ⟨d, 1, none⟩ = some (.slice ej.a ej.n ej.c))
        (constructor <;> (apply NS.cell; (focus (repeat (first | (with_reducible assumption) | with_reducible apply NS.alloc | with_reducible apply NS.store | with_reducible apply NS.drew))); (focus (first | (refine ⟨_, List.mem_cons_self, rfl, ?_⟩; simp; done) | (refine ⟨_, (List.mem_cons_of_mem _ List.mem_cons_self), rfl, ?_⟩; simp; done) | (refine ⟨_, (List.mem_cons_of_mem _ (List.mem_cons_of_mem _ List.mem_cons_self)), rfl, ?_⟩; simp; done) | (refine ⟨_, (List.mem_cons_of_mem _ (List.mem_cons_of_mem _ (List.mem_cons_of_mem _ List.mem_cons_self))), rfl, ?_⟩; simp; done))); rfl))
        (first
          | (refine stepK (k := ej.k) (t := 9) rfl _ _ rfl ((hNSa.alloc _).drew) rfl rfl ?_ Hkl.out hj9 ?_; (focus (first | (refine ⟨_, List.mem_cons_self, rfl, ?_⟩; simp; done) | (refine ⟨_, (List.mem_cons_of_mem _ List.mem_cons_self), rfl, ?_⟩; simp; done) | (refine ⟨_, (List.mem_cons_of_mem _ (List.mem_cons_of_mem _ List.mem_cons_self)), rfl, ?_⟩; simp; done) | (refine ⟨_, (List.mem_cons_of_mem _ (List.mem_cons_of_mem _ (List.mem_cons_of_mem _ List.mem_cons_self))), rfl, ?_⟩; simp; done))); intro A7 c7 w7 hNS7; have m0 := hNS7.l0; have m1 := hNS7.l1; have m2 := hNS7.l2; have f0 := hNS7.f0; have f1 := hNS7.f1; have f2 := hNS7.f2)
          | (refine stepT (u := .slice ej.a ej.n ej.c) (t := 34) rfl _ _ rfl ((hNSa.alloc _).drew) rfl rfl rfl ?_ Htl.out hj9 ?_; (focus (first | (refine ⟨_, List.mem_cons_self, rfl, ?_⟩; simp; done) | (refine ⟨_, (List.mem_cons_of_mem _ List.mem_cons_self), rfl, ?_⟩; simp; done) | (refine ⟨_, (List.mem_cons_of_mem _ (List.mem_cons_of_mem _ List.mem_cons_self)), rfl, ?_⟩; simp; done) | (refine ⟨_, (List.mem_cons_of_mem _ (List.mem_cons_of_mem _ (List.mem_cons_of_mem _ List.mem_cons_self))), rfl, ?_⟩; simp; done))); intro A7 c7 w7 hNS7; have m0 := hNS7.l0; have m1 := hNS7.l1; have m2 := hNS7.l2; have f0 := hNS7.f0; have f1 := hNS7.f1; have f2 := hNS7.f2)
          | (refine stepK (k := ej.k) (t := 9) rfl _ _ rfl (((hNSa.alloc _).alloc _).drew) rfl rfl ?_ Hkl.out hj9 ?_; (focus (first | (refine ⟨_, List.mem_cons_self, rfl, ?_⟩; simp; done) | (refine ⟨_, (List.mem_cons_of_mem _ List.mem_cons_self), rfl, ?_⟩; simp; done) | (refine ⟨_, (List.mem_cons_of_mem _ (List.mem_cons_of_mem _ List.mem_cons_self)), rfl, ?_⟩; simp; done) | (refine ⟨_, (List.mem_cons_of_mem _ (List.mem_cons_of_mem _ (List.mem_cons_of_mem _ List.mem_cons_self))), rfl, ?_⟩; simp; done))); intro A7 c7 w7 hNS7; have m0 := hNS7.l0; have m1 := hNS7.l1; have m2 := hNS7.l2; have f0 := hNS7.f0; have f1 := hNS7.f1; have f2 := hNS7.f2)
          | (refine stepT (u := .slice ej.a ej.n ej.c) (t := 34) rfl _ _ rfl (((hNSa.alloc _).alloc _).drew) rfl rfl rfl ?_ Htl.out hj9 ?_; (focus (first | (refine ⟨_, List.mem_cons_self, rfl, ?_⟩; simp; done) | (refine ⟨_, (List.mem_cons_of_mem _ List.mem_cons_self), rfl, ?_⟩; simp; done) | (refine ⟨_, (List.mem_cons_of_mem _ (List.mem_cons_of_mem _ List.mem_cons_self)), rfl, ?_⟩; simp; done) | (refine ⟨_, (List.mem_cons_of_mem _ (List.mem_cons_of_mem _ (List.mem_cons_of_mem _ List.mem_cons_self))), rfl, ?_⟩; simp; done))); intro A7 c7 w7 hNS7; have m0 := hNS7.l0; have m1 := hNS7.l1; have m2 := hNS7.l2; have f0 := hNS7.f0; have f1 := hNS7.f1; have f2 := hNS7.f2)
          | (refine stepK (k := ej.k) (t := 9) rfl _ _ rfl hNS7 rfl rfl ?_ Hkl.out hj9 ?_; (focus (first | (refine ⟨_, List.mem_cons_self, rfl, ?_⟩; simp; done) | (refine ⟨_, (List.mem_cons_of_mem _ List.mem_cons_self), rfl, ?_⟩; simp; done) | (refine ⟨_, (List.mem_cons_of_mem _ (List.mem_cons_of_mem _ List.mem_cons_self)), rfl, ?_⟩; simp; done) | (refine ⟨_, (List.mem_cons_of_mem _ (List.mem_cons_of_mem _ (List.mem_cons_of_mem _ List.mem_cons_self))), rfl, ?_⟩; simp; done))); intro A7 c7 w7 hNS7; have m0 := hNS7.l0; have m1 := hNS7.l1; have m2 := hNS7.l2; have f0 := hNS7.f0; have f1 := hNS7.f1; have f2 := hNS7.f2)
          | (refine stepT (u := .slice ej.a ej.n ej.c) (t := 34) rfl _ _ rfl hNS7 rfl rfl rfl ?_ Htl.out hj9 ?_; (focus (first | (refine ⟨_, List.mem_cons_self, rfl, ?_⟩; simp; done) | (refine ⟨_, (List.mem_cons_of_mem _ List.mem_cons_self), rfl, ?_⟩; simp; done) | (refine ⟨_, (List.mem_cons_of_mem _ (List.mem_cons_of_mem _ List.mem_cons_self)), rfl, ?_⟩; simp; done) | (refine ⟨_, (List.mem_cons_of_mem _ (List.mem_cons_of_mem _ (List.mem_cons_of_mem _ List.mem_cons_self))), rfl, ?_⟩; simp; done))); intro A7 c7 w7 hNS7; have m0 := hNS7.l0; have m1 := hNS7.l1; have m2 := hNS7.l2; have f0 := hNS7.f0; have f1 := hNS7.f1; have f2 := hNS7.f2)
          | (refine stepK (k := ej.k) (t := 9) rfl _ _ rfl (hNS7.alloc _) rfl rfl ?_ Hkl.out hj9 ?_; (focus (first | (refine ⟨_, List.mem_cons_self, rfl, ?_⟩; simp; done) | (refine ⟨_, (List.mem_cons_of_mem _ List.mem_cons_self), rfl, ?_⟩; simp; done) | (refine ⟨_, (List.mem_cons_of_mem _ (List.mem_cons_of_mem _ List.mem_cons_self)), rfl, ?_⟩; simp; done) | (refine ⟨_, (List.mem_cons_of_mem _ (List.mem_cons_of_mem _ (List.mem_cons_of_mem _ List.mem_cons_self))), rfl, ?_⟩; simp; done))); intro A7 c7 w7 hNS7; have m0 := hNS7.l0; have m1 := hNS7.l1; have m2 := hNS7.l2; have f0 := hNS7.f0; have f1 := hNS7.f1; have f2 := hNS7.f2)
          | (refine stepT (u := .slice ej.a ej.n ej.c) (t := 34) rfl _ _ rfl (hNS7.alloc _) rfl rfl rfl ?_ Htl.out hj9 ?_; (focus (first | (refine ⟨_, List.mem_cons_self, rfl, ?_⟩; simp; done) | (refine ⟨_, (List.mem_cons_of_mem _ List.mem_cons_self), rfl, ?_⟩; simp; done) | (refine ⟨_, (List.mem_cons_of_mem _ (List.mem_cons_of_mem _ List.mem_cons_self)), rfl, ?_⟩; simp; done) | (refine ⟨_, (List.mem_cons_of_mem _ (List.mem_cons_of_mem _ (List.mem_cons_of_mem _ List.mem_cons_self))), rfl, ?_⟩; simp; done))); intro A7 c7 w7 hNS7; have m0 := hNS7.l0; have m1 := hNS7.l1; have m2 := hNS7.l2; have f0 := hNS7.f0; have f1 := hNS7.f1; have f2 := hNS7.f2))
      all_goals go_wp2_with fail
      all_goals go_roundw
      all_goals first | (refine ⟨j + 1, by omega, by go_num, ?_⟩; rw [Hek.out, Het.out]; apply ns_end; (repeat (first | (with_reducible assumption) | with_reducible apply NS.alloc | with_reducible apply NS.store | with_reducible apply NS.drew))) | (simp [intOf]; omega)
    · obtain rfl : j = n := by omega
      clear HNS0
      have HN := HNS.out
      rw [List.take_of_length_le (by rw [Hml.out]; exact Nat.le_refl _)] at HN
      have HN0 := Lib.hid HN
      have hx1 : wr.cell? ⟨x, 1, none⟩ = some (.slice Ak j ck) := cell_blk HN.xb 1
      have hx2 : wr.cell? ⟨x, 2, none⟩ = some (.slice A4 nG c4) := cell_blk HN.xb 2
      clear HN HNS
      go_wp2_with fail
      go_still_tail 8, (by kernel_rfl)
      change wpList _ _ _ _ _ wr.drew
      have HNd := Lib.hid HN0.out.drew
      generalize wr.drew = wd at *
      have hKo := HNd.out.hk
      have hTo := HNd.out.ht
      have hkl : (m.map (·.k)).length = j := by rw [List.length_map, Hml.out]
      obtain ⟨Ak', ck', hv, hSk, -, hnk, -, hak, -⟩ := own_form hKo
      rw [hkl] at hv
      injection hv with hv1 hv2 hv3
      subst hv1 hv3
      clear hv2
      obtain ⟨At', ct', hv, hSt, -, hnt, -, hat, -⟩ := own_form hTo
      rw [VT_length, Hml.out] at hv
      injection hv with hv1 hv2 hv3
      subst hv1 hv3
      clear hv2
      have hwd := HNd.out.bel
      have hC1 := below_new wd (.cells #[.slice Ak j ck, .slice A4 nG c4] 23)
      have hb1 : (wd.alloc (.cells #[.slice Ak j ck, .slice A4 nG c4] 23)).heap[wd.heap.size]? = some (.cells #[.slice Ak j ck, .slice A4 nG c4] 23 (0, 0)) := heap_alloc_new wd _
      have hG4 := Lib.hid (fun (W : World) (h : Below w4.heap.size w4 W) => HS4.out.below h)
      have hng2 : nG ≤ 4000 := by rw [← HnG.out, srt_length, HG.out.len]; exact hng
      have HCt := Lib.hid (concat_any (wd.alloc (.cells #[.slice Ak j ck, .slice A4 nG c4] 23)) wd.heap.size 0 2 Ak A4 j nG ck c4 (m.map (·.k)) (srt gs) (cell_blk hb1 0) (cell_blk hb1 1) (hSk.below hC1) (hG4.out _ (hwd.trans (hC1.mono hwd.size))) hkl HnG.out hnk Hn4.out (by omega) (by omega))
      have HC1 := Lib.hid hC1
      have HSk := Lib.hid hSk
      have HSt := Lib.hid hSt
      have Hnk := Lib.hid hnk
      have Hnt := Lib.hid hnt
      have Hak := Lib.hid hak
      have Hat := Lib.hid hat
      have Hkl := Lib.hid hkl
      have Hwd := Lib.hid hwd
      clear hKo hTo hSk hSt hnk hnt hak hat hwd hC1 hb1 hkl hml
      go_wp2_with fail
      go_at_call 51
      refine HCt.out.mono ?_
      rintro e w6 ⟨v6, rfl, hown6, hB6⟩
      obtain ⟨A6, c6, rfl, hS6, hc6, hn6, -, ha6, -⟩ := own_form hown6
      clear hown6 HCt
      obtain ⟨n6, hn6l⟩ : ∃ k, (m.map (·.k) ++ srt gs).length = k := ⟨_, rfl⟩
      have hn6b : n6 ≤ 8000 := by rw [← hn6l, List.length_append, Hkl.out, HnG.out]; omega
      rw [hn6l] at hc6 ⊢
      have hCv := below_new w6 (.cells #[.slice A6 n6 c6] 23)
      have hI6 : SgS.Ints (w6.alloc (.cells #[.slice A6 n6 c6] 23)).heap.size (w6.alloc (.cells #[.slice A6 n6 c6] 23)) (.slice A6 n6 c6) (m.map (·.k) ++ srt gs) :=
        ints_of_sl (hS6.below hCv) hn6l hn6 (fun a ha => ⟨Nat.lt_of_lt_of_le (ha6 a ha).2.1 hCv.size, by rw [(ha6 a ha).2.2.1]⟩)
      have HSo := Lib.hid (sortedS_any w6.heap.size _ (.slice A6 n6 c6) _ (by rw [hn6l]; omega) _ (by simp) (Nat.le_refl _) ((cell_blk (heap_alloc_new w6 _) 0).trans rfl) hI6)
      have HB6 := Lib.hid (((HC1.out.trans (hB6.mono HC1.out.size)).trans (hCv.mono (Nat.le_trans HC1.out.size hB6.size))))
      clear hS6 hc6 hn6 ha6 hI6 hCv hB6
      go_wp2_with fail
      go_at_call 50
      refine (SgS.values_any _ _ _ _).mono ?_
      rintro e w3 ⟨rfl, hw3⟩
      subst hw3
      go_wp2_with fail
      go_at_call 49
      refine HSo.out.mono ?_
      rintro e w7 ⟨v7, rfl, hown7, hB7⟩
      obtain ⟨A7, c7, rfl, hS7, hc7, hn7, -, ha7, -⟩ := own_form hown7
      have HB7 := Lib.hid (HB6.out.trans (hB7.mono HB6.out.size))
      have hpk : (m.map (·.k)).Perm (keysD (es.map De.dc)) := by rw [← keysM]; exact keysD_perm (Hpm.out.map _)
      have hal : (m.map (·.k) ++ srt gs).Perm (keysD (es.map De.dc) ++ gs) := hpk.append (srt_perm gs)
      rw [srt_same hal] at hS7 hown7 ⊢
      obtain ⟨n7, hn7l⟩ : ∃ k, (srt (keysD (es.map De.dc) ++ gs)).length = k := ⟨_, rfl⟩
      have hn7b : n7 ≤ 8000 := by rw [← hn7l, srt_length, ← hal.length_eq, hn6l]; exact hn6b
      have hkk : ∀ k ∈ srt (keysD (es.map De.dc) ++ gs), k.length ≤ 1099511627776 := fun k hk => by
        have h1 := ((srt_perm _).mem_iff.1 hk)
        have h2 := HL.out.w
        rcases List.mem_append.1 h1 with h1 | h1
        · have := wtG_mem h1; have := wtG_keysD (es.map De.dc); omega
        · have := wtG_mem h1; omega
      have HRi := Lib.hid (rise_any w7 A7 n7 c7 _ hS7 hn7l (fun a ha => by rw [(ha7 a ha).2.2.1]) (by omega) hkk (srt_sorted _))
      rw [hn7l]
      have HRp : Hid (decide (Rise (srt (keysD (es.map De.dc) ++ gs))) = decide (Rise (keysD (es.map De.dc) ++ gs))) := Lib.hid (decide_eq_decide.2 (rise_perm (srt_perm _)))
      rw [HRp.out] at HRi
      clear hS7 hown7 hc7 hn7 ha7 hpk hal hkk hn7l hB7 HSo
      go_wp2_with fail
      go_at_call 52
      refine HRi.out.mono ?_
      rintro e w8 ⟨rfl, hw8⟩
      subst hw8
      have HBw := Lib.hid (HB4.out.trans ((Hwd.out.trans (HB7.out.mono Hwd.out.size)).mono HB4.out.size))
      clear HRi HRp
      by_cases hR : Rise (keysD (es.map De.dc) ++ gs)
      · have HR := Lib.hid hR
        rw [decide_eq_true hR]
        clear hR
        have hwx : x < wd.heap.size := by rw [← Hx.out]; exact blk_lt HNd.out.xb |> fun h => by rw [Hx.out]; exact h
        have hxw7 := (HB7.out.block x hwx).trans HNd.out.xb
        have HSt7 := Lib.hid (HSt.out.below HB7.out)
        have HSk7 := Lib.hid (HSk.out.below HB7.out)
        have HS47 := Lib.hid (HS4.out.below (Hwd.out.trans (HB7.out.mono Hwd.out.size)))
        have Hxw7 := Lib.hid hxw7
        clear hxw7 HSt HSk
        go_wp2_with fail
        go_loopw [65] (fun q wr => ∃ i : Nat, i ≤ j ∧ q = .int .i64 (i : Int) ∧ w7 = wr) (fun q _ => j - (intOf q).toNat)
        case atStart => exact ⟨0, Nat.zero_le _, rfl, rfl⟩
        case round =>
          obtain ⟨i, hi, rfl, rfl⟩ := hrel
          by_cases hij : i < j
          · have him : i < m.length := by rw [Hml.out]; exact hij
            obtain ⟨bt, ot, rfl, hc⟩ := HSt7.out.lit (j := i) (by rw [VT_length]; exact him)
            rw [VT_get m i him] at hc
            have hle : ((m[i]?.getD default).n : Int) ≤ 4096 := by
              have h1 : m[i]?.getD default = m[i] := by simp [him]
              have h2 : m[i] ∈ es := Hpm.out.mem_iff.1 (List.getElem_mem him)
              have h3 := (HD.out.txt _ h2).len
              have h4 := HL.out.t _ (List.mem_map_of_mem (f := De.dc) h2)
              have h5 : m[i].t.length ≤ 4096 := h4
              rw [h1, ← h3]; omega
            have hle2 : ¬ (4096 : Int) < ((m[i]?.getD default).n : Int) := by omega
            generalize m[i]?.getD default = ei at *
            go_wp2_with fail
            go_roundw
            case rel => exact ⟨i + 1, by omega, by go_num, trivial⟩
            case measure => simp [intOf]; omega
          · obtain rfl : i = j := by omega
            have hm3 : m.map De.dc = sortD (es.map De.dc) := by
              refine sortD_eq (HR.out.2.sublist (List.sublist_append_left _ _)) (Hpm.out.map _) ?_
              rw [List.pairwise_map]
              exact Hby.out
            have hts : m.map (·.t) = textsD (sortD (es.map De.dc)) := by rw [← hm3]; simp [textsD, De.dc]
            have htx : ∀ e ∈ m, TxtOk w7 e := fun e he => (HD.out.txt e (Hpm.out.mem_iff.1 he)).below HBw.out
            have hRA : RArg w7 At i ct (m.map (·.t)) := rarg_of_row HSt7.out Hml.out (by omega) htx (fun e he => by
              have h3 := (htx e he).len
              have h4 := HL.out.t _ (List.mem_map_of_mem (f := De.dc) (Hpm.out.mem_iff.1 he))
              have h5 : e.t.length ≤ 4096 := h4
              rw [← h3]; omega)
            have hLs : Lite (sortD (es.map De.dc)) (srt gs) := HL.out.perm (sortD_perm _) (srt_perm _)
            have hFs := hLs.fits
            rw [hts] at hRA
            have HBu := Lib.hid (buildS_ok w7 At i ct _ hRA (by omega) hFs.t)
            have Hm3 := Lib.hid hm3
            have HFs := Lib.hid hFs
            clear hm3 hts htx hRA hLs hFs
            go_wp2_with fail
            go_at_call 53
            refine HBu.out.mono ?_
            rintro e w9 ⟨ix, sa, rfl, hI9, hB9⟩
            have hx9 := (hB9.block x (blk_lt Hxw7.out)).trans Hxw7.out
            have hxc : w9.cell? ⟨x, 0, none⟩ = some (.pointer none) := cell_blk hx9 0
            have hxf : w9.frozen? ⟨x, 0, none⟩ = false := frozen_blk hx9 0
            have hg10 := grown_set w9 x 0 (.pointer (some ⟨ix, 0, none⟩))
            have hne : ∀ k, k ≠ x → (w9.setCell ⟨x, 0, none⟩ (.pointer (some ⟨ix, 0, none⟩))).heap[k]? = w9.heap[k]? := fun k hk => Below.heap_setCell w9 ⟨x, 0, none⟩ _ k hk
            have hx7 : x < w7.heap.size := blk_lt Hxw7.out
            have h4x : w4.heap.size = x := Hx.out
            have hw4 := HB4.out.size
            have hsz10 : (w9.setCell ⟨x, 0, none⟩ (.pointer (some ⟨ix, 0, none⟩))).heap.size = w9.heap.size := by simp [World.setCell]
            have hI10 := (hI9.keep (fun k hk _ => hne k (by omega))).mono HBw.out.size
            have hSeg : SegM (w9.setCell ⟨x, 0, none⟩ (.pointer (some ⟨ix, 0, none⟩))) w.heap.size x (sortD (es.map De.dc)) (srt gs) sa := by
              refine ⟨by omega, ix, Ak, A4, ck, c4, ?_, hI10, ?_, ?_, ?_, ?_, Hnk.out, Hn4.out⟩
              · rw [← Hm3.out, List.length_map, Hml.out, HnG.out]
                exact blk_set hx9 0 _
              · rw [← Hm3.out, keysM]
                refine (HSk7.out.below hB9).grown hg10 (fun a ha _ e => ?_)
                have h1 := (Hak.out a ha).2.2.2
                rw [Option.some.inj e] at h1
                exact HNd.out.xk h1
              · refine (HS47.out.below hB9).grown hg10 (fun a ha _ e => ?_)
                have h1 := (HA4.out a ha).2.1
                have := Option.some.inj e
                omega
              · exact ⟨fun a ha => by rw [(Hak.out a ha).2.2.1], fun a ha => by
                  have h1 := Hak.out a ha
                  have h2 := HB7.out.size
                  have h3 := hB9.size
                  rw [hsz10]
                  omega⟩
              · exact ⟨fun a ha => by rw [(HA4.out a ha).2.2.1], fun a ha => by
                  have h1 := HA4.out a ha
                  have h2 := HW2.out
                  have h3 := hB9.size
                  rw [hsz10]
                  omega⟩
            have HSeg := Lib.hid hSeg
            have HRec := Lib.hid (record_any hSeg HFs.out)
            have HB10 := Lib.hid ((HBw.out.trans (hB9.mono HBw.out.size)).grown hg10 (by have := HBw.out.size; have := hB9.size; omega) (fun k hk => by have := Option.some.inj hk; omega))
            clear hI9 hB9 hx9 hg10 hne hsz10 hI10 hSeg h4x hw4
            go_wp2_with fail
            generalize w9.setCell ⟨x, 0, none⟩ (.pointer (some ⟨ix, 0, none⟩)) = w10 at *
            go_at_call 54
            refine HRec.out.mono ?_
            rintro e w11 ⟨g11, cap11, rfl, -, -, -, hB11⟩
            have HSe := Lib.hid (HSeg.out.below hB11)
            have HBe := Lib.hid (HB10.out.trans (hB11.mono HB10.out.size))
            clear hB11 HRec
            go_wp2_with fail
            go_ret2
            exact .inl ⟨HR.out, x, sa, rfl, HSe.out, HBe.out⟩
      · rw [decide_eq_false hR]
        go_wp2_with fail
        go_ret2
        exact .inr ⟨hR, rfl, HBw.out⟩
end Go.Proofs.YtphccomhggnccaaGreat
/- segment: whole, Keys, Gone, Encode, Find. -/
namespace Go.Proofs.YtphccomhggnccaaGreat
set_option maxRecDepth 100000
set_option linter.unusedVariables false
set_option linter.unusedSimpArgs false
set_option maxRecDepth 100000
open Go.RowKit Sg Fm
theorem SegM.ixc {w : World} {base x : Nat} {ds : List Dc} {gs : List Key} {sa : List Nat} (h : SegM w base x ds gs sa) : ∃ ix, w.cell? ⟨x, 0, none⟩ = some (.pointer (some ⟨ix, 0, none⟩)) ∧ IdxM w base ix (rowT (textsD ds)) sa := by
  obtain ⟨ix, Ak, Ag, ck, cg, h1, h2, _⟩ := h.blk
  exact ⟨ix, cell_blk h1 0, h2⟩
theorem swhole_any {w : World} {x ix : Nat} (h : w.cell? ⟨x, 0, none⟩ = some (.pointer (some ⟨ix, 0, none⟩))) :
    Calls Tryz.prog 55 #[.pointer (some ⟨x, 0, none⟩)] w fun e w' => e = .returned (.bool true) ∧ w = w' := by
  go_enter Tryz.func55, Tryz.ntmps55
  go_wp2_with fail
  go_ret
  exact ⟨rfl, rfl⟩
theorem swhole_nil (w : World) :
    Calls Tryz.prog 55 #[.pointer none] w fun e w' => e = .returned (.bool false) ∧ w = w' := by
  go_enter Tryz.func55, Tryz.ntmps55
  go_wp2_with fail
  go_ret
  exact ⟨rfl, rfl⟩
theorem keys_nil (w : World) : Calls Tryz.prog 31 #[.pointer none] w fun e w' => e = .returned (.slice none 0 0) ∧ w = w' := by
  go_enter Tryz.func31, Tryz.ntmps31
  go_wp2_with (go_at_call 55; refine (swhole_nil _).mono ?_; rintro e w' ⟨rfl, rfl⟩)
  go_ret
  exact ⟨rfl, rfl⟩
theorem gone_nil (w : World) : Calls Tryz.prog 32 #[.pointer none] w fun e w' => e = .returned (.slice none 0 0) ∧ w = w' := by
  go_enter Tryz.func32, Tryz.ntmps32
  go_wp2_with (go_at_call 55; refine (swhole_nil _).mono ?_; rintro e w' ⟨rfl, rfl⟩)
  go_ret
  exact ⟨rfl, rfl⟩
theorem encS_nil (w : World) : Calls Tryz.prog 18 #[.pointer none] w fun e w' => e = .returned (.slice none 0 0) ∧ w = w' := by
  go_enter Tryz.func18, Tryz.ntmps18
  go_wp2_with (go_at_call 55; refine (swhole_nil _).mono ?_; rintro e w' ⟨rfl, rfl⟩)
  go_ret
  exact ⟨rfl, rfl⟩
theorem findS_nil (w : World) (p : Value) : Calls Tryz.prog 33 #[.pointer none, p] w fun e w' => e = .returned (.slice none 0 0) ∧ w = w' := by
  go_enter Tryz.func33, Tryz.ntmps33
  go_wp2_with (go_at_call 55; refine (swhole_nil _).mono ?_; rintro e w' ⟨rfl, rfl⟩)
  go_ret
  exact ⟨rfl, rfl⟩
theorem getS_nil (w : World) (k : Value) : Calls Tryz.prog 29 #[.pointer none, k] w fun e w' => e = .returned (.tuple #[.slice none 0 0, .bool false, .bool false]) ∧ w = w' := by
  go_enter Tryz.func29, Tryz.ntmps29
  go_wp2_with (go_at_call 55; refine (swhole_nil _).mono ?_; rintro e w' ⟨rfl, rfl⟩)
  go_ret3
  exact ⟨rfl, rfl⟩
theorem keysS_any {w : World} {base x : Nat} {ds : List Dc} {gs : List Key} {sa : List Nat} (h : SegM w base x ds gs sa) (hl : ds.length ≤ 1099511627776) :
    Calls Tryz.prog 31 #[.pointer (some ⟨x, 0, none⟩)] w (OwnS w (keysD ds)) := by
  obtain ⟨ix, Ak, Ag, ck, cg, h1, h2, h3, h4, h5, h6, h7, h8⟩ := h.blk
  have hx0 : w.cell? ⟨x, 0, none⟩ = some (.pointer (some ⟨ix, 0, none⟩)) := cell_blk h1 0
  have hx1 : w.cell? ⟨x, 1, none⟩ = some (.slice Ak ds.length ck) := cell_blk h1 1
  have HC := Lib.hid (cloneS_any w Ak ds.length ck (keysD ds) h3 (keysD_length ds) h5.sp hl)
  have HW := Lib.hid (swhole_any hx0)
  clear h h1 h2 h3 h4 h5 h6 h7 h8
  go_enter Tryz.func31, Tryz.ntmps31
  go_wp2_with (go_at_call 55; refine HW.out.mono ?_; rintro e w' ⟨rfl, rfl⟩)
  go_at_call 72
  refine HC.out.mono ?_
  rintro e w' ⟨v, rfl, h1, h2⟩
  have H1 := Lib.hid h1
  have H2 := Lib.hid h2
  clear h1 h2 HC
  go_wp2_with fail
  go_ret
  exact ⟨v, rfl, H1.out, H2.out⟩
theorem goneS_any {w : World} {base x : Nat} {ds : List Dc} {gs : List Key} {sa : List Nat} (h : SegM w base x ds gs sa) (hl : gs.length ≤ 1099511627776) :
    Calls Tryz.prog 32 #[.pointer (some ⟨x, 0, none⟩)] w (OwnS w gs) := by
  obtain ⟨ix, Ak, Ag, ck, cg, h1, h2, h3, h4, h5, h6, h7, h8⟩ := h.blk
  have hx0 : w.cell? ⟨x, 0, none⟩ = some (.pointer (some ⟨ix, 0, none⟩)) := cell_blk h1 0
  have hx2 : w.cell? ⟨x, 2, none⟩ = some (.slice Ag gs.length cg) := cell_blk h1 2
  have HC := Lib.hid (cloneS_any w Ag gs.length cg gs h4 rfl h6.sp hl)
  have HW := Lib.hid (swhole_any hx0)
  clear h h1 h2 h3 h4 h5 h6 h7 h8
  go_enter Tryz.func32, Tryz.ntmps32
  go_wp2_with (go_at_call 55; refine HW.out.mono ?_; rintro e w' ⟨rfl, rfl⟩)
  go_at_call 72
  refine HC.out.mono ?_
  rintro e w' ⟨v, rfl, h1, h2⟩
  have H1 := Lib.hid h1
  have H2 := Lib.hid h2
  clear h1 h2 HC
  go_wp2_with fail
  go_ret
  exact ⟨v, rfl, H1.out, H2.out⟩
theorem encS_any {w : World} {base x : Nat} {ds : List Dc} {gs : List Key} {sa : List Nat} (h : SegM w base x ds gs sa) (hf : Fits ds gs) :
    Calls Tryz.prog 18 #[.pointer (some ⟨x, 0, none⟩)] w fun e w' => ∃ g cap, e = .returned (.slice (some ⟨g, 0, none⟩) (frame (bodyS (keysD ds) gs (turnS ds sa))).length cap) ∧ w.heap.size ≤ g ∧ (frame (bodyS (keysD ds) gs (turnS ds sa))).length ≤ cap ∧ Sl w' (some ⟨g, 0, none⟩) (VY (frame (bodyS (keysD ds) gs (turnS ds sa)))) ∧ Below w.heap.size w w' := by
  obtain ⟨ix, hx0, _⟩ := h.ixc
  have HW := Lib.hid (swhole_any hx0)
  have HR := Lib.hid (record_any h hf)
  clear h hx0
  generalize frame (bodyS (keysD ds) gs (turnS ds sa)) = fr at *
  go_enter Tryz.func18, Tryz.ntmps18
  go_wp2_with (go_at_call 55; refine HW.out.mono ?_; rintro e w' ⟨rfl, rfl⟩)
  go_at_call 54
  refine HR.out.mono ?_
  rintro e w' ⟨g, cap, rfl, h1, h2, h3, h4⟩
  have H3 := Lib.hid h3
  have H4 := Lib.hid h4
  have H1 := Lib.hid h1
  have H2 := Lib.hid h2
  clear h1 h2 h3 h4 HR
  go_wp2_with fail
  go_ret
  exact ⟨g, cap, rfl, H1.out, H2.out, H3.out, H4.out⟩
/-- matches, as they lie -/
def VMt (l : List (Key × Nat)) : List Value := l.flatMap fun m => [encStr m.1, .int .i64 (m.2 : Int)]
theorem VMt_cons (m : Key × Nat) (r : List (Key × Nat)) : VMt (m :: r) = encStr m.1 :: .int .i64 (m.2 : Int) :: VMt r := rfl
theorem VMt_length (l : List (Key × Nat)) : (VMt l).length = l.length * 2 := by
  induction l with
  | nil => rfl
  | cons a r ih => rw [VMt_cons, List.length_cons, List.length_cons, ih, List.length_cons]; omega
theorem VMt_append (a b : List (Key × Nat)) : VMt (a ++ b) = VMt a ++ VMt b := by simp [VMt]
theorem VMt_get0 (l : List (Key × Nat)) (i : Nat) (h : i < l.length) : (VMt l)[i * 2]? = some (encStr (l.getD i ([], 0)).1) := by
  induction l generalizing i with
  | nil => cases h
  | cons a r ih =>
    rw [VMt_cons]
    cases i with
    | zero => rfl
    | succ i => rw [show (i + 1) * 2 = i * 2 + 1 + 1 by omega]; exact ih i (by simpa using h)
theorem VMt_get1 (l : List (Key × Nat)) (i : Nat) (h : i < l.length) : (VMt l)[i * 2 + 1]? = some (.int .i64 ((l.getD i ([], 0)).2 : Int)) := by
  induction l generalizing i with
  | nil => cases h
  | cons a r ih =>
    rw [VMt_cons]
    cases i with
    | zero => rfl
    | succ i => rw [show (i + 1) * 2 + 1 = i * 2 + 1 + 1 + 1 by omega]; exact ih i (by simpa using h)
/-- where bytes stand in documents, by keys -/
def matsOf (ds : List Dc) (p : List Nat) : List (Key × Nat) := (found (textsD ds) p).map fun h => ((keysD ds).getD h.1 [], h.2)
theorem locF_lt (P : List Nat) : ∀ (ts : List (List Nat)) (d0 : Nat), ∀ h ∈ locF d0 P ts, d0 ≤ h.1 ∧ h.1 < d0 + ts.length
  | [], _, h, hh => by cases hh
  | t :: ts, d0, h, hh => by
    rw [locF] at hh
    rcases List.mem_append.1 hh with hh | hh
    · obtain ⟨f, _, rfl⟩ := List.mem_map.1 hh
      simp
    · have := locF_lt P ts (d0 + 1) h hh
      simp only [List.length_cons]
      omega
theorem found_lt (ts : List (List Nat)) (p : List Nat) : ∀ h ∈ found ts p, h.1 < ts.length := by
  intro h hh
  unfold found at hh
  split at hh
  · cases hh
  · have := locF_lt p ts 0 h hh
    omega
theorem locF_len (P : List Nat) : ∀ (ts : List (List Nat)) (d0 : Nat), (locF d0 P ts).length ≤ (body ts).length
  | [], _ => Nat.zero_le _
  | t :: ts, d0 => by
    rw [locF, List.length_append, List.length_map, body_cons, List.length_append, txt_length]
    have h1 := locF_len P ts (d0 + 1)
    have h2 := List.length_filter_le (fun f => P.isPrefixOf (t.drop f)) (List.range t.length)
    rw [List.length_range] at h2
    omega
theorem found_len (ts : List (List Nat)) (p : List Nat) : (found ts p).length ≤ (body ts).length := by
  unfold found
  split
  · exact Nat.zero_le _
  · exact locF_len p ts 0
/-- what Find hands back -/
def MatsP (w : World) (l : List (Key × Nat)) (e : Ending) (w' : World) : Prop := ∃ A c, e = .returned (.slice A l.length c) ∧ Sl w' A (VMt l) ∧ Below w.heap.size w w'
set_option maxHeartbeats 4000000 in
theorem findS_any {w : World} {base x : Nat} {ds : List Dc} {gs : List Key} {sa : List Nat} (h : SegM w base x ds gs sa) (A : Option Addr) (n cap : Nat) (p : List Nat) (hA : Sl w A (VY p)) (hl : p.length = n) (hn : n ≤ 1099511627776) (hb : ∀ c ∈ p, c < 256) (hf : (rowT (textsD ds)).length ≤ 65536) :
    Calls Tryz.prog 33 #[.pointer (some ⟨x, 0, none⟩), .slice A n cap] w (MatsP w (matsOf ds p)) := by
  obtain ⟨ix, Ak, Ag, ck, cg, h1, h2, h3, h4, h5, h6, h7, h8⟩ := h.blk
  have hx0 : w.cell? ⟨x, 0, none⟩ = some (.pointer (some ⟨ix, 0, none⟩)) := cell_blk h1 0
  have HL := Lib.hid (locateT h2 A n cap p hA hl hn hb)
  have HW := Lib.hid (swhole_any hx0)
  have H1 := Lib.hid h1
  have H3 := Lib.hid h3
  have H5 := Lib.hid h5
  have HKl := Lib.hid (fun a ha => Nat.lt_of_lt_of_le (h5.ge a ha).2 (Nat.le_refl _))
  have Hlt := Lib.hid (found_lt (textsD ds) p)
  have hfl := found_len (textsD ds) p
  rw [rowT_length] at hf
  obtain ⟨N, hN⟩ : ∃ N, (found (textsD ds) p).length = N := ⟨_, rfl⟩
  obtain ⟨K, hK⟩ : ∃ K, ds.length = K := ⟨_, rfl⟩
  have HN := Lib.hid hN
  have HK := Lib.hid hK
  have hNb : N ≤ 65536 := by omega
  clear h h1 h2 h3 h4 h5 h6 h7 h8 hA hl hn hb hN hK hfl hf
  go_enter Tryz.func33, Tryz.ntmps33
  go_wp2_with (go_at_call 55; refine HW.out.mono ?_; rintro e w' ⟨rfl, rfl⟩)
  go_at_call 20
  refine HL.out.mono ?_
  rintro e w1 ⟨A1, c1, rfl, hS1, hB1⟩
  rw [IH_length, HN.out]
  have HS1 := Lib.hid hS1
  have HB1 := Lib.hid hB1
  have hs1 := hB1.size
  clear hS1 hB1 HL hx0
  go_wp2_with fail
  have Hml : Hid ((matsOf ds p).length = N) := Lib.hid (by unfold matsOf; rw [List.length_map, HN.out])
  go_loopw [5, 18] (fun t q wr => ∃ j : Nat, j ≤ N ∧ q = .int .i64 (j : Int) ∧ ∃ At ct, t = .slice At j ct ∧ Hid (wr.ownsRow w1.heap.size 86 2 (.slice At j ct) j (VMt ((matsOf ds p).take j))) ∧ Hid (Below w1.heap.size w1 wr)) (fun _ q _ => N - (intOf q).toNat)
  case atStart => exact ⟨0, Nat.zero_le _, rfl, none, 0, rfl, Lib.hid (World.ownsRow_nil _ _ _ _), Lib.hid (Below.refl _ _)⟩
  case round =>
    obtain ⟨j, hj, rfl, At, ct, rfl, HO, HB⟩ := hrel
    by_cases hjN : j < N
    · have hjf : j < (found (textsD ds) p).length := by rw [HN.out]; exact hjN
      obtain ⟨hh, hhe⟩ : ∃ hh, (found (textsD ds) p)[j] = hh := ⟨_, rfl⟩
      have hmem : hh ∈ found (textsD ds) p := by rw [← hhe]; exact List.getElem_mem hjf
      have hdl := Hlt.out hh hmem
      rw [textsD_length, HK.out] at hdl
      have hIg : (IH (found (textsD ds) p)).getD j (0, 0) = ((hh.1 : Int), (hh.2 : Int)) := by
        rw [List.getD_eq_getElem?_getD]; simp [IH, hjf, hhe]
      have hSr := HS1.out.below HB.out
      obtain ⟨bm, om, rfl, hc0⟩ := hSr.lit (j := j * 2) (by rw [VH_length, IH_length]; omega)
      have hc1 := hSr.cell _ rfl (j * 2 + 1) _ (VH_get1 (IH (found (textsD ds) p)) j (by rw [IH_length]; exact hjf))
      rw [VH_get0 _ j (by rw [IH_length]; exact hjf), hIg] at hc0
      rw [hIg] at hc1
      rw [show (⟨bm, om, none⟩ : Addr).add (j * 2 + 1) = ⟨bm, om + j * 2 + 1, none⟩ by unfold Addr.add; split <;> simp_all; omega] at hc1
      have Hsu : Hid ((matsOf ds p).take (j + 1) = (matsOf ds p).take j ++ [((keysD ds).getD hh.1 [], hh.2)]) := Lib.hid (by
        have h9 : j < (matsOf ds p).length := by rw [Hml.out]; exact hjN
        rw [List.take_succ_eq_append_getElem h9]
        simp [matsOf, hhe])
      have hBB := HB1.out.trans (HB.out.mono hs1)
      have hx1 : wr.cell? ⟨x, 1, none⟩ = some (.slice Ak K ck) := by
        have := cell_blk ((hBB.block x (blk_lt H1.out)).trans H1.out) 1
        rw [HK.out] at this
        exact this
      obtain ⟨bk, ok, rfl, hkc⟩ : ∃ b off, Ak = some ⟨b, off, none⟩ ∧ wr.cell? ⟨b, off + hh.1, none⟩ = some (.string (ba ((keysD ds).getD hh.1 []))) := by
        have hK2 : hh.1 < (keysD ds).length := by rw [keysD_length, HK.out]; exact hdl
        cases Ak with
        | none =>
          exfalso
          have h := H3.out.nil rfl
          have h2 : (keysD ds).length = 0 := by rw [← VS_length, h]; rfl
          omega
        | some a =>
          obtain ⟨b, off, sp⟩ := a
          have h2' : sp = none := H5.out.sp _ rfl
          subst h2'
          exact ⟨b, off, rfl, VS_cell (H3.out.below hBB) hK2⟩
      generalize (keysD ds).getD hh.1 [] = key at *
      obtain ⟨h1, h2⟩ := hh
      dsimp only at *
      clear hSr hBB hIg hmem hhe hjf
      go_upto_region 7 with fail
      have hwb := below_new wr (.cells #[.int .i64 (h1 : Int), .int .i64 (h2 : Int)] 55)
      have hb9 : (wr.alloc (.cells #[.int .i64 (h1 : Int), .int .i64 (h2 : Int)] 55)).heap[wr.heap.size]? = some (.cells #[.int .i64 (h1 : Int), .int .i64 (h2 : Int)] 55 (0, 0)) := heap_alloc_new wr _
      have hd0 : (wr.alloc (.cells #[.int .i64 (h1 : Int), .int .i64 (h2 : Int)] 55)).cell? ⟨wr.heap.size, 0, none⟩ = some (.int .i64 (h1 : Int)) := cell_blk hb9 0
      have hd1 : (wr.alloc (.cells #[.int .i64 (h1 : Int), .int .i64 (h2 : Int)] 55)).cell? ⟨wr.heap.size, 1, none⟩ = some (.int .i64 (h2 : Int)) := cell_blk hb9 1
      have hx1' := (World.cell?_of_block (hwb.block x (World.block_lt_of_cell? wr _ hx1))).trans hx1
      have hkc' := (World.cell?_of_block (hwb.block bk (World.block_lt_of_cell? wr _ hkc))).trans hkc
      have hOl : ∀ k, (Value.slice At j ct).ownBlock = some k → w1.heap.size ≤ k ∧ k < wr.heap.size := fun k hk => World.ownsRow.lt HO.out k hk
      have hxl1 : x < w1.heap.size := Nat.lt_of_lt_of_le (blk_lt H1.out) hs1
      have hkl1 : bk < w1.heap.size := Nat.lt_of_lt_of_le (HKl.out _ rfl) hs1
      have hO' := World.ownsRow.alloc HO.out (.cells #[.int .i64 (h1 : Int), .int .i64 (h2 : Int)] 55)
      have hB' := HB.out.alloc HB.out.size (.cells #[.int .i64 (h1 : Int), .int .i64 (h2 : Int)] 55)
      obtain ⟨d, hd⟩ : ∃ d, wr.heap.size = d := ⟨_, rfl⟩
      rw [hd] at hd0 hd1 hOl ⊢
      clear hwb hb9 hx1 hkc hc0 hc1 HO HB hd
      generalize wr.alloc (.cells #[.int .i64 (h1 : Int), .int .i64 (h2 : Int)] 55) = wa at *
      have hxl := World.block_lt_of_cell? wa _ hx1'
      have hdl2 := World.block_lt_of_cell? wa _ hd0
      have hkl := World.block_lt_of_cell? wa _ hkc'
      have hWb := (below_new wa (.cells #[.string (ba key), .int .i64 (h2 : Int)] 86)).drew
      have hO2 := own_keepR (World.ownsRow.alloc hO' (.cells #[.string (ba key), .int .i64 (h2 : Int)] 86)) (grown_drew _ none) (fun _ _ => nofun)
      have HB2 := Lib.hid ((hB'.alloc hB'.size (.cells #[.string (ba key), .int .i64 (h2 : Int)] 86)).drew)
      have hSn : Sl (wa.alloc (.cells #[.string (ba key), .int .i64 (h2 : Int)] 86)).drew (some ⟨wa.heap.size, 0, none⟩) [.string (ba key), .int .i64 (h2 : Int)] := (sl_blk (heap_alloc_new wa _)).drew
      have a0 : (wa.alloc (.cells #[.string (ba key), .int .i64 (h2 : Int)] 86)).drew.cell? ⟨x, 1, none⟩ = _ := (World.cell?_of_block (hWb.block x hxl)).trans hx1'
      have a1 : (wa.alloc (.cells #[.string (ba key), .int .i64 (h2 : Int)] 86)).drew.cell? ⟨d, 0, none⟩ = _ := (World.cell?_of_block (hWb.block d hdl2)).trans hd0
      have a2 : (wa.alloc (.cells #[.string (ba key), .int .i64 (h2 : Int)] 86)).drew.cell? ⟨d, 1, none⟩ = _ := (World.cell?_of_block (hWb.block d hdl2)).trans hd1
      have a3 : (wa.alloc (.cells #[.string (ba key), .int .i64 (h2 : Int)] 86)).drew.cell? ⟨bk, ok + h1, none⟩ = _ := (World.cell?_of_block (hWb.block bk hkl)).trans hkc'
      have hsz2 : w1.heap.size ≤ (wa.alloc (.cells #[.string (ba key), .int .i64 (h2 : Int)] 86)).drew.heap.size := HB2.out.size
      have hnx : ∀ k, (Value.slice At j ct).ownBlock = some k → k ≠ x ∧ k ≠ bk ∧ k ≠ d := fun k hk => by
        have := hOl k hk
        exact ⟨by omega, by omega, by omega⟩
      go_region_held_law (fun W => W.cell? ⟨x, 1, none⟩ = some (.slice (some ⟨bk, ok, none⟩) K ck) ∧ W.cell? ⟨d, 0, none⟩ = some (.int .i64 (h1 : Int)) ∧ W.cell? ⟨d, 1, none⟩ = some (.int .i64 (h2 : Int)) ∧ W.cell? ⟨bk, ok + h1, none⟩ = some (.string (ba key)))
        (first | exact ⟨hx1', hd0, hd1, hkc'⟩ | exact ⟨a0, a1, a2, a3⟩ | exact ⟨e0, e1, e2, e3⟩)
        ((refine stepE el_mat rfl _ _ rfl w1.heap.size _ j (VMt ((matsOf ds p).take j)) rfl hO2 (some ⟨wa.heap.size, 0, none⟩) 1 1 [.string (ba key), .int .i64 (h2 : Int)] rfl (fun e => by cases e) rfl hSn (fun u hu => by simp at hu; rcases hu with rfl | rfl <;> rfl) (by omega) hsz2 ?_; intro v7 w7 hown7 hg7 _ _; obtain ⟨A7, c7, hv7, -, -, -, -, -, -⟩ := own_form hown7; subst hv7; have e0 := (World.cell?_of_block (hg7.block x (World.block_lt_of_cell? _ _ a0) (fun e => (hnx x e.symm).1 rfl))).trans a0; have e1 := (World.cell?_of_block (hg7.block d (World.block_lt_of_cell? _ _ a1) (fun e => (hnx d e.symm).2.2 rfl))).trans a1; have e2 := (World.cell?_of_block (hg7.block d (World.block_lt_of_cell? _ _ a1) (fun e => (hnx d e.symm).2.2 rfl))).trans a2; have e3 := (World.cell?_of_block (hg7.block bk (World.block_lt_of_cell? _ _ a3) (fun e => (hnx bk e.symm).2.1 rfl))).trans a3; have H7 := Lib.hid hown7; have HB7 := Lib.hid (HB2.out.grown hg7 hsz2 (fun k hk => (World.ownsRow.lt hO2 k hk).1)); clear hown7 hg7))
      go_wp2_with fail
      go_roundw
      case rel => exact ⟨j + 1, by omega, by go_num, A7, c7, rfl, Lib.hid (by rw [Hsu.out, VMt_append]; exact H7.out), HB7⟩
      case measure => simp [intOf]; omega
    · obtain rfl : j = N := by omega
      have hOo := HO.out
      clear HO
      rw [List.take_of_length_le (by rw [Hml.out]; exact Nat.le_refl _)] at hOo
      obtain ⟨A9, c9, hv9, hS9, -, -, -, -, -⟩ := own_form hOo
      have HS9 := Lib.hid hS9
      injection hv9 with e1 e2 e3
      subst e1
      clear hOo hS9 e2 e3
      go_wp2_with fail
      go_ret
      exact ⟨At, ct, by rw [Hml.out]; rfl, HS9.out, HB1.out.trans (HB.out.mono hs1)⟩
end Go.Proofs.YtphccomhggnccaaGreat
/- The laws' helpers: matches, texts, same, known. -/
namespace Go.Proofs.YtphccomhggnccaaGreat
set_option maxRecDepth 100000
set_option linter.unusedVariables false
set_option linter.unusedSimpArgs false
set_option maxRecDepth 100000
open Go.RowKit Sg Fm
set_option maxHeartbeats 2000000 in
theorem matches_true (w : World) (A B : Option Addr) (n c1 c2 : Nat) (l : List (Key × Nat)) (hA : Sl w A (VMt l)) (hB : Sl w B (VMt l)) (hl : l.length = n) (hn : n ≤ 1099511627776) :
    Calls Tryz.prog 43 #[.slice A n c1, .slice B n c2] w fun e w' => e = .returned (.bool true) ∧ ∃ q, w' = w.drewN q := by
  have HA := Lib.hid hA
  have HB := Lib.hid hB
  have Hl := Lib.hid hl
  clear hA hB hl
  have hd : (n == n) = true := by simp
  go_enter Tryz.func43, Tryz.ntmps43
  go_wp2_with fail
  go_loopw [5] (fun i wr => ∃ j q : Nat, j ≤ n ∧ i = .int .i64 (j : Int) ∧ wr = w.drewN q) (fun i _ => n - (intOf i).toNat)
  case atStart => exact ⟨0, 0, Nat.zero_le _, rfl, rfl⟩
  case round =>
    obtain ⟨j, q, hj, rfl, rfl⟩ := hrel
    by_cases hlt : j < n
    · obtain ⟨ba', oa, rfl, hca⟩ := HA.out.lit (j := j * 2) (by rw [VMt_length, Hl.out]; omega)
      obtain ⟨bb, ob, rfl, hcb⟩ := HB.out.lit (j := j * 2) (by rw [VMt_length, Hl.out]; omega)
      have hca1 := HA.out.cell _ rfl (j * 2 + 1) _ (VMt_get1 l j (by rw [Hl.out]; exact hlt))
      have hcb1 := HB.out.cell _ rfl (j * 2 + 1) _ (VMt_get1 l j (by rw [Hl.out]; exact hlt))
      rw [VMt_get0 l j (by rw [Hl.out]; exact hlt)] at hca hcb
      rw [show (⟨ba', oa, none⟩ : Addr).add (j * 2 + 1) = ⟨ba', oa + j * 2 + 1, none⟩ by unfold Addr.add; split <;> simp_all; omega] at hca1
      rw [show (⟨bb, ob, none⟩ : Addr).add (j * 2 + 1) = ⟨bb, ob + j * 2 + 1, none⟩ by unfold Addr.add; split <;> simp_all; omega] at hcb1
      generalize l.getD j ([], 0) = h at *
      obtain ⟨k, at'⟩ := h
      dsimp only [encStr] at *
      generalize ByteArray.mk k.toArray = s at *
      go_wp2_with fail
      go_quiet (fail)
      go_wp2_with fail
      go_roundw
      case rel => exact ⟨j + 1, q + nq, by omega, by go_num, by simp⟩
      case measure => simp [intOf]; omega
    · obtain rfl : j = n := by omega
      go_wp2_with fail
      go_ret
      exact ⟨rfl, q, rfl⟩
set_option maxHeartbeats 2000000 in
theorem texts_true (w : World) (A B : Option Addr) (n c1 c2 : Nat) (l : List Key) (hA : Sl w A (VS l)) (hB : Sl w B (VS l)) (hl : l.length = n) (hn : n ≤ 1099511627776) :
    Calls Tryz.prog 44 #[.slice A n c1, .slice B n c2] w fun e w' => e = .returned (.bool true) ∧ ∃ q, w' = w.drewN q := by
  have HA := Lib.hid hA
  have HB := Lib.hid hB
  have Hl := Lib.hid hl
  clear hA hB hl
  have hd : (n == n) = true := by simp
  go_enter Tryz.func44, Tryz.ntmps44
  go_wp2_with fail
  go_loopw [5] (fun i wr => ∃ j q : Nat, j ≤ n ∧ i = .int .i64 (j : Int) ∧ wr = w.drewN q) (fun i _ => n - (intOf i).toNat)
  case atStart => exact ⟨0, 0, Nat.zero_le _, rfl, rfl⟩
  case round =>
    obtain ⟨j, q, hj, rfl, rfl⟩ := hrel
    by_cases hlt : j < n
    · obtain ⟨ba', oa, rfl, hca⟩ := HA.out.lit (j := j) (by rw [VS_length, Hl.out]; omega)
      obtain ⟨bb, ob, rfl, hcb⟩ := HB.out.lit (j := j) (by rw [VS_length, Hl.out]; omega)
      rw [VS_get l j (by rw [Hl.out]; exact hlt)] at hca hcb
      generalize l.getD j [] = k at *
      dsimp only [encStr] at *
      generalize ByteArray.mk k.toArray = s at *
      go_wp2_with fail
      go_quiet (fail)
      go_wp2_with fail
      go_roundw
      case rel => exact ⟨j + 1, q + nq, by omega, by go_num, by simp⟩
      case measure => simp [intOf]; omega
    · obtain rfl : j = n := by omega
      go_wp2_with fail
      go_ret
      exact ⟨rfl, q, rfl⟩
set_option maxHeartbeats 2000000 in
theorem same9_true (w : World) (A B : Option Addr) (n c1 c2 : Nat) (l : List Nat) (hA : Sl w A (VY l)) (hB : Sl w B (VY l)) (hl : l.length = n) (hn : n ≤ 1099511627776) :
    Calls Tryz.prog 17 #[.slice A n c1, .slice B n c2] w fun e w' => e = .returned (.bool true) ∧ ∃ q, w' = w.drewN q := by
  have HA := Lib.hid hA
  have HB := Lib.hid hB
  have Hl := Lib.hid hl
  clear hA hB hl
  go_enter Tryz.func17, Tryz.ntmps17
  go_wp2_with fail
  go_loopw [5] (fun i wr => ∃ j q : Nat, j ≤ n ∧ i = .int .i64 (j : Int) ∧ wr = w.drewN q) (fun i _ => n - (intOf i).toNat)
  case atStart => exact ⟨0, 0, Nat.zero_le _, rfl, rfl⟩
  case round =>
    obtain ⟨j, q, hj, rfl, rfl⟩ := hrel
    by_cases hlt : j < n
    · obtain ⟨a, rfl, hca⟩ := HA.out.some (j := j) (by rw [VY_length, Hl.out]; omega)
      obtain ⟨b, rfl, hcb⟩ := HB.out.some (j := j) (by rw [VY_length, Hl.out]; omega)
      rw [VY_get l j (by rw [Hl.out]; exact hlt)] at hca hcb
      generalize l.getD j 0 = h at *
      go_wp2_with fail
      go_quiet (fail)
      go_wp2_with fail
      go_roundw
      case rel => exact ⟨j + 1, q + nq, by omega, by go_num, by simp⟩
      case measure => simp [intOf]; omega
    · obtain rfl : j = n := by omega
      go_wp2_with fail
      go_ret
      exact ⟨rfl, q, rfl⟩
theorem conv_bytes9 (W : World) (C : Array Value) (b n c : Nat) (hb : W.heap.size = b) :
    (convert 34 34 (.slice (some ⟨b, 0, none⟩) n c)).run Tryz.prog (W.alloc (.cells C 5)) = .ok (.slice (some ⟨b, 0, none⟩) n c) (W.alloc (.cells C 5 (C.size, C.size + 1))) := by
  subst hb
  exact Lib.run_convert_bytes_const W 34 5 C n c Tryz.underlying34 Tryz.underlying5
theorem sl_blkg {w : World} {b : Nat} {xs : List Value} {cs : Array Value} {t : TypeId} {fr : Nat × Nat} (h : w.heap[b]? = some (.cells cs t fr)) (e : cs = xs.toArray) : Sl w (some ⟨b, 0, none⟩) xs := by
  subst e
  exact sl_blk h
/-- the documents that each law knows -/
def twoD : List Dc := [([98], [120, 97, 121]), ([97], [97, 121])]
def oneG : List Key := [[99]]
def twoS : List Dc := [([97], [97, 121]), ([98], [120, 97, 121])]
theorem sortD_two : sortD twoD = twoS := (sortD_eq (m := twoS) (by decide) (by decide) (by decide)).symm
theorem srt_one : srt oneG = oneG := (srt_eq (List.Perm.refl _) (List.pairwise_singleton _ _)).symm
theorem mats_two : matsOf twoS [97, 121] = [([97], 0), ([98], 1)] := by decide
set_option maxHeartbeats 4000000 in
theorem known9_any (w : World) : Calls Tryz.prog 14 #[] w fun e w' => e = .returned (.bool true) ∧ Below w.heap.size w w' := by
  have kc := conv_bytes9
  go_enter Tryz.func14, Tryz.ntmps14
  go_wp2_with fail
  obtain ⟨b0, hb0⟩ : ∃ b, w.heap.size = b := ⟨_, rfl⟩
  obtain ⟨w3, hw3⟩ : ∃ w3, (((w.alloc (.cells #[.int .u8 120, .int .u8 97, .int .u8 121] 5 (3, 4))).alloc (.cells #[.int .u8 97, .int .u8 121] 5 (2, 3))).alloc (.cells #[.string ⟨#[98]⟩, .slice (some ⟨b0, 0, none⟩) 3 3, .string ⟨#[97]⟩, .slice (some ⟨b0 + 1, 0, none⟩) 2 2] 36)).alloc (.cells #[.string ⟨#[99]⟩] 9) = w3 := ⟨_, rfl⟩
  have hB3 : Below w.heap.size w w3 := by
    rw [← hw3]
    refine ((((Below.refl _ w).alloc ?_ _).alloc ?_ _).alloc ?_ _).alloc ?_ _ <;> simp <;> omega
  have hs3 : w3.heap.size = b0 + 4 := by rw [← hw3]; simp; omega
  have h0 : w3.heap[b0]? = some (.cells #[.int .u8 120, .int .u8 97, .int .u8 121] 5 (3, 4)) := by
    rw [← hw3, ← hb0]; exact blk_alloc (blk_alloc (blk_alloc (World.alloc_heap_new w _) _) _) _
  have h1 : w3.heap[b0 + 1]? = some (.cells #[.int .u8 97, .int .u8 121] 5 (2, 3)) := by
    rw [← hw3]
    have := World.alloc_heap_new (w.alloc (.cells #[.int .u8 120, .int .u8 97, .int .u8 121] 5 (3, 4))) (.cells #[.int .u8 97, .int .u8 121] 5 (2, 3))
    rw [World.size_alloc, hb0] at this
    exact blk_alloc (blk_alloc this _) _
  have h2 : w3.heap[b0 + 1 + 1]? = some (.cells #[.string ⟨#[98]⟩, .slice (some ⟨b0, 0, none⟩) 3 3, .string ⟨#[97]⟩, .slice (some ⟨b0 + 1, 0, none⟩) 2 2] 36 (0, 0)) := by
    rw [← hw3]
    have := World.alloc_heap_new ((w.alloc (.cells #[.int .u8 120, .int .u8 97, .int .u8 121] 5 (3, 4))).alloc (.cells #[.int .u8 97, .int .u8 121] 5 (2, 3))) (.cells #[.string ⟨#[98]⟩, .slice (some ⟨b0, 0, none⟩) 3 3, .string ⟨#[97]⟩, .slice (some ⟨b0 + 1, 0, none⟩) 2 2] 36)
    rw [World.size_alloc, World.size_alloc, hb0] at this
    exact blk_alloc this _
  have h3 : w3.heap[b0 + 1 + 1 + 1]? = some (.cells #[.string ⟨#[99]⟩] 9 (0, 0)) := by
    rw [← hw3]
    have := World.alloc_heap_new (((w.alloc (.cells #[.int .u8 120, .int .u8 97, .int .u8 121] 5 (3, 4))).alloc (.cells #[.int .u8 97, .int .u8 121] 5 (2, 3))).alloc (.cells #[.string ⟨#[98]⟩, .slice (some ⟨b0, 0, none⟩) 3 3, .string ⟨#[97]⟩, .slice (some ⟨b0 + 1, 0, none⟩) 2 2] 36)) (.cells #[.string ⟨#[99]⟩] 9)
    rw [World.size_alloc, World.size_alloc, World.size_alloc, hb0] at this
    exact this
  have hDA : DArg w3 (some ⟨b0 + 1 + 1, 0, none⟩) 2 2 [⟨[98], some ⟨b0, 0, none⟩, 3, 3, [120, 97, 121]⟩, ⟨[97], some ⟨b0 + 1, 0, none⟩, 2, 2, [97, 121]⟩] := by
    refine ⟨rfl, by omega, nofun, sl_blkg h2 rfl, fun a ha => ?_, fun e he => ?_⟩
    · cases ha
      exact ⟨blk_lt h2, rfl⟩
    · simp at he
      rcases he with rfl | rfl
      · exact ⟨rfl, Nat.le_refl _, nofun, sl_blkg h0 rfl, (by decide : ∀ b ∈ ([120, 97, 121] : List Nat), b < 256)⟩
      · exact ⟨rfl, Nat.le_refl _, nofun, sl_blkg h1 rfl, (by decide : ∀ b ∈ ([97, 121] : List Nat), b < 256)⟩
  have hGA : GArg w3 (some ⟨b0 + 1 + 1 + 1, 0, none⟩) 1 1 oneG := by
    refine ⟨rfl, by omega, nofun, sl_blkg h3 rfl, fun a ha => ?_⟩
    cases ha
    exact ⟨blk_lt h3, rfl⟩
  have hLi : Lite twoD oneG := ⟨by decide, by decide⟩
  have HNw := Lib.hid (segnew_any w3 _ _ 2 2 1 1 _ oneG hDA hGA hLi)
  have HB3 := Lib.hid hB3
  rw [hb0, hw3]
  clear hw3 h0 h1 h2 h3 hDA hGA hB3 hs3 hb0 hLi
  refine HNw.out.mono ?_
  rintro e w4 (⟨-, x, sa, rfl, hSM, hB4⟩ | ⟨hR, -⟩)
  case inr => exact absurd (show Rise ([[98], [97]] ++ [[99]]) by decide) hR
  have hSM2 : SegM w4 w3.heap.size x twoS oneG sa := by
    rw [← sortD_two, ← srt_one]; exact hSM
  have HSM := Lib.hid (hSM2.mono HB3.out.size)
  have HB4 := Lib.hid (below_step HB3.out hB4)
  clear hSM hSM2 hB4 HNw
  go_wp2_with fail
  have hC5 := below_new w4 (.cells #[.int .u8 97, .int .u8 121] 5 (2, 3))
  have hS5 := HSM.out.below hC5
  have HFi := Lib.hid (findS_any hS5 (some ⟨w4.heap.size, 0, none⟩) 2 2 [97, 121] (sl_blkg (World.alloc_heap_new w4 _) rfl) rfl (by omega) (by decide) (by decide))
  rw [mats_two] at HFi
  have HS5 := Lib.hid hS5
  have HB5 := Lib.hid (HB4.out.trans (hC5.mono HB4.out.size))
  clear hS5 hC5
  refine HFi.out.mono ?_
  rintro e w6 ⟨A6, c6, rfl, hS6, hB6⟩
  have HS6 := Lib.hid hS6
  have HM6 := Lib.hid (HS5.out.below hB6)
  have HB6 := Lib.hid (below_step HB5.out hB6)
  clear hS6 hB6 HFi
  go_wp2_with fail
  have hC7 := below_new w6 (.cells #[.string ⟨#[97]⟩, .int .i64 0, .string ⟨#[98]⟩, .int .i64 1] 86)
  have HMa := Lib.hid (matches_true _ A6 (some ⟨w6.heap.size, 0, none⟩) 2 c6 2 [([97], 0), ([98], 1)] (HS6.out.below hC7) (sl_blkg (World.alloc_heap_new w6 _) rfl) rfl (by omega))
  refine HMa.out.mono ?_
  rintro e w7 ⟨rfl, q7, rfl⟩
  have hC8 := hC7.trans (below_drewN _ _ q7)
  have HM8 := Lib.hid (HM6.out.below hC8)
  have HB8 := Lib.hid (HB6.out.trans (hC8.mono HB6.out.size))
  clear HMa hC7 hC8
  generalize (w6.alloc (.cells #[.string ⟨#[97]⟩, .int .i64 0, .string ⟨#[98]⟩, .int .i64 1] 86)).drewN q7 = w8 at *
  have HGo := Lib.hid (goneS_any HM8.out (by decide))
  go_wp2_with fail
  refine HGo.out.mono ?_
  rintro e w9 ⟨v9, rfl, hown9, hB9⟩
  obtain ⟨A9, c9, rfl, hS9, -, -, -, -, -⟩ := own_form hown9
  have HS9 := Lib.hid hS9
  have HB9 := Lib.hid (below_step HB8.out hB9)
  clear hown9 hS9 hB9 HGo
  go_wp2_with fail
  have hCa := below_new w9 (.cells #[.string ⟨#[99]⟩] 9)
  have HTx := Lib.hid (texts_true _ A9 (some ⟨w9.heap.size, 0, none⟩) 1 c9 1 oneG (HS9.out.below hCa) (sl_blkg (World.alloc_heap_new w9 _) rfl) rfl (by omega))
  have HBa := Lib.hid (HB9.out.trans (hCa.mono HB9.out.size))
  clear hCa
  refine HTx.out.mono ?_
  rintro e wb ⟨rfl, qb, rfl⟩
  have HBb := Lib.hid (HBa.out.trans (below_drewN _ _ qb))
  go_wp2_with fail
  go_ret
  exact ⟨rfl, HBb.out⟩
end Go.Proofs.YtphccomhggnccaaGreat
/- The law SegmentOfNothing, walked. -/
namespace Go.Proofs.YtphccomhggnccaaGreat
set_option maxRecDepth 100000
set_option linter.unusedVariables false
set_option linter.unusedSimpArgs false
set_option maxRecDepth 100000
open Go.RowKit Sg Fm
theorem merge_nil (w : World) (b : Nat) (h : w.cell? ⟨b, 0, none⟩ = some (.pointer none)) :
    Calls Tryz.prog 28 #[.bool true, .slice (some ⟨b, 0, none⟩) 1 1] w fun e w' => e = .returned (.tuple #[.pointer none, .int .i64 1]) ∧ Below w.heap.size w w' := by
  have hmm := @run_makeMap Tryz.prog
  have hc := (World.cell?_of_block ((below_new w (.map #[] 0)).block b (World.block_lt_of_cell? w _ h))).trans h
  have hB := below_new w (.map #[] 0)
  go_enter Tryz.func28, Tryz.ntmps28
  go_wp2_with fail
  go_loopw [21] (fun q wr => q = .int .i64 0 ∧ wr = w.alloc (.map #[] 0)) (fun _ _ => 0)
  case atStart => exact ⟨rfl, rfl⟩
  case round =>
    obtain ⟨rfl, rfl⟩ := hrel
    go_wp2_with fail
    go_ret2
    exact ⟨rfl, hB⟩
set_option maxHeartbeats 2000000 in
theorem lawNothing9 (k : ByteArray) (A : Option Addr) (n c : Nat) (w : World) : Calls Tryz.prog 7 #[.string k, .slice A n c] w fun e w' => e = .returned (.bool true) ∧ Below w.heap.size w w' := by
  obtain ⟨kl, hkl⟩ : ∃ n, k.size = n := ⟨_, rfl⟩
  by_cases h0 : 1500 < RowKit.wrap64 ((kl : Int) + (n : Int))
  · go_enter Tryz.func7, Tryz.ntmps7
    go_wp2_with fail
    go_ret
    exact ⟨rfl, Below.refl _ _⟩
  have h1 := Lib.hid (fun w => getS_nil w (.string k))
  have h2 := Lib.hid (fun w b h => merge_nil w b h)
  have h3 := Lib.hid (fun w => keys_nil w)
  have h4 := Lib.hid (fun w => gone_nil w)
  have h5 := Lib.hid (fun w => findS_nil w (.slice A n c))
  have h6 := Lib.hid (fun w => encS_nil w)
  have h7 := Lib.hid (fun w => known9_any w)
  go_enter Tryz.func7, Tryz.ntmps7
  go_wp2_with fail
  go_at_call 29
  refine (h1.out _).mono ?_
  rintro e w1 ⟨rfl, hw⟩
  subst hw
  go_wp2_with fail
  go_at_call 28
  refine (h2.out _ _ (cell_blk (heap_alloc_new _ _) 0)).mono ?_
  rintro e w1 ⟨rfl, hB1⟩
  have HB1 := Lib.hid (below_next (below_new _ _) hB1)
  clear hB1
  go_wp2_with (first | (go_at_call 31; refine (h3.out _).mono ?_; rintro e w' ⟨rfl, hw⟩; subst hw) | (go_at_call 32; refine (h4.out _).mono ?_; rintro e w' ⟨rfl, hw⟩; subst hw) | (go_at_call 33; refine (h5.out _).mono ?_; rintro e w' ⟨rfl, hw⟩; subst hw) | (go_at_call 18; refine (h6.out _).mono ?_; rintro e w' ⟨rfl, hw⟩; subst hw))
  go_at_call 14
  refine (h7.out _).mono ?_
  rintro e w2 ⟨rfl, hB2⟩
  have HB2 := Lib.hid (below_step HB1.out hB2)
  go_wp2_with fail
  go_ret
  exact ⟨rfl, HB2.out⟩
end Go.Proofs.YtphccomhggnccaaGreat
