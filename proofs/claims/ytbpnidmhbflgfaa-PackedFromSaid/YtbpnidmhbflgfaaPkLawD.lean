/- The law PackedSets, walked. -/
import Derived.Test.YtbpnidmhbflgfaaPkLawC
import Derived.Deep.RegionHeld3
namespace Go.Proofs.Ytbpnidmhbflgfaa
set_option linter.unusedVariables false
set_option linter.unusedSimpArgs false
open Go.RowKit PkMath

theorem refNew_arg (k n : Int) (w : World) (h : k < 1 ∨ 64 < k ∨ n < 0) :
    Calls Try.prog 14 #[.int .i64 k, .int .i64 n] w fun e w' => e = .returned (.tuple #[.slice none 0 0, .int .i64 1]) ∧ w = w' := by
  by_cases h1 : k < 1
  · go_enter Try.func14, Try.ntmps14
    go_wp2
    go_ret2
    exact ⟨rfl, rfl⟩
  · by_cases h2 : 64 < k
    · go_enter Try.func14, Try.ntmps14
      go_wp2
      go_ret2
      exact ⟨rfl, rfl⟩
    · have h3 : n < 0 := by omega
      clear h
      go_enter Try.func14, Try.ntmps14
      go_wp2
      go_ret2
      exact ⟨rfl, rfl⟩
theorem refNew_in (k n : Nat) (w : World) (h1 : 1 ≤ k) (h2 : k ≤ 64) (h3 : n ≤ 1048576) :
    Calls Try.prog 14 #[.int .i64 (k : Int), .int .i64 (n : Int)] w fun e w' => e = .returned (.tuple #[.slice (some ⟨w.heap.size, 0, none⟩) n n, .int .i64 0]) ∧ w' = w.alloc (.cells (U (List.replicate n 0)) 25) := by
  have hmk := make_u64 n (by omega)
  go_enter Try.func14, Try.ntmps14
  go_wp2
  go_ret2
  exact ⟨rfl, rfl⟩

/-- may a number be set? -/
def okS (k : Nat) (l : List Nat) (i : Int) (v : Nat) : Bool := decide (0 ≤ i ∧ i < (l.length : Int) ∧ v < 2 ^ k)
def setR (k : Nat) (l : List Nat) (i : Int) (v : Nat) : Int := if okS k l i v then 0 else 1
def setL (k : Nat) (l : List Nat) (i : Int) (v : Nat) : List Nat := if okS k l i v then l.set i.toNat v else l
theorem setL_length (k : Nat) (l : List Nat) (i : Int) (v : Nat) : (setL k l i v).length = l.length := by unfold setL; split <;> simp

def SetPost (w : World) (b g k : Nat) (l : List Nat) (i : Int) (v : Nat) (e : Ending) (w' : World) : Prop :=
  e = .returned (.int .i64 (setR k l i v)) ∧ PArr w' b g k (setL k l i v) ∧ w.grownBy w' (some g)
theorem set_any {w : World} {b g k : Nat} {l : List Nat} (h : PArr w b g k l) (i : Int) (v : Nat) (hv : v < 2 ^ 64) :
    Calls Try.prog 15 #[.pointer (some ⟨b, 0, none⟩), .int .i64 i, .int .u64 (v : Int)] w (SetPost w b g k l i v) := by
  by_cases hok : 0 ≤ i ∧ i < (l.length : Int) ∧ v < 2 ^ k
  · obtain ⟨j, rfl⟩ : ∃ j : Nat, i = (j : Int) := ⟨i.toNat, by omega⟩
    refine (set_in h j v (by omega) hok.2.2).mono fun e w' ⟨he, hP, hg⟩ => ⟨?_, ?_, hg⟩
    · rw [he]; simp [setR, okS, hok]
    · simpa [setL, okS, hok] using hP
  · refine (set_not h i v hv (by omega)).mono fun e w' ⟨he, hw⟩ => ?_
    subst hw
    exact ⟨by rw [he]; simp only [setR, okS, hok, decide_false]; rfl, by simp only [setL, okS, hok, decide_false]; exact h, grown_refl _ _⟩

def RefSetPost (w : World) (r k : Nat) (l : List Nat) (i : Int) (v : Nat) (e : Ending) (w' : World) : Prop :=
  e = .returned (.int .i64 (setR k l i v)) ∧ w'.heap[r]? = some (.cells (U (setL k l i v)) 25 (0, 0)) ∧ w.grownBy w' (some r)
theorem refSet_any {w : World} {r k n : Nat} {l : List Nat} (h : w.heap[r]? = some (.cells (U l) 25 (0, 0))) (hl : l.length = n) (h1 : 1 ≤ k) (h2 : k ≤ 64) (hn : n ≤ 1048576) (i : Int) (v : Nat) (hv : v < 2 ^ 64) :
    Calls Try.prog 16 #[.int .i64 (k : Int), .slice (some ⟨r, 0, none⟩) n n, .int .i64 i, .int .u64 (v : Int)] w (RefSetPost w r k l i v) := by
  by_cases hi : 0 ≤ i ∧ i < (n : Int)
  · obtain ⟨j, rfl⟩ : ∃ j : Nat, i = (j : Int) := ⟨i.toNat, by omega⟩
    have hjn : j < n := by omega
    by_cases hf : v < 2 ^ k
    · have hd : decide (v < 2 ^ k) = true := by simpa using hf
      have hc : w.cell? ⟨r, j, none⟩ = some (.int .u64 ((l.getD j 0 : Nat) : Int)) := by rw [cell_blk h, U_get _ _ (by omega)]
      have hfr := frozen_blk h j
      have hok : okS k l (j : Int) v = true := by simp [okS, hf]; omega
      have Hok := Lib.hid hok
      have Hh := Lib.hid h
      have Hv := Lib.hid hv
      clear hf hok h hv hl
      go_enter Try.func16, Try.ntmps16
      go_wp2_with fail
      refine (fits_any k v _ h1 h2 Hv.out).mono ?_
      rintro e w' ⟨rfl, rfl⟩
      go_wp2_with fail
      go_ret
      refine ⟨?_, ?_, grown_set _ _ _ _⟩
      · simp only [setR, Hok.out, if_true]; rfl
      · have := blk_set Hh.out j (.int .u64 (v : Int))
        rw [U_set] at this
        simpa only [setL, Hok.out, if_true, Int.toNat_natCast] using this
    · have hd : decide (v < 2 ^ k) = false := by simpa using hf
      have hok : okS k l (j : Int) v = false := by simp [okS]; intro _; omega
      have Hok := Lib.hid hok
      have Hh := Lib.hid h
      have Hv := Lib.hid hv
      clear hf hok h hv hl
      go_enter Try.func16, Try.ntmps16
      go_wp2_with fail
      refine (fits_any k v _ h1 h2 Hv.out).mono ?_
      rintro e w' ⟨rfl, rfl⟩
      go_wp2_with fail
      go_ret
      refine ⟨?_, ?_, grown_refl _ _⟩
      · simp only [setR, Hok.out]; rfl
      · simp only [setL, Hok.out]; exact Hh.out
  · have hok : okS k l i v = false := by simp [okS]; omega
    have Hok := Lib.hid hok
    have Hh := Lib.hid h
    clear hok h hl
    by_cases hneg : i < 0
    all_goals
      go_enter Try.func16, Try.ntmps16
      go_wp2_with fail
      go_ret
      refine ⟨?_, ?_, grown_refl _ _⟩
      · simp only [setR, Hok.out]; rfl
      · simp only [setL, Hok.out]; exact Hh.out

def BlkRes (w : World) (xs : List Nat) (e : Ending) (w' : World) : Prop :=
  ∃ g cap cur, e = .returned (.slice (some ⟨g, 0, none⟩) xs.length cap) ∧ w.heap.size ≤ g ∧ w'.heap[g]? = some (.cells cur 25 (0, 0)) ∧ cur.toList.take xs.length = V xs ∧ Below w.heap.size w w'
theorem clone_blk (a : Addr) (xs : List Nat) (n c : Nat) (w : World) (hn : xs.length = n) (hs : Sl w (some a) (V xs)) (hlen : n ≤ 1099511627776) :
    Calls Try.prog 29 #[.slice (some a) n c] w (BlkRes w xs) := by
  have heq := fun wx : World => Lib.run_eql_slice_nil (P := Try.prog) wx 22 25 (some a) n c 0 0 Try.underlying22
  simp only [Option.isNone_some] at heq
  go_enter Try.func29, Try.ntmps29
  go_wp2_with (at_builtin; refine app_u64 rfl _ _ rfl w.heap.size _ [] rfl (World.ownsRow_made w #[] 0 (Nat.le_refl _) (by decide) (by simp)) (some a) n c xs rfl (fun h => by cases h) hn (hs.below ((Below.refl _ w).alloc (Nat.le_refl _) _)) (by simpa using hlen) (by simp) ?_; intro v' w1 hown1 hgrow hnil)
  obtain ⟨g, cap, cur, rfl, hg, hblk, hcap, hcs, htake⟩ := own_blk hown1 (fun e => by have := (hnil.1 e).1; cases this)
  rw [List.nil_append] at htake ⊢
  go_ret
  refine ⟨g, cap, cur, rfl, hg, hblk, htake, ?_⟩
  exact ((Below.refl _ w).alloc (Nat.le_refl _) _).grown hgrow (by simp) (fun k hk => by have hk' : some w.heap.size = some k := hk; injection hk' with hk'; omega)
theorem words_blk {w : World} {b g k : Nat} {l : List Nat} (h : PArr w b g k l) :
    Calls Try.prog 17 #[.pointer (some ⟨b, 0, none⟩)] w (BlkRes w (canon k l)) := by
  have h2 := h.c2
  have hsl : Sl w (some ⟨g, 0, none⟩) (V (canon k l)) := sl_blk h.ws
  have hlen : (canon k l).length ≤ 1099511627776 := by
    have hkl : k * l.length ≤ 64 * 1048576 := Nat.mul_le_mul h.k64 h.len
    rw [canon_length]; omega
  have Hl := Lib.hid hlen
  clear hlen
  go_enter Try.func17, Try.ntmps17
  go_wp2_with fail
  refine (clone_blk _ (canon k l) _ _ _ rfl hsl Hl.out).mono ?_
  rintro e w' ⟨g', cap, cur, rfl, hr⟩
  go_wp2_with fail
  go_ret
  exact ⟨g', cap, cur, rfl, hr⟩

/-- a slice of steps that came in -/
structure Steps2 (w : World) (A : Option Addr) (l : List (Int × Nat)) : Prop where
  nil : A = none → l = []
  lt : ∀ x ∈ l, x.2 < 2 ^ 64
  old : ∀ a, A = some a → l ≠ [] → a.block < w.heap.size ∧ a.spot = none
  fst : ∀ a, A = some a → ∀ j, j < l.length → w.cell? ⟨a.block, a.off + j * 2, none⟩ = some (.int .i64 (l.getD j (0, 0)).1)
  snd : ∀ a, A = some a → ∀ j, j < l.length → w.cell? ⟨a.block, a.off + j * 2 + 1, none⟩ = some (.int .u64 (((l.getD j (0, 0)).2 : Nat) : Int))
theorem add_block (a : Addr) (j : Nat) : (a.add j).block = a.block := by unfold Addr.add; split <;> rfl
theorem Steps2.below {w w' : World} {A : Option Addr} {l : List (Int × Nat)} (h : Steps2 w A l) (hb : Below w.heap.size w w') : Steps2 w' A l := by
  refine ⟨h.nil, h.lt, fun a ha hl => ⟨Nat.lt_of_lt_of_le (h.old a ha hl).1 hb.size, (h.old a ha hl).2⟩, fun a ha j hj => ?_, fun a ha j hj => ?_⟩
  · exact (World.cell?_of_block (w := w) (a := ⟨a.block, a.off + j * 2, none⟩) (hb.block _ (h.old a ha (by intro e; subst e; simp at hj)).1)).trans (h.fst a ha j hj)
  · exact (World.cell?_of_block (w := w) (a := ⟨a.block, a.off + j * 2 + 1, none⟩) (hb.block _ (h.old a ha (by intro e; subst e; simp at hj)).1)).trans (h.snd a ha j hj)
theorem Steps2.some {w : World} {A : Option Addr} {l : List (Int × Nat)} (h : Steps2 w A l) {j : Nat} (hj : j < l.length) :
    ∃ b off, A = Option.some ⟨b, off, none⟩ ∧ b < w.heap.size ∧ w.cell? ⟨b, off + j * 2, none⟩ = Option.some (.int .i64 (l.getD j (0, 0)).1) ∧ w.cell? ⟨b, off + j * 2 + 1, none⟩ = Option.some (.int .u64 (((l.getD j (0, 0)).2 : Nat) : Int)) := by
  cases A with
  | none => rw [h.nil rfl] at hj; exact absurd hj (Nat.not_lt_zero _)
  | some a =>
    have ho := h.old a rfl (by intro e; subst e; simp at hj)
    obtain ⟨b, off, sp⟩ := a
    obtain rfl : sp = none := ho.2
    exact ⟨b, off, rfl, ho.1, h.fst _ rfl j hj, h.snd _ rfl j hj⟩

/-- the row behind the first j steps -/
def runS (k : Nat) (l : List Nat) : List (Int × Nat) → List Nat
  | [] => l
  | x :: r => runS k (setL k l x.1 x.2) r
theorem runS_length (k : Nat) (s : List (Int × Nat)) : ∀ l : List Nat, (runS k l s).length = l.length := by
  induction s with
  | nil => intro l; rfl
  | cons x r ih => intro l; simp only [runS, ih, setL_length]
theorem runS_snoc (k : Nat) (s : List (Int × Nat)) (x : Int × Nat) : ∀ l : List Nat, runS k l (s ++ [x]) = setL k (runS k l s) x.1 x.2 := by
  induction s with
  | nil => intro l; rfl
  | cons y r ih => intro l; simp only [List.cons_append, runS, ih]

theorem lawSets (k0 n0 : Int) (A : Option Addr) (t c : Nat) (s : List (Int × Nat)) (w : World) (hS : Steps2 w A s) (hs : s.length = t) :
    Calls Try.prog 4 #[.int .i64 k0, .int .i64 n0, .slice A t c] w (TrueBelow w) := by
  by_cases hbig : 500 < n0
  · go_enter Try.func4, Try.ntmps4
    go_wp2_with fail
    go_ret
    exact ⟨rfl, Below.refl _ _⟩
  by_cases hbig2 : 200 < t
  · go_enter Try.func4, Try.ntmps4
    go_wp2_with fail
    go_ret
    exact ⟨rfl, Below.refl _ _⟩
  by_cases hbad : k0 < 1 ∨ 64 < k0 ∨ n0 < 0
  · go_enter Try.func4, Try.ntmps4
    go_wp2_with fail
    refine (new_arg k0 n0 _ hbad).mono ?_
    rintro e w' ⟨rfl, rfl⟩
    go_wp2_with fail
    refine (refNew_arg k0 n0 _ hbad).mono ?_
    rintro e w' ⟨rfl, rfl⟩
    go_wp2_with fail
    refine (known_any _).mono ?_
    rintro e w1 ⟨rfl, hB⟩
    go_wp2_with fail
    go_ret
    exact ⟨rfl, hB⟩
  obtain ⟨k, rfl⟩ : ∃ k : Nat, k0 = (k : Int) := ⟨k0.toNat, by omega⟩
  obtain ⟨n, rfl⟩ : ∃ n : Nat, n0 = (n : Int) := ⟨n0.toNat, by omega⟩
  have hk1 : 1 ≤ k := by omega
  have hk2 : k ≤ 64 := by omega
  have hn : n ≤ 500 := by omega
  have Hs := Lib.hid hs
  clear hbad hs hbig
  go_enter Try.func4, Try.ntmps4
  go_wp2_with fail
  refine (new_in k n _ hk1 hk2 (by omega)).mono ?_
  rintro e w1 ⟨rfl, hP, hB1, hz⟩
  clear hz
  go_wp2_with fail
  refine (refNew_in k n _ hk1 hk2 (by omega)).mono ?_
  rintro e w2 ⟨rfl, hw2⟩
  have hr : w2.heap[w1.heap.size]? = some (.cells (U (List.replicate n 0)) 25 (0, 0)) := by rw [hw2]; exact heap_alloc_new w1 _
  have hB12 : Below w1.heap.size w1 w2 := by rw [hw2]; exact (Below.refl _ _).alloc (Nat.le_refl _) _
  have hP2 := hP.below hB12
  have hB2 := below_trans hB1 hB12
  have hgr : w.heap.size < w1.heap.size := blk_lt hP.ws
  have hbr : w.heap.size + 1 < w1.heap.size := blk_lt hP.hd
  generalize hrr : w1.heap.size = r at *
  clear hw2 hB12 hP hB1 hrr
  go_wp2_with fail
  go_loopw [11] (fun i wr => ∃ j : Nat, j ≤ t ∧ i = .int .i64 (j : Int) ∧ PArr wr (w.heap.size + 1) w.heap.size k (runS k (List.replicate n 0) (s.take j)) ∧
    Hid (wr.heap[r]? = some (.cells (U (runS k (List.replicate n 0) (s.take j))) 25 (0, 0))) ∧ Below w.heap.size w wr) (fun i _ => t - (intOf i).toNat)
  case atStart => exact ⟨0, Nat.zero_le _, rfl, by rw [List.take_zero]; exact hP2, by rw [List.take_zero]; exact hr, hB2⟩
  case round =>
    clear hP2 hr hB2
    obtain ⟨j, hj, rfl, hP, hr, hB⟩ := hrel
    have hlen : (runS k (List.replicate n 0) (s.take j)).length = n := by rw [runS_length, List.length_replicate]
    have Hlen := Lib.hid hlen
    clear hlen
    by_cases hlt : j < t
    · have hjs : j < s.length := by rw [Hs.out]; exact hlt
      obtain ⟨ab, ao, rfl, hold0, h01, h02⟩ := hS.some hjs
      have hS1 := hS.below hB
      have h1 := hS1.fst _ rfl j hjs
      have h2 := hS1.snd _ rfl j hjs
      clear h01 h02 hS1
      have hv : (s.getD j (0, 0)).2 < 2 ^ 64 := by
        rw [List.getD, List.getElem?_eq_getElem (by rw [Hs.out]; exact hlt)]; exact hS.lt _ (List.getElem_mem _)
      have Hv := Lib.hid hv
      have hstep : runS k (List.replicate n 0) (s.take (j + 1)) = setL k (runS k (List.replicate n 0) (s.take j)) (s.getD j (0, 0)).1 (s.getD j (0, 0)).2 := by
        rw [List.take_succ_eq_append_getElem (by rw [Hs.out]; exact hlt), runS_snoc]
        simp [List.getD, List.getElem?_eq_getElem (show j < s.length by rw [Hs.out]; exact hlt)]
      have Hstep := Lib.hid hstep
      clear hstep hv
      generalize (s.getD j (0, 0)).1 = x at *
      generalize (s.getD j (0, 0)).2 = v at *
      generalize runS k (List.replicate n 0) (s.take j) = cur at *
      have n1 : some ab ≠ some w.heap.size := by intro e; injection e with e; omega
      have n3 : some ab ≠ some r := by intro e; injection e with e; omega
      have hr' : wr.drew.heap[r]? = some (.cells (U cur) 25 (0, 0)) := hr.out
      have hnr : some r ≠ some w.heap.size := by intro e; injection e with e; omega
      go_wp2_with fail
      go_region_held3 (fun w' => w'.cell? ⟨ab, ao + j * 2, none⟩ = some (.int .i64 x) ∧ w'.cell? ⟨ab, ao + j * 2 + 1, none⟩ = some (.int .u64 (v : Int)))
        (first | exact ⟨h1, h2⟩ | exact ⟨World.grownBy.cell hg4 (World.grownBy.cell hg3 h1 n1) n3, World.grownBy.cell hg4 (World.grownBy.cell hg3 h2 n1) n3⟩ | exact ⟨World.grownBy.cell hg3 h1 n1, World.grownBy.cell hg3 h2 n1⟩)
        (first | (go_at_call 15; refine (set_any (w := wr.drew) (hP.kept rfl rfl) x v Hv.out).mono ?_; rintro e w3 ⟨rfl, hP3, hg3⟩) | (go_at_call 16; refine (refSet_any (grown_blk hg3 hr' hnr) Hlen.out hk1 hk2 (by omega) x v Hv.out).mono ?_; rintro e w4 ⟨rfl, hr4, hg4⟩))
      have hP4 := hP3.grown hg4 (by intro e; injection e with e; omega) (by intro e; injection e with e; omega)
      have hB4 : Below w.heap.size w w4 := (hB.drew.grown hg3 hB.size (fun q hq => by injection hq with hq; omega)).grown hg4 (by have := hB.size; have := hg3.size; have e : wr.drew.heap.size = wr.heap.size := rfl; omega) (fun q hq => by injection hq with hq; omega)
      clear hP hr hB hr' hP3 hg3 hg4
      go_wp2_with fail
      refine (words_blk hP4).mono ?_
      rintro e w5 ⟨q, cap, xur, rfl, hq, hblk, htake, hB5⟩
      have hN := NumBlk.of_take hblk htake rfl
      have hP5 := hP4.below hB5
      have hr5 : w5.heap[r]? = some (.cells (U (setL k cur x v)) 25 (0, 0)) := (hB5.block r (blk_lt hr4)).trans hr4
      have hB6 := below_trans hB4 hB5
      have hqr : ¬ r = q := by have := blk_lt hr4; omega
      have hqb : ¬ w.heap.size + 1 = q := by have := blk_lt hP4.hd; omega
      have hqg : ¬ w.heap.size = q := by have := blk_lt hP4.ws; omega
      have hqw : w.heap.size ≤ q := by have := hB4.size; omega
      have hmm : (canon k (setL k cur x v)).length ≤ 100000 := by
        have h5 : k * (setL k cur x v).length ≤ 64 * 500 := Nat.mul_le_mul hk2 (by rw [setL_length, Hlen.out]; exact hn)
        rw [canon_length]; omega
      generalize (canon k (setL k cur x v)).length = m at *
      obtain ⟨wo, rfl⟩ : ∃ wo : World, wo = wr := ⟨_, rfl⟩
      clear hP4 hr4 hB4 hB5 hblk htake hq
      go_wp2_with fail
      go_loopw [13] (fun i wr => ∃ z : Nat, z ≤ m ∧ i = .int .i64 (z : Int) ∧ NumBlk wr q m ∧ PArr wr (w.heap.size + 1) w.heap.size k (setL k cur x v) ∧ Hid (wr.heap[r]? = some (.cells (U (setL k cur x v)) 25 (0, 0))) ∧ Below w.heap.size w wr) (fun i _ => m - (intOf i).toNat)
      case atStart => exact ⟨0, Nat.zero_le _, rfl, hN, hP5, hr5, hB6⟩
      case round =>
        clear hN hP5 hr5 hB6
        obtain ⟨z, hz, rfl, hN, hP, hr, hB⟩ := hrel
        by_cases hlz : z < m
        · obtain ⟨y, hy, hfr⟩ := hN.cell hlz
          go_wp2_with fail
          go_roundw
          case rel => exact ⟨z + 1, by omega, by go_num, hN.set z _, hP.kept (Below.heap_setCell _ _ _ _ hqb) (Below.heap_setCell _ _ _ _ hqg), blk_other hr.out hqr _ _, hB.setCell hqw _⟩
          case measure => simp [intOf]; omega
        · go_wp2_with fail
          go_roundw
          case rel => exact ⟨j + 1, by omega, by go_num, by rw [Hstep.out]; exact hP, by rw [Hstep.out]; exact hr, hB⟩
          case measure => simp [intOf]; omega
    · obtain rfl : j = t := by omega
      have hsr : Sl wr (some ⟨r, 0, none⟩) (V (runS k (List.replicate n 0) (s.take j))) := sl_blk hr.out
      go_wp2_with fail
      refine (alike_any hP _ n n hsr Hlen.out).mono ?_
      rintro e w3 ⟨rfl, hB3⟩
      go_wp2_with fail
      refine (known_any _).mono ?_
      rintro e w4 ⟨rfl, hB4⟩
      go_wp2_with fail
      go_ret
      exact ⟨rfl, below_trans (below_trans hB hB3) hB4⟩

end Go.Proofs.Ytbpnidmhbflgfaa
