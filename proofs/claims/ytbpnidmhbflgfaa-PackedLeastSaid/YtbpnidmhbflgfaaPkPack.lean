/- packed: Pack; haystackref3: Pack. -/
import Derived.Test.YtbpnidmhbflgfaaPkRef
import Derived.Test.YtbpnidmhbflgfaaShelf
namespace Go.Proofs.Ytbpnidmhbflgfaa
set_option linter.unusedVariables false
set_option linter.unusedSimpArgs false
open Go.RowKit PkMath

theorem bitLen_le : ∀ (k x : Nat), x < 2 ^ 64 → (Lib.bitLen x ≤ k ↔ x < 2 ^ k) := by
  intro k
  induction k with
  | zero =>
    intro x hx
    by_cases h0 : x = 0
    · subst h0; simp [Lib.bitLen, Lib.bitLenAux]
    · rw [Lib.bitLen_half x h0 hx]; simp; omega
  | succ k ih =>
    intro x hx
    by_cases h0 : x = 0
    · subst h0; simp [Lib.bitLen, Lib.bitLenAux, Nat.two_pow_pos]
    · rw [Lib.bitLen_half x h0 hx, Nat.pow_succ]
      have := ih (x / 2) (by omega)
      omega
/-- the digits that a row's greatest number needs, one at least -/
def wid : List Nat → Nat
  | [] => 1
  | x :: r => max (Lib.bitLen x) (wid r)
def widTo (l : List Nat) (j : Nat) : Nat := wid (l.take j)
theorem wid_snoc (l : List Nat) (x : Nat) : wid (l ++ [x]) = max (wid l) (Lib.bitLen x) := by
  induction l with
  | nil => simp [wid, Nat.max_comm]
  | cons a r ih => simp only [List.cons_append, wid, ih]; omega
theorem widTo_succ (l : List Nat) (j : Nat) (h : j < l.length) : widTo l (j + 1) = max (widTo l j) (Lib.bitLen (l.getD j 0)) := by
  unfold widTo
  rw [List.take_succ_eq_append_getElem h, wid_snoc]
  simp [List.getD, List.getElem?_eq_getElem h]
theorem wid_lo (l : List Nat) : 1 ≤ wid l := by
  induction l with
  | nil => simp [wid]
  | cons a r ih => simp only [wid]; omega
theorem wid_hi (l : List Nat) (h : ∀ x ∈ l, x < 2 ^ 64) : wid l ≤ 64 := by
  induction l with
  | nil => simp [wid]
  | cons a r ih =>
    simp only [wid]
    have h1 := (bitLen_le 64 a (h a (List.mem_cons_self ..))).2 (h a (List.mem_cons_self ..))
    have := ih fun x hx => h x (List.mem_cons_of_mem _ hx)
    omega
theorem wid_fits (l : List Nat) (h : ∀ x ∈ l, x < 2 ^ 64) : ∀ x ∈ l, x < 2 ^ wid l := by
  induction l with
  | nil => intro x hx; cases hx
  | cons a r ih =>
    intro x hx
    simp only [wid]
    rcases List.mem_cons.1 hx with rfl | hx
    · exact (bitLen_le _ x (h x (List.mem_cons_self ..))).1 (by omega)
    · exact Nat.lt_of_lt_of_le (ih (fun y hy => h y (List.mem_cons_of_mem _ hy)) x hx) (Nat.pow_le_pow_right (by decide) (by omega))
theorem widTo_zero (l : List Nat) : widTo l 0 = 1 := by simp [widTo, wid]
theorem widTo_all (l : List Nat) : widTo l l.length = wid l := by simp [widTo]
theorem widTo_lo (l : List Nat) (j : Nat) : 1 ≤ widTo l j := wid_lo _
theorem widTo_hi (l : List Nat) (j : Nat) (h : ∀ x ∈ l, x < 2 ^ 64) : widTo l j ≤ 64 := wid_hi _ fun x hx => h x (List.mem_of_mem_take hx)

/-- the row of which the first j numbers are laid -/
def upd (l : List Nat) (j : Nat) : List Nat := l.take j ++ List.replicate (l.length - j) 0
theorem upd_zero (l : List Nat) : upd l 0 = List.replicate l.length 0 := by simp [upd]
theorem upd_all (l : List Nat) : upd l l.length = l := by simp [upd]
theorem upd_length (l : List Nat) (j : Nat) (h : j ≤ l.length) : (upd l j).length = l.length := by simp [upd]; omega
theorem upd_succ (l : List Nat) (j : Nat) (h : j < l.length) : (upd l j).set j (l.getD j 0) = upd l (j + 1) := by
  apply List.ext_getElem?
  intro i
  rw [List.getElem?_set]
  unfold upd
  have e1 : (l.take j).length = j := by simp; omega
  have e2 : (l.take (j + 1)).length = j + 1 := by simp; omega
  by_cases hij : j = i
  · subst hij
    have : j < (l.take j ++ List.replicate (l.length - j) 0).length := by simp; omega
    rw [if_pos rfl, if_pos this, List.getElem?_append_left (by omega)]
    simp [List.getD, List.getElem?_eq_getElem h]
  · rw [if_neg hij]
    by_cases hlt : i < j
    · rw [List.getElem?_append_left (by omega), List.getElem?_append_left (by omega), List.getElem?_take, List.getElem?_take, if_pos hlt, if_pos (by omega)]
    · rw [List.getElem?_append_right (by omega), List.getElem?_append_right (by omega), List.getElem?_replicate, List.getElem?_replicate, e1, e2]
      by_cases hl : i < l.length
      · rw [if_pos (by omega), if_pos (by omega)]
      · rw [if_neg (by omega), if_neg (by omega)]

def Made (k : Nat) (l : List Nat) (w : World) (e : Ending) (w' : World) : Prop :=
  ∃ b g, e = .returned (.pointer (some ⟨b, 0, none⟩)) ∧ PArr w' b g k l ∧ w.heap.size ≤ b ∧ w.heap.size ≤ g ∧ Below w.heap.size w w'

theorem pack_any (A : Option Addr) (l : List Nat) (n c : Nat) (w : World) (hA : Sl w A (V l)) (hl : l.length = n) (hc : n ≤ c) (hn : n ≤ 1048576) (hlt' : ∀ x ∈ l, x < 2 ^ 64) :
    Calls Try.prog 9 #[.slice A n c] w (Made (wid l) l w) := by
  have Hl := Lib.hid hl
  have HO := Lib.hid hlt'
  clear hl hlt'
  have hmin : min (n : Int) 1048576 = (n : Int) := by omega
  go_enter Try.func9, Try.ntmps9
  go_wp2_with fail
  go_loop [3, 17] (fun k i => ∃ j : Nat, j ≤ n ∧ i = .int .i64 (j : Int) ∧ k = .int .i64 ((widTo l j : Nat) : Int)) (fun _ i => n - (intOf i).toNat)
  case atStart => exact ⟨0, Nat.zero_le _, rfl, by rw [widTo_zero]; rfl⟩
  case round =>
    obtain ⟨j, hj, rfl, rfl⟩ := hrel
    by_cases hlt : j < n
    · obtain ⟨a, rfl, hca⟩ := hA.some (j := j) (by rw [V_length, Hl.out]; exact hlt)
      rw [V_get _ _ (by rw [Hl.out]; exact hlt)] at hca
      have hx64 : l.getD j 0 < 2 ^ 64 := by
        rw [List.getD, List.getElem?_eq_getElem (by rw [Hl.out]; exact hlt)]; exact HO.out _ (List.getElem_mem _)
      have hsucc := Lib.hid (widTo_succ l j (by rw [Hl.out]; exact hlt))
      have h1 := widTo_hi l j HO.out
      have h2 := (bitLen_le 64 _ hx64).2 hx64
      have HX := Lib.hid hx64
      generalize hx : l.getD j 0 = x at *
      clear hx hx64
      go_wp2_with fail
      refine (Try.bits_Len64 _ _ (by omega) (by have := HX.out; omega)).mono ?_
      rw [Int.toNat_natCast]
      rintro e w' ⟨rfl, rfl⟩
      go_wp2_with fail
      go_round
      case rel => exact ⟨j + 1, by omega, by go_num, by rw [hsucc.out]; go_num⟩
      case measure => simp [intOf]; omega
    · obtain rfl : j = n := by omega
      have hk1 := widTo_lo l j
      have hk2 := widTo_hi l j HO.out
      have hw : widTo l j = wid l := by rw [← Hl.out, widTo_all]
      rw [hw] at hk1 hk2 ⊢
      clear hw
      have HF := Lib.hid (wid_fits l HO.out)
      obtain ⟨k, hk⟩ : ∃ k, wid l = k := ⟨_, rfl⟩
      rw [hk] at hk1 hk2 HF ⊢
      have Hk := Lib.hid hk
      clear hk
      go_wp2_with fail
      refine (new_in k j _ hk1 hk2 hn).mono ?_
      rintro e w1 ⟨rfl, hP, hB, hz⟩
      go_wp2_with fail
      go_loopw [35] (fun i wr => ∃ m : Nat, m ≤ j ∧ i = .int .i64 (m : Int) ∧ PArr wr (w.heap.size + 1) w.heap.size k (upd l m) ∧ Below w.heap.size w wr) (fun i _ => j - (intOf i).toNat)
      case atStart => exact ⟨0, Nat.zero_le _, rfl, by rw [upd_zero, Hl.out]; exact hP, hB⟩
      case round =>
        clear hP hB hz
        obtain ⟨m, hm, rfl, hP, hB⟩ := hrel
        by_cases hlt2 : m < j
        · obtain ⟨a, rfl, hca0⟩ := hA.some (j := m) (by rw [V_length, Hl.out]; exact hlt2)
          rw [V_get _ _ (by rw [Hl.out]; exact hlt2)] at hca0
          have hca := ((hA.below hB).cell a rfl m _ (V_get l m (by rw [Hl.out]; exact hlt2)))
          clear hca0
          have hsucc := Lib.hid (upd_succ l m (by rw [Hl.out]; exact hlt2))
          have hfit : l.getD m 0 < 2 ^ k := by
            rw [List.getD, List.getElem?_eq_getElem (by rw [Hl.out]; exact hlt2)]; exact HF.out _ (List.getElem_mem _)
          have HFx := Lib.hid hfit
          generalize hx : l.getD m 0 = x at *
          clear hx hfit
          go_wp2_with fail
          refine (set_in hP m x (by rw [upd_length _ _ (by rw [Hl.out]; exact hm), Hl.out]; exact hlt2) HFx.out).mono ?_
          rintro e w2 ⟨rfl, hP2, hg⟩
          go_wp2_with fail
          go_roundw
          case rel => exact ⟨m + 1, by omega, by go_num, by rw [← hsucc.out]; exact hP2, hB.grown hg hB.size (fun q hq => by have : some w.heap.size = some q := hq; injection this with this; omega)⟩
          case measure => simp [intOf]; omega
        · obtain rfl : m = j := by omega
          go_wp2_with fail
          go_ret
          exact ⟨_, _, rfl, by rw [← Hl.out, upd_all] at hP; rw [Hk.out]; exact hP, by omega, Nat.le_refl _, hB⟩

def RefPacked (w : World) (l : List Nat) (e : Ending) (w' : World) : Prop :=
  ∃ v, e = .returned (.tuple #[.int .i64 ((wid l : Nat) : Int), v]) ∧ w'.ownsRow w.heap.size 25 1 v l.length (V l) ∧ Below w.heap.size w w'

theorem refPack_any (A : Option Addr) (l : List Nat) (n c : Nat) (w : World) (hA : Sl w A (V l)) (hl : l.length = n) (hcn : A = none → c = 0) (hn : n ≤ 1048576) (hlt' : ∀ x ∈ l, x < 2 ^ 64) :
    Calls Try.prog 10 #[.slice A n c] w (RefPacked w l) := by
  have Hl := Lib.hid hl
  have HO := Lib.hid hlt'
  have Hc := Lib.hid hcn
  clear hl hlt' hcn
  go_enter Try.func10, Try.ntmps10
  go_wp2_with fail
  go_loop [4, 5] (fun k i => ∃ j : Nat, j ≤ n ∧ i = .int .i64 (j : Int) ∧ k = .int .i64 ((widTo l j : Nat) : Int)) (fun _ i => n - (intOf i).toNat)
  case atStart => exact ⟨0, Nat.zero_le _, rfl, by rw [widTo_zero]; rfl⟩
  case round =>
    obtain ⟨j, hj, rfl, rfl⟩ := hrel
    by_cases hlt : j < n
    · obtain ⟨a, rfl, hca⟩ := hA.some (j := j) (by rw [V_length, Hl.out]; exact hlt)
      rw [V_get _ _ (by rw [Hl.out]; exact hlt)] at hca
      have hx64 : l.getD j 0 < 2 ^ 64 := by
        rw [List.getD, List.getElem?_eq_getElem (by rw [Hl.out]; exact hlt)]; exact HO.out _ (List.getElem_mem _)
      have hsucc := Lib.hid (widTo_succ l j (by rw [Hl.out]; exact hlt))
      have h1 := widTo_lo l j
      have h2 := (bitLen_le 64 _ hx64).2 hx64
      have h3 := widTo_hi l j HO.out
      have HX := Lib.hid hx64
      generalize hx : l.getD j 0 = x at *
      generalize hy : widTo l j = y at *
      clear hx hx64 hy
      go_wp2_with fail
      go_loop [4] (fun k => ∃ q : Nat, y ≤ q ∧ q ≤ max y (Lib.bitLen x) ∧ k = .int .i64 (q : Int)) (fun k => 64 - (intOf k).toNat)
      case atStart => exact ⟨y, Nat.le_refl _, by omega, rfl⟩
      case round =>
        obtain ⟨q, hq1, hq2, rfl⟩ := hrel
        by_cases hf : x < 2 ^ q
        · go_wp2_with fail
          refine (fits_any q x _ (by omega) (by omega) HX.out).mono ?_
          rintro e w' ⟨rfl, rfl⟩
          have hd : decide (x < 2 ^ q) = true := by simpa using hf
          have hle := (bitLen_le q x HX.out).2 hf
          clear hf
          go_wp2_with fail
          go_round
          case rel => exact ⟨j + 1, by omega, by go_num, by rw [hsucc.out, show q = max y (Lib.bitLen x) by omega]⟩
          case measure => simp [intOf]; omega
        · go_wp2_with fail
          refine (fits_any q x _ (by omega) (by omega) HX.out).mono ?_
          rintro e w' ⟨rfl, rfl⟩
          have hd : decide (x < 2 ^ q) = false := by simpa using hf
          have hle : ¬ Lib.bitLen x ≤ q := fun h => hf ((bitLen_le q x HX.out).1 h)
          clear hf
          go_wp2_with fail
          go_round
          case rel => exact ⟨q + 1, by omega, by omega, by go_num⟩
          case measure => simp [intOf]; omega
    · obtain rfl : j = n := by omega
      have hw : widTo l j = wid l := by rw [← Hl.out, widTo_all]
      rw [hw]
      clear hw
      go_wp2_with (at_builtin; refine app_u64 rfl _ _ rfl w.heap.size _ [] rfl (World.ownsRow_made w #[] 0 (Nat.le_refl _) (by decide) (by simp)) A j c l rfl Hc.out Hl.out (hA.below ((Below.refl _ w).alloc (Nat.le_refl _) _)) (by simp; omega) (by simp) ?_; intro v' w1 hown1 hgrow _)
      go_ret2
      refine ⟨v', rfl, by simpa using hown1, ?_⟩
      exact ((Below.refl _ w).alloc (Nat.le_refl _) _).grown hgrow (by simp) (fun k hk => by have hk' : some w.heap.size = some k := hk; injection hk' with hk'; omega)

end Go.Proofs.Ytbpnidmhbflgfaa
