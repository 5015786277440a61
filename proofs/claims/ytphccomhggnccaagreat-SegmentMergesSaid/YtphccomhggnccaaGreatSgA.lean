/- Keys and documents, in plain lists: sorted, once. -/
import Derived.Lib.Bytealg
import Derived.Test.YtphccomhggnccaaGreatGen
import Derived.Test.YtphccomhggnccaaGreatFmVY
import Derived.Maps.AppendAt
import Derived.Sort.EncStr
import Derived.WalkSpells
import Derived.RangeFuncBox
import Derived.RangeFuncLeaves
import Derived.Shelf.Abstract
import Derived.OwnWalkIn
import Derived.TacticsInMore
import Derived.LoopNIn
import Derived.LoopIn
import Derived.RangeFuncNested
namespace Go.Proofs.YtphccomhggnccaaGreat
set_option maxRecDepth 100000
set_option linter.unusedVariables false
set_option linter.unusedSimpArgs false
namespace Sg
abbrev Key := List UInt8
abbrev Dc := Key × List Nat
def leK (x y : Key) : Bool := decide (x ≤ y)
theorem leK_iff (x y : Key) : leK x y = true ↔ x ≤ y := by simp [leK]
theorem leK_trans (a b c : Key) (h : leK a b = true) (h2 : leK b c = true) : leK a c = true := (leK_iff ..).2 (List.le_trans ((leK_iff ..).1 h) ((leK_iff ..).1 h2))
theorem leK_total (a b : Key) : (leK a b || leK b a) = true := by rw [Bool.or_eq_true, leK_iff, leK_iff]; exact List.le_total a b
theorem ltK_irrefl (a : Key) : ¬ a < a := List.lt_irrefl a
theorem compare_lt : ∀ a b : Key, Lib.compareBytes a b < 0 ↔ a < b
  | [], [] => by simp [Lib.compareBytes]
  | [], _ :: _ => by simp [Lib.compareBytes]
  | _ :: _, [] => by simp [Lib.compareBytes]
  | x :: a, y :: b => by
    rw [Lib.compareBytes, List.cons_lt_cons_iff]
    by_cases h1 : x < y
    · simp [h1]
    · rw [if_neg h1]
      by_cases h2 : y < x
      · rw [if_pos h2]
        have h3 : x ≠ y := fun e => by subst e; exact UInt8.lt_irrefl _ h2
        simp [h1, h3]
      · rw [if_neg h2, compare_lt a b]
        have h3 : x = y := UInt8.le_antisymm (UInt8.not_lt.1 h2) (UInt8.not_lt.1 h1)
        simp [h1, h3]
def srt (l : List Key) : List Key := l.mergeSort fun x y => decide (x ≤ y)
theorem srt_perm (l : List Key) : (srt l).Perm l := List.mergeSort_perm _ _
theorem srt_length (l : List Key) : (srt l).length = l.length := (srt_perm l).length_eq
theorem srt_sorted (l : List Key) : (srt l).Pairwise (· ≤ ·) := by
  have h := List.pairwise_mergeSort (le := leK) leK_trans leK_total l
  exact h.imp fun h => (leK_iff ..).1 h
theorem srt_eq {l m : List Key} (hp : m.Perm l) (hs : m.Pairwise (· ≤ ·)) : m = srt l :=
  List.Perm.eq_of_pairwise (le := fun a b => a ≤ b) (fun a b _ _ h1 h2 => List.le_antisymm h1 h2) hs (srt_sorted l) (hp.trans (srt_perm l).symm)
theorem srt_same {l m : List Key} (hp : m.Perm l) : srt m = srt l := srt_eq ((srt_perm m).trans hp) (srt_sorted m)
def Rise (l : List Key) : Prop := (∀ k ∈ l, 1 ≤ k.length ∧ k.length ≤ 64) ∧ l.Nodup
instance (l : List Key) : Decidable (Rise l) := by unfold Rise; infer_instance
theorem Rise.perm {l m : List Key} (h : Rise l) (hp : m.Perm l) : Rise m := ⟨fun k hk => h.1 k (hp.mem_iff.1 hk), hp.nodup_iff.2 h.2⟩
theorem rise_perm {l m : List Key} (hp : m.Perm l) : Rise m ↔ Rise l := ⟨fun h => h.perm hp.symm, fun h => h.perm hp⟩
def riseN (l : List Key) (n : Nat) : Prop := ∀ i, i < n → (1 ≤ (l.getD i []).length ∧ (l.getD i []).length ≤ 64) ∧ (0 < i → l.getD i [] ≠ l.getD (i - 1) [])
theorem riseN_zero (l : List Key) : riseN l 0 := fun i h => absurd h (Nat.not_lt_zero _)
theorem riseN_succ {l : List Key} {n : Nat} : riseN l (n + 1) ↔ riseN l n ∧ (1 ≤ (l.getD n []).length ∧ (l.getD n []).length ≤ 64) ∧ (0 < n → l.getD n [] ≠ l.getD (n - 1) []) := by
  constructor
  · intro h
    exact ⟨fun i hi => h i (by omega), h n (by omega)⟩
  · rintro ⟨h1, h2⟩ i hi
    rcases Nat.lt_succ_iff_lt_or_eq.1 hi with h | h
    · exact h1 i h
    · subst h; exact h2
theorem nodup_inj {α : Type} {l : List α} (h : l.Nodup) {i j : Nat} (hi : i < l.length) (hj : j < l.length) (e : l[i] = l[j]) : i = j := by
  rcases Nat.lt_trichotomy i j with h1 | h1 | h1
  · exact absurd e (List.pairwise_iff_getElem.1 h i j hi hj h1)
  · exact h1
  · exact absurd e.symm (List.pairwise_iff_getElem.1 h j i hj hi h1)
theorem getD_memK {l : List Key} {i : Nat} (h : i < l.length) : l.getD i [] ∈ l := by
  have : l.getD i [] = l[i] := by simp [List.getD, List.getElem?_eq_getElem h]
  rw [this]; exact List.getElem_mem h
theorem rise_iff {l : List Key} (hs : l.Pairwise (· ≤ ·)) : riseN l l.length ↔ Rise l := by
  constructor
  · intro h
    refine ⟨fun k hk => ?_, ?_⟩
    · obtain ⟨i, hi, rfl⟩ := List.getElem_of_mem hk
      have := (h i hi).1
      rwa [show l.getD i [] = l[i] by simp [List.getD, List.getElem?_eq_getElem hi]] at this
    · have hlt : l.Pairwise (· < ·) := by
        have key : ∀ (m : List Key), m.Pairwise (· ≤ ·) → (∀ i, 0 < i → i < m.length → m.getD i [] ≠ m.getD (i - 1) []) → m.Pairwise (· < ·) := by
          intro m
          induction m with
          | nil => intro _ _; exact List.Pairwise.nil
          | cons a r ih =>
            intro hp hn
            have hr := ih (List.pairwise_cons.1 hp).2 fun i hi hl => by
              have := hn (i + 1) (by omega) (by simp; omega)
              simp only [Nat.add_sub_cancel, List.getD_cons_succ] at this
              rwa [show (a :: r).getD i [] = r.getD (i - 1) [] by
                obtain ⟨j, rfl⟩ : ∃ j, i = j + 1 := ⟨i - 1, by omega⟩
                simp] at this
            refine List.pairwise_cons.2 ⟨fun b hb => ?_, hr⟩
            have hab := (List.pairwise_cons.1 hp).1
            cases r with
            | nil => cases hb
            | cons c r' =>
              have hac : a < c := by
                have h1 := hab c List.mem_cons_self
                have h2 := hn 1 (by omega) (by simp)
                simp at h2
                exact Decidable.by_contra fun h3 => h2 (List.le_antisymm (List.not_lt.1 h3) h1)
              rcases List.mem_cons.1 hb with rfl | hb
              · exact hac
              · exact List.lt_trans hac ((List.pairwise_cons.1 hr).1 b hb)
        exact key l hs fun i hi hl => (h i hl).2 hi
      exact hlt.imp fun h e => by subst e; exact ltK_irrefl _ h
  · rintro ⟨h1, h2⟩ i hi
    refine ⟨h1 _ (getD_memK hi), fun h0 e => ?_⟩
    have hj : i - 1 < l.length := by omega
    simp only [List.getD, List.getElem?_eq_getElem hi, List.getElem?_eq_getElem hj, Option.getD_some] at e
    have := nodup_inj h2 hi hj e
    omega
def keysD (ds : List Dc) : List Key := ds.map (·.1)
def textsD (ds : List Dc) : List (List Nat) := ds.map (·.2)
def sortD (ds : List Dc) : List Dc := ds.mergeSort fun a b => leK a.1 b.1
theorem sortD_perm (ds : List Dc) : (sortD ds).Perm ds := List.mergeSort_perm _ _
theorem sortD_sorted (ds : List Dc) : (sortD ds).Pairwise fun a b => a.1 ≤ b.1 := by
  have h := List.pairwise_mergeSort (le := fun a b : Dc => leK a.1 b.1) (fun a b c => leK_trans _ _ _) (fun a b => leK_total _ _) ds
  exact h.imp fun h => (leK_iff ..).1 h
theorem mem_of_nodup_key {ds : List Dc} (hn : (keysD ds).Nodup) {a b : Dc} (ha : a ∈ ds) (hb : b ∈ ds) (e : a.1 = b.1) : a = b := by
  obtain ⟨i, hi, rfl⟩ := List.getElem_of_mem ha
  obtain ⟨j, hj, rfl⟩ := List.getElem_of_mem hb
  have h := nodup_inj hn (i := i) (j := j) (by simpa [keysD] using hi) (by simpa [keysD] using hj) (by simpa [keysD] using e)
  subst h
  rfl
theorem sortD_eq {ds m : List Dc} (hn : (keysD ds).Nodup) (hp : m.Perm ds) (hs : m.Pairwise fun a b => a.1 ≤ b.1) : m = sortD ds :=
  List.Perm.eq_of_pairwise (le := fun a b : Dc => a.1 ≤ b.1) (fun a b ha hb h1 h2 => mem_of_nodup_key hn (hp.mem_iff.1 ha) ((sortD_perm ds).mem_iff.1 hb) (List.le_antisymm h1 h2)) hs (sortD_sorted ds) (hp.trans (sortD_perm ds).symm)
theorem keysD_perm {ds m : List Dc} (hp : m.Perm ds) : (keysD m).Perm (keysD ds) := hp.map _
theorem keysD_sortD (ds : List Dc) : keysD (sortD ds) = srt (keysD ds) :=
  srt_eq (keysD_perm (sortD_perm ds)) (List.pairwise_map.2 (sortD_sorted ds))
theorem keysD_append (a b : List Dc) : keysD (a ++ b) = keysD a ++ keysD b := by simp [keysD]
theorem keysD_length (a : List Dc) : (keysD a).length = a.length := by simp [keysD]
theorem textsD_length (a : List Dc) : (textsD a).length = a.length := by simp [textsD]
def txtOf : List Dc → Key → Option (List Nat)
  | [], _ => none
  | d :: r, k => match txtOf r k with
    | some t => some t
    | none => if d.1 = k then some d.2 else none
theorem txtOf_none {ds : List Dc} {k : Key} (h : k ∉ keysD ds) : txtOf ds k = none := by
  induction ds with
  | nil => rfl
  | cons d r ih =>
    simp only [keysD, List.map_cons, List.mem_cons, not_or] at h
    rw [txtOf, ih h.2, if_neg (fun e => h.1 e.symm)]
theorem txtOf_mem {ds : List Dc} (hn : (keysD ds).Nodup) {d : Dc} (hd : d ∈ ds) : txtOf ds d.1 = some d.2 := by
  induction ds with
  | nil => cases hd
  | cons a r ih =>
    simp only [keysD, List.map_cons, List.nodup_cons] at hn
    rcases List.mem_cons.1 hd with rfl | hd
    · rw [txtOf, txtOf_none hn.1, if_pos rfl]
    · rw [txtOf, ih hn.2 hd]
def byKeys (ds : List Dc) : List Dc := (srt (keysD ds)).map fun k => (k, (txtOf ds k).getD [])
theorem byKeys_eq {ds : List Dc} (hn : (keysD ds).Nodup) : byKeys ds = sortD ds := by
  refine sortD_eq hn ?_ ?_
  · have h1 : ((srt (keysD ds)).map fun k => (k, (txtOf ds k).getD [])).Perm ((keysD ds).map fun k => (k, (txtOf ds k).getD [])) := (srt_perm _).map _
    have h2 : ((keysD ds).map fun k => (k, (txtOf ds k).getD [])) = ds := by
      unfold keysD
      rw [List.map_map]
      conv => rhs; rw [← List.map_id ds]
      refine List.map_congr_left fun d hd => ?_
      simp only [Function.comp, id]
      rw [txtOf_mem hn hd]
      rfl
    rw [h2] at h1
    exact h1
  · unfold byKeys
    rw [List.pairwise_map]
    exact srt_sorted _
end Sg
end Go.Proofs.YtphccomhggnccaaGreat
namespace Go.Proofs.YtphccomhggnccaaGreat
set_option maxRecDepth 100000
set_option linter.unusedVariables false
set_option linter.unusedSimpArgs false
namespace Sg
def num (v : Nat) : List Nat := if h : v < 128 then [v] else (v % 128 + 128) :: num (v / 128)
termination_by v
decreasing_by omega
theorem num_lo {v : Nat} (h : v < 128) : num v = [v] := by rw [num]; rw [dif_pos h]
theorem num_hi {v : Nat} (h : 128 ≤ v) : num v = (v % 128 + 128) :: num (v / 128) := by rw [num]; rw [dif_neg (by omega)]
theorem num_lt (v : Nat) : ∀ c ∈ num v, c < 256 := by
  induction v using Nat.strongRecOn with
  | ind v ih =>
    intro c hc
    by_cases h : v < 128
    · rw [num_lo h] at hc
      have : c = v := by simpa using hc
      omega
    · rw [num_hi (by omega)] at hc
      rcases List.mem_cons.1 hc with rfl | hc
      · omega
      · exact ih (v / 128) (by omega) c hc
theorem num_pos (v : Nat) : 1 ≤ (num v).length := by
  by_cases h : v < 128
  · rw [num_lo h]; simp
  · rw [num_hi (by omega)]; simp
theorem num_len : ∀ (k v : Nat), v < 128 ^ (k + 1) → (num v).length ≤ k + 1
  | 0, v, h => by rw [num_lo (by simpa using h)]; simp
  | k + 1, v, h => by
    by_cases h1 : v < 128
    · rw [num_lo h1]; simp
    · rw [num_hi (by omega), List.length_cons]
      have := num_len k (v / 128) (by rw [Nat.div_lt_iff_lt_mul (by decide)]; rw [Nat.pow_succ] at h; exact h)
      omega
def nums (l : List Nat) : List Nat := l.flatMap num
theorem nums_cons (v : Nat) (l : List Nat) : nums (v :: l) = num v ++ nums l := rfl
theorem nums_snoc (l : List Nat) (v : Nat) : nums (l ++ [v]) = nums l ++ num v := by simp [nums]
theorem nums_len (k : Nat) (l : List Nat) (h : ∀ v ∈ l, v < 128 ^ (k + 1)) : (nums l).length ≤ l.length * (k + 1) := by
  induction l with
  | nil => simp [nums]
  | cons v l ih =>
    rw [nums_cons, List.length_append, List.length_cons, Nat.add_mul]
    have h1 := num_len k v (h v List.mem_cons_self)
    have h2 := ih fun x hx => h x (List.mem_cons_of_mem _ hx)
    omega
theorem nums_lt (l : List Nat) : ∀ c ∈ nums l, c < 256 := by
  intro c hc
  obtain ⟨v, _, h⟩ := List.mem_flatMap.1 hc
  exact num_lt v c h
def byt (p : List Nat) : List Nat := num p.length ++ p
def nk (k : Key) : List Nat := k.map UInt8.toNat
def kn (p : List Nat) : Key := p.map UInt8.ofNat
theorem nk_length (k : Key) : (nk k).length = k.length := by simp [nk]
theorem nk_lt (k : Key) : ∀ c ∈ nk k, c < 256 := by
  intro c hc
  obtain ⟨x, _, rfl⟩ := List.mem_map.1 hc
  exact x.toNat_lt
def keysB (l : List Key) : List Nat := l.flatMap fun k => byt (nk k)
theorem keysB_cons (k : Key) (l : List Key) : keysB (k :: l) = byt (nk k) ++ keysB l := rfl
theorem keysB_snoc (l : List Key) (k : Key) : keysB (l ++ [k]) = keysB l ++ byt (nk k) := by simp [keysB]
theorem byt_lt {p : List Nat} (h : ∀ c ∈ p, c < 256) : ∀ c ∈ byt p, c < 256 := by
  intro c hc
  rcases List.mem_append.1 hc with hc | hc
  · exact num_lt _ c hc
  · exact h c hc
theorem keysB_lt (l : List Key) : ∀ c ∈ keysB l, c < 256 := by
  intro c hc
  obtain ⟨v, _, h⟩ := List.mem_flatMap.1 hc
  exact byt_lt (nk_lt v) c h
def bodyS (keys gone : List Key) (turned : List Nat) : List Nat :=
  [83, 1] ++ (num keys.length ++ keysB keys) ++ (num gone.length ++ keysB gone) ++ num turned.length ++ nums turned
theorem bodyS_lt (keys gone : List Key) (turned : List Nat) : ∀ c ∈ bodyS keys gone turned, c < 256 := by
  intro c hc
  unfold bodyS at hc
  simp only [List.mem_append] at hc
  rcases hc with (((hc | (hc | hc)) | (hc | hc)) | hc) | hc
  · have : c = 83 ∨ c = 1 := by simpa using hc
    omega
  · exact num_lt _ c hc
  · exact keysB_lt _ c hc
  · exact num_lt _ c hc
  · exact keysB_lt _ c hc
  · exact num_lt _ c hc
  · exact nums_lt _ c hc

section
variable {α : Type} {f : List Nat → Option (α × List Nat)}
end
def crcB (v : Nat) : Nat := if v % 2 = 1 then (v / 2) ^^^ 3988292384 else v / 2
def crcN : Nat → Nat → Nat
  | 0, v => v
  | n + 1, v => crcN n (crcB v)
def crcF (v : Nat) (l : List Nat) : Nat := l.foldl (fun v c => crcN 8 (v ^^^ c)) v
def crc (l : List Nat) : Nat := crcF 4294967295 l ^^^ 4294967295
theorem xor_lt32 {a b : Nat} (h1 : a < 4294967296) (h2 : b < 4294967296) : a ^^^ b < 4294967296 := Nat.xor_lt_two_pow (n := 32) h1 h2
theorem crcB_lt {v : Nat} (h : v < 4294967296) : crcB v < 4294967296 := by
  unfold crcB
  split
  · exact xor_lt32 (by omega) (by decide)
  · omega
theorem crcN_lt (n : Nat) {v : Nat} (h : v < 4294967296) : crcN n v < 4294967296 := by
  induction n generalizing v with
  | zero => exact h
  | succ n ih => exact ih (crcB_lt h)
theorem crcN_succ (n v : Nat) : crcN (n + 1) v = crcB (crcN n v) := by
  induction n generalizing v with
  | zero => rfl
  | succ n ih => rw [crcN, ih]; rfl
theorem crcF_lt {l : List Nat} (hl : ∀ c ∈ l, c < 256) {v : Nat} (h : v < 4294967296) : crcF v l < 4294967296 := by
  induction l generalizing v with
  | nil => exact h
  | cons c r ih =>
    have := hl c List.mem_cons_self
    exact ih (fun x hx => hl x (List.mem_cons_of_mem _ hx)) (crcN_lt 8 (xor_lt32 h (by omega)))
theorem crcF_append (v : Nat) (a b : List Nat) : crcF v (a ++ b) = crcF (crcF v a) b := by simp [crcF]
theorem crc_lt {l : List Nat} (hl : ∀ c ∈ l, c < 256) : crc l < 4294967296 := xor_lt32 (crcF_lt hl (by decide)) (by decide)
def four (v : Nat) : List Nat := [v % 256, v / 256 % 256, v / 65536 % 256, v / 16777216 % 256]
theorem four_length (v : Nat) : (four v).length = 4 := rfl
theorem four_lt (v : Nat) : ∀ c ∈ four v, c < 256 := by
  intro c hc
  simp [four] at hc
  omega
def headF (n : Nat) : List Nat := four n ++ four (crc (four n))
def frame (p : List Nat) : List Nat := headF p.length ++ p ++ four (crc (headF p.length ++ p))
theorem headF_length (n : Nat) : (headF n).length = 8 := rfl
theorem headF_lt (n : Nat) : ∀ c ∈ headF n, c < 256 := by
  intro c hc
  rcases List.mem_append.1 hc with h | h <;> exact four_lt _ c h
theorem frame_length (p : List Nat) : (frame p).length = p.length + 12 := by
  unfold frame
  rw [List.length_append, List.length_append, headF_length, four_length]
  omega
end Sg
end Go.Proofs.YtphccomhggnccaaGreat
namespace Go.Proofs.YtphccomhggnccaaGreat
set_option maxRecDepth 100000
set_option linter.unusedVariables false
set_option linter.unusedSimpArgs false
open Go.RowKit
structure ElT (P : Program) (ts te size bytes : Nat) (z : Value) : Prop where
  und : P.underlying ts = some (.slice te)
  inf : (P.info? te).map (fun i => (i.zero, i.size, i.bytes)) = some (some z, size, bytes)
  zs : z.cells.size = size
  pos : 0 < size
  by' : bytes ≤ 128
section
variable {P : Program} {ts te size bytes : Nat} {z : Value}
theorem run_appE (el : ElT P ts te size bytes z) {w : World} (base : Nat) (ty : TypeId) (v : Value) (n : Nat) (xs : List Value) (hown : w.ownsRow base te size v n xs)
    (A : Option Addr) (m c : Nat) (news : List Value) (hc : A = none → c = 0) (hl : news.length = m * size) (hnews : Sl w A news) (h1 : ∀ u ∈ news, u.oneCell' = true)
    (h63 : n + m ≤ 1099511627776) (hbase : base ≤ w.heap.size) :
    ∃ v' w', (Builtin.append_ #[ts, ts] ty #[v, .slice A m c]).run P w = .ok v' w' ∧ w'.ownsRow base te size v' (n + m) (xs ++ news) ∧ w.grownBy w' v.ownBlock ∧
      (v' = .slice none 0 0 ↔ v = .slice none 0 0 ∧ m = 0) ∧ (v'.ownBlock = v.ownBlock ∨ v'.ownBlock = some w.heap.size) := by
  obtain ⟨i0, hi, hz0, hz1, hz2⟩ := info_parts el.inf
  cases A with
  | some ad =>
    exact run_append_own_at w base ts ty te i0 z size bytes el.und hi hz0 hz1 hz2 el.zs el.pos v n xs hown ad m c news hl (hnews.cell ad rfl) h1 (by unfold maxLen; omega) (Nat.le_trans (Nat.mul_le_mul_left _ el.by') (by omega)) hbase
  | none =>
    have h0 := hnews.nil rfl
    subst h0
    have hm : m = 0 := by
      have := el.pos
      have h2 : m * size = 0 := hl.symm
      rcases Nat.mul_eq_zero.1 h2 with h | h
      · exact h
      · omega
    subst hm
    rw [hc rfl]
    have hrun := run_append_owned_none (P := P) (w := w) base ts ty te i0 size el.und hi v n xs hown
    exact ⟨v, w, hrun, by simpa using hown, ⟨rfl, rfl, rfl, Nat.le_refl _, fun _ _ _ => rfl⟩, by simp, .inl rfl⟩
theorem appE (el : ElT P ts te size bytes z) {w : World} {ops : Array Oper} {rest : List Oper} {o : Oper} {a : Act} {Q : Exit → Act → World → Prop} (hgd : o.guard = none) (s x : Operand)
    (ho : o.op = .call { callee := .builtin .append, args := #[s, x], argTypes := #[ts, ts] })
    (base : Nat) (v : Value) (n : Nat) (xs : List Value) (hs : a.eval s = v) (hown : w.ownsRow base te size v n xs)
    (A : Option Addr) (m c : Nat) (news : List Value) (hx : a.eval x = .slice A m c) (hc : A = none → c = 0) (hl : news.length = m * size) (hnews : Sl w A news) (h1 : ∀ u ∈ news, u.oneCell' = true)
    (h63 : n + m ≤ 1099511627776) (hbase : base ≤ w.heap.size)
    (h : ∀ v' w', w'.ownsRow base te size v' (n + m) (xs ++ news) → w.grownBy w' v.ownBlock → (v' = .slice none 0 0 ↔ v = .slice none 0 0 ∧ m = 0) → (v'.ownBlock = v.ownBlock ∨ v'.ownBlock = some w.heap.size) → wpList P ops Q rest (a.put o.dst v') w') : wpList P ops Q (o :: rest) a w := by
  refine wpList_plain hgd fun K hK => ?_
  obtain ⟨v', w', hr, h2, h3, h4, h5⟩ := run_appE el base o.type v n xs hown A m c news hc hl hnews h1 h63 hbase
  unfold Oper.wp execOp
  simp only [ho, resolve, invoke, builtin, Sem.run_bind, Sem.run_pure, Result.andThen_ok, List.map_toArray, List.map_cons, List.map_nil, hs, hx, hr]
  exact hK _ _ (h v' w' h2 h3 h4 h5)
theorem stepE (el : ElT P ts te size bytes z) {w : World} {o : Oper} {a : Act} {K : Act → World → Prop} {Q : Exit → Act → World → Prop} {E : Prop} {ys : Nat → Option Bool} (hgd : o.guard = none) (s x : Operand)
    (ho : o.op = .call { callee := .builtin .append, args := #[s, x], argTypes := #[ts, ts] })
    (base : Nat) (v : Value) (n : Nat) (xs : List Value) (hs : a.eval s = v) (hown : w.ownsRow base te size v n xs)
    (A : Option Addr) (m c : Nat) (news : List Value) (hx : a.eval x = .slice A m c) (hc : A = none → c = 0) (hl : news.length = m * size) (hnews : Sl w A news) (h1 : ∀ u ∈ news, u.oneCell' = true)
    (h63 : n + m ≤ 1099511627776) (hbase : base ≤ w.heap.size)
    (h : ∀ v' w', w'.ownsRow base te size v' (n + m) (xs ++ news) → w.grownBy w' v.ownBlock → (v' = .slice none 0 0 ↔ v = .slice none 0 0 ∧ m = 0) → (v'.ownBlock = v.ownBlock ∨ v'.ownBlock = some w.heap.size) → K (a.put o.dst v') w') :
    if Region.wanted o ys = true then Oper.wp P o a w K Q else E := by
  have hw : Region.wanted o ys = true := by simp [Region.wanted, hgd]
  rw [if_pos hw]
  obtain ⟨v', w', hr, h2, h3, h4, h5⟩ := run_appE el base o.type v n xs hown A m c news hc hl hnews h1 h63 hbase
  unfold Oper.wp execOp
  simp only [ho, resolve, invoke, builtin, Sem.run_bind, Sem.run_pure, Result.andThen_ok, List.map_toArray, List.map_cons, List.map_nil, hs, hx, hr]
  exact h v' w' h2 h3 h4 h5
end
theorem own_form {w : World} {base : Nat} {e : TypeId} {size : Nat} {v : Value} {n : Nat} {xs : List Value} (h : w.ownsRow base e size v n xs) :
    ∃ A c, v = .slice A n c ∧ Sl w A xs ∧ n ≤ c ∧ (A = none → c = 0) ∧ xs.length = n * size ∧ (∀ a, A = some a → base ≤ a.block ∧ a.block < w.heap.size ∧ a = ⟨a.block, 0, none⟩ ∧ v.ownBlock = some a.block) ∧ (A = none → v.ownBlock = none) := by
  rcases h.2 with ⟨rfl, rfl⟩ | ⟨g, cap, cur, rfl, hg, hb, hn, hm, hs, ht⟩
  · have hl := h.1
    exact ⟨none, 0, rfl, ⟨fun _ => by rw [Nat.zero_mul] at hl; exact List.eq_nil_of_length_eq_zero hl, fun a ha => by cases ha⟩, Nat.le_refl _, fun _ => rfl, hl, fun a ha => (by cases ha), fun _ => rfl⟩
  · refine ⟨some ⟨g, 0, none⟩, cap, rfl, ⟨fun he => (by cases he), fun a ha j u hu => ?_⟩, hn, fun he => (by cases he), h.1, fun a ha => ?_, fun he => (by cases he)⟩
    · cases ha
      exact h.cells (g := g) rfl j u hu
    · cases ha
      exact ⟨hg, blk_lt hb, rfl, rfl⟩
def VS (l : List Sg.Key) : List Value := l.map encStr
theorem VS_length (l : List Sg.Key) : (VS l).length = l.length := by simp [VS]
theorem VS_append (a b : List Sg.Key) : VS (a ++ b) = VS a ++ VS b := by simp [VS]
theorem VS_get (l : List Sg.Key) (j : Nat) (h : j < l.length) : (VS l)[j]? = some (encStr (l.getD j [])) := by simp [VS, List.getElem?_eq_getElem h]
theorem VS_one (l : List Sg.Key) : ∀ u ∈ VS l, u.oneCell' = true := by
  intro u hu
  obtain ⟨x, _, rfl⟩ := List.mem_map.1 hu
  rfl
theorem el_str : ElT Tryz.prog 23 9 1 16 (.string ByteArray.empty) := ⟨Tryz.underlying23, by kernel_rfl, rfl, by decide, by decide⟩
theorem el_u8 : ElT Tryz.prog 34 5 1 1 (.int .u8 0) := ⟨Tryz.underlying34, by kernel_rfl, rfl, by decide, by decide⟩
theorem el_row : ElT Tryz.prog 47 34 1 24 (.slice none 0 0) := ⟨Tryz.underlying47, by kernel_rfl, rfl, by decide, by decide⟩
theorem el_doc : ElT Tryz.prog 22 36 2 40 (.agg #[.string ByteArray.empty, .slice none 0 0]) := ⟨Tryz.underlying22, by kernel_rfl, rfl, by decide, by decide⟩
theorem el_mat : ElT Tryz.prog 68 86 2 24 (.agg #[.string ByteArray.empty, .int .i64 0]) := ⟨Tryz.underlying68, by kernel_rfl, rfl, by decide, by decide⟩
end Go.Proofs.YtphccomhggnccaaGreat
namespace Go.Proofs.YtphccomhggnccaaGreat
set_option maxRecDepth 100000
set_option linter.unusedVariables false
set_option linter.unusedSimpArgs false
set_option maxRecDepth 100000
open Go.RowKit Go.Shelf
namespace SgS
attribute [local go_sem] Oper.semAt_some
def upto (f : Nat → Sg.Key) (k : Nat) : List Sg.Key := (List.range k).map f
theorem upto_succ (f : Nat → Sg.Key) (k : Nat) : upto f (k + 1) = upto f k ++ [f k] := by simp [upto, List.range_succ]
theorem upto_length (f : Nat → Sg.Key) (k : Nat) : (upto f k).length = k := by simp [upto]
theorem upto_all (zs : List Sg.Key) : upto (fun j => zs[j]?.getD []) zs.length = zs := by
  apply List.ext_getElem
  · simp [upto]
  · intro i h1 h2
    simp [upto, h2]
theorem upto_take (zs : List Sg.Key) {k : Nat} (hk : k ≤ zs.length) : upto (fun j => zs[j]?.getD []) k = zs.take k := by
  apply List.ext_getElem
  · simp [upto, hk]
  · intro i h1 h2
    have : i < zs.length := by simp [upto] at h1; omega
    simp [upto, this]

set_option maxHeartbeats 2000000 in
theorem values1_in (F : Fence) (n : Nat) (h7 : F.fn 99) (hro : F.round = none) (hn : 1 ≤ n) (l Bs n₀ b off len cap : Nat) (zs : List Sg.Key) (hreach : len * 16 ≤ 140737488351232) (hb : b < n₀) (J Jx : List Sg.Key → World → Prop)
    (hY : ∀ pre x W, J pre W → pre.length < len → YieldAt F (n - 1) Tryz.prog l #[encStr x] W fun e W' =>
      (e = .returned (.bool true) ∧ J (pre ++ [x]) W' ∧ Below n₀ W W') ∨ (e = .returned (.bool false) ∧ Jx (pre ++ [x]) W'))
    (W : World) (hBs : W.cell? ⟨Bs, 0, none⟩ = some (.slice (some ⟨b, off, none⟩) len cap)) (hc : ∀ j, j < len → W.cell? ⟨b, off + j, none⟩ = some (encStr (zs[j]?.getD []))) (h0 : J [] W) :
    CallsIn F n Tryz.prog 99 #[.func (.yield l) #[] #[], .pointer (some ⟨Bs, 0, none⟩)] W fun e W' => (∃ v, e = .returned v) ∧
      ((∃ ys, ys = upto (fun j => zs[j]?.getD []) len ∧ J ys W') ∨ (∃ pre, (∃ k, k ≤ len ∧ pre = upto (fun j => zs[j]?.getD []) k) ∧ Jx pre W')) := by
  refine callsIn_of_wp Tryz.func99 rfl h7 ?_ hro
  simp only [Tryz.ntmps99, List.size_toArray, List.length_cons, List.length_nil, Nat.reduceAdd, Nat.reduceSub, Array.replicate_succ, Array.replicate_zero, List.push_toArray, List.append_toArray, List.nil_append, List.cons_append]
  gi_wp2
  gi_loopw [7] (fun i wr => ∃ k : Nat, k ≤ len ∧ i = .int .i64 k ∧ J (upto (fun j => zs[j]?.getD []) k) wr ∧ Below n₀ W wr)
    (fun i _ => len - (intOf i).toNat)
  case atStart => exact ⟨0, Nat.zero_le _, rfl, h0, Below.refl _ _⟩
  case round =>
    obtain ⟨k, hk, rfl, hJs, hnx⟩ := hrel
    have hcx : k < len → wr.cell? ⟨b, off + k, none⟩ = some (encStr (zs[k]?.getD [])) := fun h => (hnx.cell (p := ⟨b, off + k, none⟩) hb).trans (hc k h)
    by_cases hlt : k < len
    · obtain ⟨fn, tmps, assign, body, hy, hR⟩ := hY _ (zs[k]?.getD []) wr hJs (by rw [upto_length]; exact hlt)
      have hcx' := hcx hlt
      gi_wp2
      refine hR.mono ?_
      rintro e W3 (⟨rfl, hJ3, hk3⟩ | ⟨rfl, hJx3⟩)
      · gi_wp2
        go_roundw
        case rel => exact ⟨k + 1, by omega, by simp, by rw [upto_succ]; exact hJ3, hnx.trans hk3⟩
        case measure => simp [intOf]; omega
      · gi_wp2
        refine bodyPost_ret (results_none rfl _ _ _) rfl ?_
        exact ⟨⟨_, rfl⟩, .inr ⟨_, ⟨k + 1, by omega, (upto_succ _ _).symm⟩, hJx3⟩⟩
    · obtain rfl : k = len := by omega
      gi_wp2
      go_end0
      exact ⟨⟨_, rfl⟩, .inl ⟨_, rfl, hJs⟩⟩
set_option maxHeartbeats 2000000 in
theorem values1_nil_in (F : Fence) (n : Nat) (h7 : F.fn 99) (hro : F.round = none) (l Bs : Nat) (A0 : Option Addr) (c0 : Nat) (J : List Sg.Key → World → Prop) (W : World) (hBs : W.cell? ⟨Bs, 0, none⟩ = some (.slice A0 0 c0)) (h0 : J [] W) :
    CallsIn F n Tryz.prog 99 #[.func (.yield l) #[] #[], .pointer (some ⟨Bs, 0, none⟩)] W fun e W' => (∃ v, e = .returned v) ∧ J [] W' := by
  refine callsIn_of_wp Tryz.func99 rfl h7 ?_ hro
  simp only [Tryz.ntmps99, List.size_toArray, List.length_cons, List.length_nil, Nat.reduceAdd, Nat.reduceSub, Array.replicate_succ, Array.replicate_zero, List.push_toArray, List.append_toArray, List.nil_append, List.cons_append]
  gi_wp2
  gi_loopw [7] (fun i wr => i = .int .i64 0 ∧ J [] wr) (fun _ _ => 0)
  case atStart => exact ⟨rfl, h0⟩
  case round =>
    obtain ⟨rfl, hJs⟩ := hrel
    gi_wp2
    go_end0
    exact ⟨⟨_, rfl⟩, hJs⟩
def Ints (n₀ : Nat) (W : World) (sv : Value) (zs : List Sg.Key) : Prop :=
  (∃ A0 c0, sv = .slice A0 0 c0 ∧ zs = []) ∨ ∃ b off cap, sv = .slice (some ⟨b, off, none⟩) zs.length cap ∧ b < n₀ ∧ ∀ j, j < zs.length → W.cell? ⟨b, off + j, none⟩ = some (encStr (zs[j]?.getD []))
theorem Ints.below {n₀ : Nat} {A B : World} (h : Below n₀ A B) {sv : Value} {zs : List Sg.Key} : Ints n₀ A sv zs → Ints n₀ B sv zs
  | .inl e => .inl e
  | .inr ⟨b, off, cap, e, hb, hc⟩ => .inr ⟨b, off, cap, e, hb, fun j hj => (h.cell (p := ⟨b, off + j, none⟩) hb).trans (hc j hj)⟩
theorem values_stops (F : Fence) (n : Nat) (h7 : F.fn 99) (hro : F.round = none) (hn : 1 ≤ n) (Bs n₀ : Nat) (sv : Value) (zs : List Sg.Key) (hreach : zs.length * 16 ≤ 140737488351232) (w : World) (hBs : Bs < w.heap.size) (hn₀ : n₀ ≤ w.heap.size)
    (hc : w.cell? ⟨Bs, 0, none⟩ = some sv) (hI : Ints n₀ w sv zs) :
    SeqStopsK F n Tryz.prog 99 #[.pointer (some ⟨Bs, 0, none⟩)] (fun x : Sg.Key => #[encStr x]) (Below n₀) (fun ys => ys = zs) (fun pre => pre <+: zs) zs.length w := fun l J Jx W hW _ _ hY h0 => by
  have hc' := (hW.cell (p := ⟨Bs, 0, none⟩) hBs).trans hc
  rcases hI.below (hW.mono hn₀) with ⟨A0, c0, rfl, rfl⟩ | ⟨b, off, cap, rfl, hb, hcs⟩
  · exact (values1_nil_in F n h7 hro l Bs A0 c0 J W hc' h0).mono fun e W' ⟨he, hj⟩ => ⟨he, .inl ⟨_, rfl, hj⟩⟩
  · refine (values1_in F n h7 hro hn l Bs n₀ b off zs.length cap zs hreach hb J Jx hY W hc' hcs h0).mono ?_
    rintro e W' ⟨he, ⟨ys, rfl, hj⟩ | ⟨pre, ⟨k, hk, rfl⟩, hj⟩⟩
    · exact ⟨he, .inl ⟨_, upto_all zs, hj⟩⟩
    · exact ⟨he, .inr ⟨_, by rw [upto_take zs hk]; exact List.take_prefix _ _, hj⟩⟩
theorem values_any (a : Option Addr) (len cap : Nat) (w : World) :
    Calls Tryz.prog 50 #[.slice a len cap] w fun e w' => e = .returned (.func (.func 99) #[] #[.pointer (some ⟨w.heap.size, 0, none⟩)]) ∧ w' = w.alloc (.cells #[.slice a len cap] 23) := by
  go_enter Tryz.func50, Tryz.ntmps50
  go_wp2
  go_ret
  exact ⟨rfl, rfl⟩

def Gathers (w : World) (zs : List Sg.Key) (e : Ending) (W' : World) : Prop :=
  ∃ v, e = .returned v ∧ W'.ownsRow w.heap.size 9 1 v zs.length (zs.map encStr) ∧ (v = .slice none 0 0 ↔ zs = []) ∧ Below w.heap.size w W'
set_option maxHeartbeats 2000000 in
theorem appendSeq_any (F : Fence) (n : Nat) (h3 : F.fn 134) (h5 : F.fn 99) (hro : F.round = none) (hn : 3 ≤ n) (Bv n₀ : Nat) (sv : Value) (xs : List Sg.Key) (hlen : xs.length ≤ maxLen) (hbytes : xs.length * 16 ≤ 140737488351232) (w : World)
    (hBv : Bv < w.heap.size) (hn0 : n₀ ≤ w.heap.size) (hcv : w.cell? ⟨Bv, 0, none⟩ = some sv) (hL : Ints n₀ w sv xs) :
    CallsIn F n Tryz.prog 134 #[.slice none 0 0, .func (.func 99) #[] #[.pointer (some ⟨Bv, 0, none⟩)]] w (Gathers w xs) := by
  have h1 : 1 ≤ n := by omega
  obtain ⟨i0, hi, hz0, hz1, hz2⟩ := info_parts el_str.inf
  refine callsIn_of_wp_marks Tryz.func134 rfl h3 ?_ hro
  simp only [Tryz.ntmps134, List.size_toArray, List.length_cons, List.length_nil, Nat.reduceAdd, Nat.reduceSub, Array.replicate_succ, Array.replicate_zero, List.push_toArray, List.append_toArray, List.nil_append, List.cons_append]
  gi_wp2
  have bO := Boxed.new w 23 (.slice none 0 0)
  have hB0 : Below w.heap.size w (w.alloc (.cells #[.slice none 0 0] 23)) := (Below.refl _ w).alloc (Nat.le_refl _) _
  refine wpIn_rangeFunc_ownG hro h1 (gf := 99) (lb := #[.pointer (some ⟨Bv, 0, none⟩)]) rfl h5 (enters_of Tryz.func99 (by kernel_rfl) rfl)
    (values_stops F (n - 1) h5 hro (by omega) Bv n₀ sv xs hbytes _ hBv hn0 hcv hL) belowK_t (belowK_b (by simp; omega)) hB0 (fun _ => rfl)
    (fun pre W => (∃ v, Boxed W w.heap.size 23 v ∧ W.ownsRow w.heap.size 9 1 v pre.length (pre.map encStr) ∧ (v = .slice none 0 0 ↔ pre = [])) ∧ Below w.heap.size w W)
    (fun _ _ _ => False)
    (OwnFrom.and (Own.from (holdsRow_own w.heap.size w.heap.size 23 9 1 (fun pre : List Sg.Key => pre.length) (fun pre => pre.map encStr) (fun pre v => v = .slice none 0 0 ↔ pre = [])) _) (ownFrom_below (Nat.le_refl _) (by simp)))
    (fun _ _ _ _ _ hs _ _ => hs)
    ⟨⟨_, bO, World.ownsRow_nil _ _ _ _, by simp⟩, hB0⟩
    (fun x => { tmps := #[.slice none 0 0, .func (.func 99) #[] #[.pointer (some ⟨Bv, 0, none⟩)], .pointer (some ⟨w.heap.size, 0, none⟩), undef, .slice none 0 0, encStr x, .func (.func 99) #[] #[.pointer (some ⟨Bv, 0, none⟩)], encStr x, undef, undef, undef, undef, undef], defers := [] }) ?assign ?body ?done ?stop
  case assign =>
    intro l x W K hK
    gi_wp2
    exact hK
  case body =>
    rintro l pre x W ⟨⟨v, hv, hrow, hnil⟩, hB⟩ hlt
    have hc := hv.cell
    gi_wp2_with (gi_at_builtin; refine wpListIn_append_own _ rfl _ _ 23 rfl w.heap.size 9 i0 (.string ByteArray.empty) 1 16 Tryz.underlying23 hi hz0 hz1 hz2 rfl (by decide) _ _ _ rfl (hrow.alloc _) ⟨W.heap.size, 0, none⟩ 1 1 [encStr x] rfl rfl (cell_one_new _ _ _) (by simp [Value.oneCell']) (by omega) (by omega) (by have := hB.size; simp; omega) ?_; intro v' w1 hown' hgrow _; obtain ⟨g', cap', rfl⟩ := ownsRow_succ hown'; obtain ⟨hv1, hv2, hr2, hk2, hb2⟩ := hv.appended (by decide) hrow hB.size (Nat.le_refl _) hown' hgrow; have hc1 := hv1.cell; have hf1 := hv1.frozen)
    exact ⟨hk2.from _, hb2.mono hn0, ⟨_, hv2, by simpa using hr2, by simp⟩, hB.trans hb2⟩
  case done =>
    rintro D ys W hD rfl ⟨⟨v, hv, hrow, hnil⟩, hB⟩ hK
    have hc := hv.cell
    gi_wp2
    refine ⟨by simp, .inl ⟨_, _, rfl, run_takeDeferred hK, ?_⟩⟩
    exact ⟨_, results_tmp rfl _ _ _, v, rfl, ownsRow_putObj hrow _ hK rfl, hnil, hB.trans (belowK_b (w := w) (Nat.le_refl _) W D _ _ (by simp at hD; omega) hK rfl rfl)⟩
  case stop =>
    rintro D c pre W _ _ h _
    exact h.elim
end SgS
end Go.Proofs.YtphccomhggnccaaGreat
namespace Go.Proofs.YtphccomhggnccaaGreat
set_option maxRecDepth 100000
set_option linter.unusedVariables false
set_option linter.unusedSimpArgs false
set_option maxRecDepth 100000
open Go.RowKit Go.Shelf
structure De where
  k : Sg.Key
  a : Option Addr
  n : Nat
  c : Nat
  t : List Nat
deriving Inhabited
def encD (d : De) : List Value := [encStr d.k, .slice d.a d.n d.c]
def VD (l : List De) : List Value := l.flatMap encD
def De.dc (d : De) : Sg.Dc := (d.k, d.t)
theorem VD_cons (d : De) (r : List De) : VD (d :: r) = encStr d.k :: .slice d.a d.n d.c :: VD r := rfl
theorem VD_length (l : List De) : (VD l).length = l.length * 2 := by
  induction l with
  | nil => rfl
  | cons a r ih => rw [VD_cons, List.length_cons, List.length_cons, ih, List.length_cons]; omega
theorem VD_append (l m : List De) : VD (l ++ m) = VD l ++ VD m := by simp [VD]
theorem encD_one (d : De) : ∀ u ∈ encD d, u.oneCell' = true := by
  intro u hu
  unfold encD at hu
  simp at hu
  rcases hu with rfl | rfl <;> rfl
theorem VD_get0 (l : List De) (i : Nat) (h : i < l.length) : (VD l)[i * 2]? = some (encStr (l[i]?.getD default).k) := by
  induction l generalizing i with
  | nil => cases h
  | cons a r ih =>
    rw [VD_cons]
    cases i with
    | zero => rfl
    | succ i => rw [show (i + 1) * 2 = i * 2 + 1 + 1 by omega]; exact ih i (by simpa using h)
theorem VD_get1 (l : List De) (i : Nat) (h : i < l.length) : (VD l)[i * 2 + 1]? = some (.slice (l[i]?.getD default).a (l[i]?.getD default).n (l[i]?.getD default).c) := by
  induction l generalizing i with
  | nil => cases h
  | cons a r ih =>
    rw [VD_cons]
    cases i with
    | zero => rfl
    | succ i => rw [show (i + 1) * 2 + 1 = i * 2 + 1 + 1 + 1 by omega]; exact ih i (by simpa using h)
namespace SgD
attribute [local go_sem] Oper.semAt_some
def upto (f : Nat → De) (k : Nat) : List De := (List.range k).map f
theorem upto_succ (f : Nat → De) (k : Nat) : upto f (k + 1) = upto f k ++ [f k] := by simp [upto, List.range_succ]
theorem upto_length (f : Nat → De) (k : Nat) : (upto f k).length = k := by simp [upto]
theorem upto_all (zs : List De) : upto (fun j => zs[j]?.getD default) zs.length = zs := by
  apply List.ext_getElem
  · simp [upto]
  · intro i h1 h2
    simp [upto, h2]
theorem upto_take (zs : List De) {k : Nat} (hk : k ≤ zs.length) : upto (fun j => zs[j]?.getD default) k = zs.take k := by
  apply List.ext_getElem
  · simp [upto, hk]
  · intro i h1 h2
    have : i < zs.length := by simp [upto] at h1; omega
    simp [upto, this]
set_option maxHeartbeats 2000000 in
theorem values1_in (F : Fence) (n : Nat) (h7 : F.fn 95) (hro : F.round = none) (hn : 1 ≤ n) (l Bs n₀ b off len cap : Nat) (zs : List De) (hreach : len * 40 ≤ 140737488351232) (hb : b < n₀) (J Jx : List De → World → Prop)
    (hJ : ∀ pre A o, J pre A → J pre (A.alloc o))
    (hY : ∀ pre x W, J pre W → pre.length < len → YieldAt F (n - 1) Tryz.prog l #[.agg (encD x).toArray] W fun e W' =>
      (e = .returned (.bool true) ∧ J (pre ++ [x]) W' ∧ Below n₀ W W') ∨ (e = .returned (.bool false) ∧ Jx (pre ++ [x]) W'))
    (W : World) (hn0 : n₀ ≤ W.heap.size) (hBs : W.cell? ⟨Bs, 0, none⟩ = some (.slice (some ⟨b, off, none⟩) len cap)) (hc : ∀ j, j < len → W.cell? ⟨b, off + j * 2, none⟩ = some (encStr (zs[j]?.getD default).k) ∧ W.cell? ⟨b, off + j * 2 + 1, none⟩ = some (.slice (zs[j]?.getD default).a (zs[j]?.getD default).n (zs[j]?.getD default).c)) (h0 : J [] W) :
    CallsIn F n Tryz.prog 95 #[.func (.yield l) #[] #[], .pointer (some ⟨Bs, 0, none⟩)] W fun e W' => (∃ v, e = .returned v) ∧
      ((∃ ys, ys = upto (fun j => zs[j]?.getD default) len ∧ J ys W') ∨ (∃ pre, (∃ k, k ≤ len ∧ pre = upto (fun j => zs[j]?.getD default) k) ∧ Jx pre W')) := by
  refine callsIn_of_wp Tryz.func95 rfl h7 ?_ hro
  simp only [Tryz.ntmps95, List.size_toArray, List.length_cons, List.length_nil, Nat.reduceAdd, Nat.reduceSub, Array.replicate_succ, Array.replicate_zero, List.push_toArray, List.append_toArray, List.nil_append, List.cons_append]
  gi_wp2
  gi_loopw [4, 7] (fun s4 i wr => ∃ k : Nat, k ≤ len ∧ i = .int .i64 k ∧ J (upto (fun j => zs[j]?.getD default) k) wr ∧ Below n₀ W wr)
    (fun _ i _ => len - (intOf i).toNat)
  case atStart => exact ⟨0, Nat.zero_le _, rfl, h0, Below.refl _ _⟩
  case round =>
    obtain ⟨k, hk, rfl, hJs, hnx⟩ := hrel
    by_cases hlt : k < len
    · obtain ⟨hc1, hc2⟩ := hc k hlt
      have hcx := (hnx.cell (p := ⟨b, off + k * 2, none⟩) hb).trans hc1
      have hcy := (hnx.cell (p := ⟨b, off + k * 2 + 1, none⟩) hb).trans hc2
      have hsz := hnx.size
      obtain ⟨x, hx⟩ : ∃ x, zs[k]?.getD default = x := ⟨_, rfl⟩
      have hus := upto_succ (fun j => zs[j]?.getD default) k
      rw [hx] at hcx hcy hus
      obtain ⟨fn, tmps, assign, body, hy, hR⟩ := hY _ x _ (hJ _ _ (.cells #[encStr x.k, .slice x.a x.n x.c] 36) hJs) (by rw [upto_length]; exact hlt)
      have HU := Lib.hid hus
      clear hus hc1 hc2 hx
      dsimp only [encD, encStr] at hy hR hcx hcy
      gi_wp2
      refine hR.mono ?_
      rintro e W3 (⟨rfl, hJ3, hk3⟩ | ⟨rfl, hJx3⟩)
      · gi_wp2
        go_roundw
        case rel => exact ⟨k + 1, by omega, by simp, by rw [HU.out]; exact hJ3, hnx.trans (((Below.refl _ _).alloc (by omega) _).trans hk3)⟩
        case measure => simp [intOf]; omega
      · gi_wp2
        refine bodyPost_ret (results_none rfl _ _ _) rfl ?_
        exact ⟨⟨_, rfl⟩, .inr ⟨_, ⟨k + 1, by omega, HU.out.symm⟩, hJx3⟩⟩
    · obtain rfl : k = len := by omega
      gi_wp2
      go_end0
      exact ⟨⟨_, rfl⟩, .inl ⟨_, rfl, hJs⟩⟩
set_option maxHeartbeats 2000000 in
theorem values1_nil_in (F : Fence) (n : Nat) (h7 : F.fn 95) (hro : F.round = none) (l Bs : Nat) (A0 : Option Addr) (c0 : Nat) (J : List De → World → Prop) (W : World) (hBs : W.cell? ⟨Bs, 0, none⟩ = some (.slice A0 0 c0)) (h0 : J [] W) :
    CallsIn F n Tryz.prog 95 #[.func (.yield l) #[] #[], .pointer (some ⟨Bs, 0, none⟩)] W fun e W' => (∃ v, e = .returned v) ∧ J [] W' := by
  refine callsIn_of_wp Tryz.func95 rfl h7 ?_ hro
  simp only [Tryz.ntmps95, List.size_toArray, List.length_cons, List.length_nil, Nat.reduceAdd, Nat.reduceSub, Array.replicate_succ, Array.replicate_zero, List.push_toArray, List.append_toArray, List.nil_append, List.cons_append]
  gi_wp2
  gi_loopw [7] (fun i wr => i = .int .i64 0 ∧ J [] wr) (fun _ _ => 0)
  case atStart => exact ⟨rfl, h0⟩
  case round =>
    obtain ⟨rfl, hJs⟩ := hrel
    gi_wp2
    go_end0
    exact ⟨⟨_, rfl⟩, hJs⟩
def Docs (n₀ : Nat) (W : World) (sv : Value) (zs : List De) : Prop :=
  (∃ A0 c0, sv = .slice A0 0 c0 ∧ zs = []) ∨ ∃ b off cap, sv = .slice (some ⟨b, off, none⟩) zs.length cap ∧ b < n₀ ∧ ∀ j, j < zs.length → W.cell? ⟨b, off + j * 2, none⟩ = some (encStr (zs[j]?.getD default).k) ∧ W.cell? ⟨b, off + j * 2 + 1, none⟩ = some (.slice (zs[j]?.getD default).a (zs[j]?.getD default).n (zs[j]?.getD default).c)
theorem Docs.below {n₀ : Nat} {A B : World} (h : Below n₀ A B) {sv : Value} {zs : List De} : Docs n₀ A sv zs → Docs n₀ B sv zs
  | .inl e => .inl e
  | .inr ⟨b, off, cap, e, hb, hc⟩ => .inr ⟨b, off, cap, e, hb, fun j hj => ⟨(h.cell (p := ⟨b, off + j * 2, none⟩) hb).trans (hc j hj).1, (h.cell (p := ⟨b, off + j * 2 + 1, none⟩) hb).trans (hc j hj).2⟩⟩
theorem values_stops (F : Fence) (n : Nat) (h7 : F.fn 95) (hro : F.round = none) (hn : 1 ≤ n) (Bs n₀ : Nat) (sv : Value) (zs : List De) (hreach : zs.length * 40 ≤ 140737488351232) (w : World) (hBs : Bs < w.heap.size) (hn₀ : n₀ ≤ w.heap.size)
    (hc : w.cell? ⟨Bs, 0, none⟩ = some sv) (hI : Docs n₀ w sv zs) :
    SeqStopsK F n Tryz.prog 95 #[.pointer (some ⟨Bs, 0, none⟩)] (fun x : De => #[Value.agg (encD x).toArray]) (Below n₀) (fun ys => ys = zs) (fun pre => pre <+: zs) zs.length w := fun l J Jx W hW hJ _ hY h0 => by
  have hc' := (hW.cell (p := ⟨Bs, 0, none⟩) hBs).trans hc
  rcases hI.below (hW.mono hn₀) with ⟨A0, c0, rfl, rfl⟩ | ⟨b, off, cap, rfl, hb, hcs⟩
  · exact (values1_nil_in F n h7 hro l Bs A0 c0 J W hc' h0).mono fun e W' ⟨he, hj⟩ => ⟨he, .inl ⟨_, rfl, hj⟩⟩
  · refine (values1_in F n h7 hro hn l Bs n₀ b off zs.length cap zs hreach hb J Jx (fun pre A o hA => hJ pre A _ none hA (World.grownBy_alloc A o none) (fun r e => by cases e)) hY W (Nat.le_trans hn₀ hW.size) hc' hcs h0).mono ?_
    rintro e W' ⟨he, ⟨ys, rfl, hj⟩ | ⟨pre, ⟨k, hk, rfl⟩, hj⟩⟩
    · exact ⟨he, .inl ⟨_, upto_all zs, hj⟩⟩
    · exact ⟨he, .inr ⟨_, by rw [upto_take zs hk]; exact List.take_prefix _ _, hj⟩⟩
theorem values_any (a : Option Addr) (len cap : Nat) (w : World) :
    Calls Tryz.prog 46 #[.slice a len cap] w fun e w' => e = .returned (.func (.func 95) #[] #[.pointer (some ⟨w.heap.size, 0, none⟩)]) ∧ w' = w.alloc (.cells #[.slice a len cap] 22) := by
  go_enter Tryz.func46, Tryz.ntmps46
  go_wp2
  go_ret
  exact ⟨rfl, rfl⟩
def Gathers (w : World) (zs : List De) (e : Ending) (W' : World) : Prop :=
  ∃ v, e = .returned v ∧ W'.ownsRow w.heap.size 36 2 v zs.length (VD zs) ∧ (v = .slice none 0 0 ↔ zs = []) ∧ Below w.heap.size w W'
theorem cells_two_new (W : World) (u v : Value) (t : TypeId) : ∀ j x, [u, v][j]? = some x → (W.alloc (.cells #[u, v] t)).cell? ((⟨W.heap.size, 0, none⟩ : Addr).add j) = some x := by
  intro j x hj
  have := (sl_blk (xs := [u, v]) (World.alloc_heap_new W (.cells [u, v].toArray t)))
  exact this.cell _ rfl j x hj
def actD (Bv B p : Nat) (x : De) : Act := { tmps := #[.slice none 0 0, .func (.func 95) #[] #[.pointer (some ⟨Bv, 0, none⟩)], .pointer (some ⟨B, 0, none⟩), undef, .slice none 0 0, .pointer (some ⟨p, 0, none⟩), .func (.func 95) #[] #[.pointer (some ⟨Bv, 0, none⟩)], .agg #[encStr x.k, .slice x.a x.n x.c], undef, undef, undef, undef, undef], defers := [] }
set_option maxHeartbeats 2000000 in
theorem appendSeq_any (F : Fence) (n : Nat) (h3 : F.fn 131) (h5 : F.fn 95) (hro : F.round = none) (hn : 3 ≤ n) (Bv n₀ : Nat) (sv : Value) (xs : List De) (hlen : xs.length ≤ maxLen) (hbytes : xs.length * 40 ≤ 140737488351232) (w : World)
    (hBv : Bv < w.heap.size) (hn0 : n₀ ≤ w.heap.size) (hcv : w.cell? ⟨Bv, 0, none⟩ = some sv) (hL : Docs n₀ w sv xs) :
    CallsIn F n Tryz.prog 131 #[.slice none 0 0, .func (.func 95) #[] #[.pointer (some ⟨Bv, 0, none⟩)]] w (Gathers w xs) := by
  have h1 : 1 ≤ n := by omega
  obtain ⟨i0, hi, hz0, hz1, hz2⟩ := info_parts el_doc.inf
  refine callsIn_of_wp_marks Tryz.func131 rfl h3 ?_ hro
  simp only [Tryz.ntmps131, List.size_toArray, List.length_cons, List.length_nil, Nat.reduceAdd, Nat.reduceSub, Array.replicate_succ, Array.replicate_zero, List.push_toArray, List.append_toArray, List.nil_append, List.cons_append]
  gi_wp2
  have bO := Boxed.new w 22 (.slice none 0 0)
  have hB0 : Below w.heap.size w (w.alloc (.cells #[.slice none 0 0] 22)) := (Below.refl _ w).alloc (Nat.le_refl _) _
  refine wpIn_rangeFunc_ownH hro h1 (gf := 95) (lb := #[.pointer (some ⟨Bv, 0, none⟩)]) rfl h5 (enters_of Tryz.func95 (by kernel_rfl) rfl)
    (values_stops F (n - 1) h5 hro (by omega) Bv n₀ sv xs hbytes _ hBv hn0 hcv hL) belowK_t (belowK_b (by simp; omega)) hB0 (fun _ => rfl)
    (fun pre W => (∃ v, Boxed W w.heap.size 22 v ∧ W.ownsRow w.heap.size 36 2 v pre.length (VD pre) ∧ (v = .slice none 0 0 ↔ pre = [])) ∧ Below w.heap.size w W)
    (fun _ _ _ => False)
    (OwnFrom.and (Own.from (holdsRow_own w.heap.size w.heap.size 22 36 2 (fun pre : List De => pre.length) (fun pre => VD pre) (fun pre v => v = .slice none 0 0 ↔ pre = [])) _) (ownFrom_below (Nat.le_refl _) (by simp)))
    (fun _ _ _ _ _ hs _ _ => hs)
    ⟨⟨_, bO, World.ownsRow_nil _ _ _ _, by simp⟩, hB0⟩
    (fun x a' W => ∃ p, a' = actD Bv w.heap.size p x ∧ W.heap[p]? = some (.cells #[encStr x.k, .slice x.a x.n x.c] 36 (0, 0)))
    (fun x a' _ X Y row hs hg hr => by
      obtain ⟨p, ha, hp⟩ := hs
      refine ⟨p, ha, (hg.block p (blk_lt hp) (fun e => ?_)).trans hp⟩
      obtain ⟨_, o, ho, hc⟩ := hr p e.symm
      rw [hp] at ho
      cases ho
      cases hc) ?assign ?body ?done ?stop
  case assign =>
    intro l pre x W K hI hK
    have hsz := hI.2.size
    have hK' := hK (actD Bv w.heap.size W.heap.size x) (W.alloc (.cells #[encStr x.k, .slice x.a x.n x.c] 36)) (KeepsFrom.of_grownBy (row := none) (World.grownBy_alloc W _ none) (fun j e => by cases e)) ((Below.refl _ W).alloc (by omega) _)
      ⟨by
        obtain ⟨v, hv, hrow, hnil⟩ := hI.1
        exact ⟨v, hv.alloc _, hrow.alloc _, hnil⟩, hI.2.alloc (by omega) _⟩ ⟨_, rfl, World.alloc_heap_new W _⟩
    clear hK
    dsimp only [encD, encStr, actD] at hK' ⊢
    gi_wp2
    exact hK'
  case body =>
    rintro l pre x a' W - - ⟨⟨v, hv, hrow, hnil⟩, hB⟩ ⟨p, rfl, hp⟩ hlt
    have hc := hv.cell
    have hp0 := (cell_blk hp 0).trans rfl
    have hp1 := (cell_blk hp 1).trans rfl
    dsimp only [actD, encStr] at hp0 hp1 ⊢
    gi_wp2_with (gi_at_builtin; refine wpListIn_append_own _ rfl _ _ 22 rfl w.heap.size 36 i0 (.agg #[.string ByteArray.empty, .slice none 0 0]) 2 40 Tryz.underlying22 hi hz0 hz1 hz2 rfl (by decide) _ _ _ rfl (hrow.alloc _) ⟨W.heap.size, 0, none⟩ 1 1 [.string ⟨x.k.toArray⟩, .slice x.a x.n x.c] rfl rfl (cells_two_new _ _ _ _) (by simp [Value.oneCell']) (by omega) (by omega) (by have := hB.size; simp; omega) ?_; intro v' w1 hown' hgrow _; obtain ⟨g', cap', rfl⟩ := ownsRow_succ hown'; obtain ⟨hv1, hv2, hr2, hk2, hb2⟩ := hv.appended (by decide) hrow hB.size (Nat.le_refl _) hown' hgrow; have hc1 := hv1.cell; have hf1 := hv1.frozen)
    exact ⟨hk2.from _, hb2.mono hn0, ⟨_, hv2, by rw [List.length_append, VD_append]; exact hr2, by simp⟩, hB.trans hb2⟩
  case done =>
    rintro D ys W hD rfl ⟨⟨v, hv, hrow, hnil⟩, hB⟩ hK
    have hc := hv.cell
    gi_wp2
    refine ⟨by simp, .inl ⟨_, _, rfl, run_takeDeferred hK, ?_⟩⟩
    exact ⟨_, results_tmp rfl _ _ _, v, rfl, ownsRow_putObj hrow _ hK rfl, hnil, hB.trans (belowK_b (w := w) (Nat.le_refl _) W D _ _ (by simp at hD; omega) hK rfl rfl)⟩
  case stop =>
    rintro D c pre W _ _ h _
    exact h.elim
end SgD
end Go.Proofs.YtphccomhggnccaaGreat
