/- Stable merging in place, in plain numbers: rotations, shuffles, two sorted runs made one. -/
import Derived.Test.YtphccomhggnccaaGreatGen
import Derived.Shelf.SlSortCmp.InsertionK
import Derived.Shelf.SlSortCmp.ReverseRangeK
namespace Go.Proofs.YtphccomhggnccaaGreat
set_option maxRecDepth 100000
set_option linter.unusedVariables false
set_option linter.unusedSimpArgs false
namespace St
def rotIx (a m b x : Nat) : Nat := if a ≤ x ∧ x < b then (if x < a + (b - m) then x + (m - a) else x - (b - m)) else x
theorem rotIx_out {a m b x : Nat} (h : ¬ (a ≤ x ∧ x < b)) : rotIx a m b x = x := by unfold rotIx; rw [if_neg h]
theorem rotIx_lo {a m b x : Nat} (h1 : a ≤ x) (h2 : x < a + (b - m)) (hm : a ≤ m) (hb : m ≤ b) : rotIx a m b x = x + (m - a) := by
  unfold rotIx; rw [if_pos ⟨h1, by omega⟩, if_pos h2]
theorem rotIx_hi {a m b x : Nat} (h1 : a + (b - m) ≤ x) (h2 : x < b) (hm : a ≤ m) (hb : m ≤ b) : rotIx a m b x = x - (b - m) := by
  unfold rotIx; rw [if_pos ⟨by omega, h2⟩, if_neg (by omega)]
def Shuf {α : Type} (a b : Nat) (f g : Nat → α) : Prop :=
  ∃ σ τ : Nat → Nat, (∀ x, σ (τ x) = x) ∧ (∀ x, τ (σ x) = x) ∧ (∀ x, ¬ (a ≤ x ∧ x < b) → σ x = x) ∧ ∀ x, g x = f (σ x)
section
variable {α : Type} {a b m : Nat} {f g h : Nat → α}
theorem Shuf.refl (a b : Nat) (f : Nat → α) : Shuf a b f f := ⟨id, id, fun _ => rfl, fun _ => rfl, fun _ _ => rfl, fun _ => rfl⟩
theorem Shuf.trans (h1 : Shuf a b f g) (h2 : Shuf a b g h) : Shuf a b f h := by
  obtain ⟨s1, t1, a1, b1, c1, d1⟩ := h1
  obtain ⟨s2, t2, a2, b2, c2, d2⟩ := h2
  refine ⟨fun x => s1 (s2 x), fun x => t2 (t1 x), fun x => ?_, fun x => ?_, fun x hx => ?_, fun x => ?_⟩
  · dsimp only; rw [a2, a1]
  · dsimp only; rw [b1, b2]
  · dsimp only; rw [c2 x hx, c1 x hx]
  · rw [d2, d1]
theorem Shuf.mono {a' b' : Nat} (h1 : Shuf a b f g) (ha : a' ≤ a) (hb : b ≤ b') : Shuf a' b' f g := by
  obtain ⟨s1, t1, a1, b1, c1, d1⟩ := h1
  exact ⟨s1, t1, a1, b1, fun x hx => c1 x (by omega), d1⟩
theorem Shuf.out (h1 : Shuf a b f g) {x : Nat} (hx : ¬ (a ≤ x ∧ x < b)) : g x = f x := by
  obtain ⟨s1, t1, a1, b1, c1, d1⟩ := h1
  rw [d1, c1 x hx]
theorem Shuf.inn (h1 : Shuf a b f g) {x : Nat} (h2 : a ≤ x) (h3 : x < b) : ∃ y, a ≤ y ∧ y < b ∧ g x = f y := by
  obtain ⟨s1, t1, a1, b1, c1, d1⟩ := h1
  by_cases hy : a ≤ s1 x ∧ s1 x < b
  · exact ⟨s1 x, hy.1, hy.2, d1 x⟩
  · have h4 := c1 _ hy
    have h5 := congrArg t1 h4
    rw [b1, b1] at h5
    rw [h5] at hy
    exact absurd ⟨h2, h3⟩ hy
theorem Shuf.of_rot (hm : a ≤ m) (hb : m ≤ b) (hg : ∀ x, g x = f (rotIx a m b x)) : Shuf a b f g := by
  refine ⟨rotIx a m b, rotIx a (a + (b - m)) b, ?_, ?_, fun x hx => rotIx_out hx, hg⟩
  · intro x; unfold rotIx; split <;> (try split) <;> (try split) <;> (try split) <;> omega
  · intro x; unfold rotIx; split <;> (try split) <;> (try split) <;> (try split) <;> omega
end
def Srt {α : Type} (T : α → α → Prop) (f : Nat → α) (a b : Nat) : Prop := ∀ i j, a ≤ i → i < j → j < b → ¬ T (f j) (f i)
structure Weak {α : Type} (T : α → α → Prop) : Prop where
  asym : ∀ x y, T x y → ¬ T y x
  tr : ∀ x y z, ¬ T y x → ¬ T z y → ¬ T z x
section
variable {α : Type} {T : α → α → Prop} {f g : Nat → α} {a m b : Nat}
theorem Srt.le (hT : Weak T) (h : Srt T f a b) {i j : Nat} (hi : a ≤ i) (hij : i ≤ j) (hj : j < b) : ¬ T (f j) (f i) := by
  rcases Nat.lt_or_eq_of_le hij with h1 | rfl
  · exact h i j hi h1 hj
  · exact fun h2 => hT.asym _ _ h2 h2
theorem Srt.sub {a' b' : Nat} (h : Srt T f a b) (ha : a ≤ a') (hb : b' ≤ b) : Srt T f a' b' := fun i j h1 h2 h3 => h i j (by omega) h2 (by omega)
theorem Srt.join (h1 : Srt T f a m) (h2 : Srt T f m b) (hx : ∀ i j, a ≤ i → i < m → m ≤ j → j < b → ¬ T (f j) (f i)) : Srt T f a b := by
  intro i j hi hij hj
  by_cases h3 : j < m
  · exact h1 i j hi hij h3
  · by_cases h4 : i < m
    · exact hx i j hi h4 (by omega) hj
    · exact h2 i j (by omega) hij hj
theorem ins_fwd (hT : Weak T) {i : Nat} (hs : Srt T f (a + 1) b) (hab : a + 1 ≤ i) (hib : i ≤ b) (h1 : i = a + 1 ∨ T (f (i - 1)) (f a)) (h2 : i = b ∨ ¬ T (f i) (f a)) (hg : ∀ x, g x = f (rotIx a (a + 1) i x)) : Srt T g a b := by
  have e1 : ∀ x, a ≤ x → x < i - 1 → g x = f (x + 1) := fun x ha hx => by rw [hg, rotIx_lo ha (by omega) (by omega) (by omega)]; congr 1; omega
  have e2 : g (i - 1) = f a := by rw [hg, rotIx_hi (by omega) (by omega) (by omega) (by omega)]; congr 1; omega
  have e3 : ∀ x, i ≤ x → g x = f x := fun x hx => by rw [hg, rotIx_out (by omega)]
  intro x y hx hxy hy
  by_cases c1 : y < i - 1
  · rw [e1 y (by omega) c1, e1 x hx (by omega)]; exact hs _ _ (by omega) (by omega) (by omega)
  by_cases c2 : y = i - 1
  · rw [c2, e2, e1 x hx (by omega)]
    have h4 : T (f (i - 1)) (f a) := by rcases h1 with h1 | h1; · omega
                                        · exact h1
    exact hT.tr _ _ _ (hs.le hT (i := x + 1) (j := i - 1) (by omega) (by omega) (by omega)) (hT.asym _ _ h4)
  rw [e3 y (by omega)]
  have h5 : ¬ T (f y) (f a) := by
    have h6 : ¬ T (f i) (f a) := by rcases h2 with h2 | h2; · omega
                                    · exact h2
    exact hT.tr _ _ _ h6 (hs.le hT (by omega) (by omega) hy)
  by_cases c3 : x < i - 1
  · rw [e1 x hx c3]; exact hs _ _ (by omega) (by omega) hy
  by_cases c4 : x = i - 1
  · rw [c4, e2]; exact h5
  · rw [e3 x (by omega)]; exact hs _ _ (by omega) hxy hy
theorem ins_bwd (hT : Weak T) {i : Nat} (hs : Srt T f a m) (hai : a ≤ i) (him : i ≤ m) (h1 : i = a ∨ ¬ T (f m) (f (i - 1))) (h2 : i = m ∨ T (f m) (f i)) (hg : ∀ x, g x = f (rotIx i m (m + 1) x)) : Srt T g a (m + 1) := by
  have e1 : ∀ x, x < i → g x = f x := fun x hx => by rw [hg, rotIx_out (by omega)]
  have e2 : g i = f m := by rw [hg, rotIx_lo (by omega) (by omega) (by omega) (by omega)]; congr 1; omega
  have e3 : ∀ x, i < x → x ≤ m → g x = f (x - 1) := fun x hx h3 => by rw [hg, rotIx_hi (by omega) (by omega) (by omega) (by omega)]; congr 1; omega
  intro x y hx hxy hy
  by_cases c1 : y < i
  · rw [e1 y c1, e1 x (by omega)]; exact hs _ _ hx hxy (by omega)
  by_cases c2 : y = i
  · rw [c2, e2, e1 x (by omega)]
    have h4 : ¬ T (f m) (f (i - 1)) := by rcases h1 with h1 | h1; · omega
                                          · exact h1
    exact hT.tr _ _ _ (hs.le hT (i := x) (j := i - 1) hx (by omega) (by omega)) h4
  rw [e3 y (by omega) (by omega)]
  have h5 : T (f m) (f i) := by rcases h2 with h2 | h2; · omega
                                · exact h2
  by_cases c3 : x < i
  · rw [e1 x c3]; exact hs _ _ hx (by omega) (by omega)
  by_cases c4 : x = i
  · rw [c4, e2]; exact hT.tr _ _ _ (hT.asym _ _ h5) (hs.le hT (by omega) (by omega) (by omega))
  · rw [e3 x (by omega) (by omega)]; exact hs _ _ (by omega) (by omega) (by omega)
theorem sym_mid (hT : Weak T) {mid s e : Nat} (h1 : Srt T f a m) (h2 : Srt T f m b) (hm : a ≤ m) (hb : m ≤ b) (hs : a ≤ s) (hsm : s ≤ m) (hme : m ≤ e) (heb : e ≤ b) (hse : s + e = mid + m) (hmid1 : a ≤ mid) (hmid2 : mid ≤ b)
    (k1 : s = a ∨ e = b ∨ ¬ T (f e) (f (s - 1))) (k2 : s = m ∨ e = m ∨ T (f (e - 1)) (f s)) (hg : ∀ x, g x = f (rotIx s m e x)) :
    Srt T g a s ∧ Srt T g s mid ∧ Srt T g mid e ∧ Srt T g e b ∧ ∀ i j, a ≤ i → i < mid → mid ≤ j → j < b → ¬ T (g j) (g i) := by
  have e1 : ∀ x, x < s → g x = f x := fun x hx => by rw [hg, rotIx_out (by omega)]
  have e2 : ∀ x, s ≤ x → x < mid → g x = f (x + (m - s)) := fun x hx h3 => by rw [hg, rotIx_lo hx (by omega) hsm hme]
  have e3 : ∀ x, mid ≤ x → x < e → g x = f (x - (e - m)) := fun x hx h3 => by rw [hg, rotIx_hi (by omega) h3 hsm hme]
  have e4 : ∀ x, e ≤ x → g x = f x := fun x hx => by rw [hg, rotIx_out (by omega)]
  refine ⟨?_, ?_, ?_, ?_, ?_⟩
  · intro i j hi hij hj; rw [e1 i (by omega), e1 j hj]; exact h1 _ _ hi hij (by omega)
  · intro i j hi hij hj; rw [e2 i hi (by omega), e2 j (by omega) hj]; exact h2 _ _ (by omega) (by omega) (by omega)
  · intro i j hi hij hj; rw [e3 i hi (by omega), e3 j (by omega) hj]; exact h1 _ _ (by omega) (by omega) (by omega)
  · intro i j hi hij hj; rw [e4 i hi, e4 j (by omega)]; exact h2 _ _ (by omega) hij hj
  · intro i j hi hi2 hj hj2
    by_cases c1 : i < s
    · rw [e1 i c1]
      by_cases c2 : j < e
      · rw [e3 j hj c2]; exact h1.le hT hi (by omega) (by omega)
      · rw [e4 j (by omega)]
        have h5 : ¬ T (f e) (f (s - 1)) := by rcases k1 with k1 | k1 | k1; · omega
                                              · omega
                                              · exact k1
        exact hT.tr _ _ _ (h1.le hT (i := i) (j := s - 1) hi (by omega) (by omega)) (hT.tr _ _ _ h5 (h2.le hT hme (by omega) hj2))
    · rw [e2 i (by omega) hi2]
      by_cases c2 : j < e
      · rw [e3 j hj c2]
        have h5 : T (f (e - 1)) (f s) := by rcases k2 with k2 | k2 | k2; · omega
                                            · omega
                                            · exact k2
        exact hT.tr _ _ _ (h2.le hT (i := i + (m - s)) (j := e - 1) (by omega) (by omega) (by omega)) (hT.tr _ _ _ (hT.asym _ _ h5) (h1.le hT (i := s) (j := j - (e - m)) hs (by omega) (by omega)))
      · rw [e4 j (by omega)]; exact h2.le hT (by omega) (by omega) hj2
theorem sym_end {g' g'' : Nat → α} {mid : Nat} (hmid : a ≤ mid) (hmb : mid ≤ b) (hx : ∀ i j, a ≤ i → i < mid → mid ≤ j → j < b → ¬ T (g j) (g i)) (p1 : Shuf a mid g g') (p2 : Shuf mid b g' g'') (s1 : Srt T g' a mid) (s2 : Srt T g'' mid b) : Srt T g'' a b := by
  refine Srt.join (m := mid) ?_ s2 ?_
  · intro i j hi hij hj; rw [p2.out (by omega), p2.out (by omega)]; exact s1 _ _ hi hij hj
  · intro i j hi hi2 hj hj2
    rw [p2.out (x := i) (by omega)]
    obtain ⟨y, y1, y2, e1⟩ := p1.inn hi hi2
    obtain ⟨z, z1, z2, e2⟩ := p2.inn hj hj2
    rw [e1, e2, p1.out (x := z) (by omega)]
    exact hx _ _ y1 y2 z1 z2
end
end St
end Go.Proofs.YtphccomhggnccaaGreat
namespace Go.Proofs.YtphccomhggnccaaGreat
set_option maxRecDepth 100000
set_option linter.unusedVariables false
set_option linter.unusedSimpArgs false
namespace St
section
variable {α : Type} {T : α → α → Prop} {cf : α → α → Int} {f g h : Nat → α} {n : Nat}
structure Run (T : α → α → Prop) (n : Nat) (C : Nat → Prop) (f g : Nat → α) : Prop where
  shuf : ∃ σ τ : Nat → Nat, (∀ x, σ (τ x) = x) ∧ (∀ x, τ (σ x) = x) ∧ (∀ x, ¬ x < n → σ x = x) ∧ (∀ c, C c → ∀ x, x < c ↔ σ x < c) ∧ ∀ x, g x = f (σ x)
  runs : ∀ u v, C u → (C v ∨ v = n) → v ≤ n → (∀ c, u < c → c < v → ¬ C c) → Srt T g u v
theorem Run.self (C : Nat → Prop) (hC : ∀ u v, C u → (C v ∨ v = n) → (∀ c, u < c → c < v → ¬ C c) → v ≤ u + 1) : Run T n C f f :=
  ⟨⟨id, id, fun _ => rfl, fun _ => rfl, fun _ _ => rfl, fun _ _ _ => Iff.rfl, fun _ => rfl⟩, fun u v h1 h2 _ h4 i j hi hij hj => by have := hC u v h1 h2 h4; omega⟩
theorem Run.step {C C' : Nat → Prop} {a b : Nat} (H : Run T n C f g) (hs : Shuf a b g h) (ht : Srt T h a b) (hab : a ≤ b) (hbn : b ≤ n) (hsub : ∀ c, C' c → C c) (hout : ∀ c, C c → c ≤ a ∨ b ≤ c → C' c) (ha : C' a) (hb : C' b ∨ b = n) (hno : ∀ c, a < c → c < b → ¬ C' c) : Run T n C' f h := by
  obtain ⟨s1, t1, p1, p2, p3, p4, p5⟩ := H.shuf
  have hs' := hs
  obtain ⟨s2, t2, q1, q2, q3, q4⟩ := hs
  have hin : ∀ x, a ≤ x → x < b → a ≤ s2 x ∧ s2 x < b := fun x h1 h2 => by
    by_cases h3 : a ≤ s2 x ∧ s2 x < b
    · exact h3
    · have h4 := congrArg t2 (q3 _ h3)
      rw [q2, q2] at h4
      rw [h4] at h3
      exact absurd ⟨h1, h2⟩ h3
  refine ⟨⟨fun x => s1 (s2 x), fun x => t2 (t1 x), fun x => ?_, fun x => ?_, fun x hx => ?_, fun c hc x => ?_, fun x => ?_⟩, fun u v hu hv hvn hno2 => ?_⟩
  · dsimp only; rw [q1, p1]
  · dsimp only; rw [p2, q2]
  · dsimp only; rw [q3 x (by omega), p3 x hx]
  · dsimp only
    rw [← p4 c (hsub c hc)]
    by_cases h1 : a ≤ x ∧ x < b
    · have h2 := hin x h1.1 h1.2
      have h3 : ¬ (a < c ∧ c < b) := fun h => hno c h.1 h.2 hc
      omega
    · rw [q3 x h1]
  · dsimp only; rw [q4, p5]
  · by_cases h1 : v ≤ a
    · have h2 := H.runs u v (hsub u hu) (hv.imp (hsub v) id) hvn fun c k1 k2 k3 => hno2 c k1 k2 (hout c k3 (.inl (by omega)))
      intro i j hi hij hj
      rw [hs'.out (x := i) (by omega), hs'.out (x := j) (by omega)]
      exact h2 i j hi hij hj
    · by_cases h2 : b ≤ u
      · have h3 := H.runs u v (hsub u hu) (hv.imp (hsub v) id) hvn fun c k1 k2 k3 => hno2 c k1 k2 (hout c k3 (.inr (by omega)))
        intro i j hi hij hj
        rw [hs'.out (x := i) (by omega), hs'.out (x := j) (by omega)]
        exact h3 i j hi hij hj
      · have h3 : ¬ (a < u ∧ u < b) := fun h => hno u h.1 h.2 hu
        have h4 : ¬ u < a := fun h => hno2 a h (by omega) ha
        obtain rfl : u = a := by omega
        have h5 : ¬ v < b := fun h => by
          rcases hv with hv | hv
          · exact hno v (by omega) h hv
          · omega
        have h6 : ¬ b < v := fun h => by
          rcases hb with hb | hb
          · exact hno2 b (by omega) h hb
          · omega
        obtain rfl : v = b := by omega
        exact ht
theorem Run.ag {C : Nat → Prop} (H : Run T n C f g) (hag : ∀ i j, i < j → j < n → (cf (f j) (f i) < 0 ↔ T (f j) (f i))) {c : Nat} (hc : C c) {i j : Nat} (hi : i < c) (hj : c ≤ j) (hjn : j < n) : cf (g j) (g i) < 0 ↔ T (g j) (g i) := by
  obtain ⟨s1, t1, p1, p2, p3, p4, p5⟩ := H.shuf
  have h1 := (p4 c hc i).1 hi
  have h2 : ¬ s1 j < c := fun h => by have := (p4 c hc j).2 h; omega
  have h3 : s1 j < n := by
    by_cases h : s1 j < n
    · exact h
    · have h4 := congrArg t1 (p3 _ h)
      rw [p2, p2] at h4
      omega
  rw [p5 i, p5 j]
  exact hag _ _ (by omega) h3
theorem Run.mono {C C' : Nat → Prop} (H : Run T n C f g) (h1 : ∀ c, c ≤ n → (C' c ↔ C c)) (h2 : ∀ c, C' c → n < c → C c) : Run T n C' f g := by
  obtain ⟨s1, t1, p1, p2, p3, p4, p5⟩ := H.shuf
  refine ⟨⟨s1, t1, p1, p2, p3, fun c hc => p4 c ?_, p5⟩, fun u v hu hv hvn hno => ?_⟩
  · by_cases h : c ≤ n
    · exact (h1 c h).1 hc
    · exact h2 c hc (by omega)
  · by_cases h : u ≤ n
    · exact H.runs u v ((h1 u h).1 hu) (hv.imp (fun q => (h1 v hvn).1 q) id) hvn fun c k1 k2 k3 => hno c k1 k2 ((h1 c (by omega)).2 k3)
    · intro i j hi hij hj; omega
end
def CI (n a c : Nat) : Prop := 20 ∣ c ∨ a ≤ c
def CP (B n a c : Nat) : Prop := 2 * B ∣ c ∨ (a ≤ c ∧ B ∣ c) ∨ n ≤ c
def CE (B n c : Nat) : Prop := B ∣ c ∨ n ≤ c
theorem dvd_gap {B a c : Nat} (ha : B ∣ a) (h1 : a < c) (h2 : c < a + B) : ¬ B ∣ c := fun h => by
  have h3 := (Nat.dvd_sub h ha)
  have := Nat.le_of_dvd (by omega) h3
  omega
theorem two_dvd {B a : Nat} (h : 2 * B ∣ a) : B ∣ a := Nat.dvd_trans (Nat.dvd_mul_left B 2) h
section
variable {α : Type} {T : α → α → Prop} {f g h : Nat → α} {n : Nat}
theorem run_start : Run T n (CI n 0) f f := Run.self _ fun u v _ _ h4 => by
  by_cases h : v ≤ u + 1
  · exact h
  · exact absurd (.inr (Nat.zero_le _)) (h4 (u + 1) (by omega) (by omega))
theorem run_ins {a b : Nat} (H : Run T n (CI n a) f g) (ha : 20 ∣ a) (hb : b = a + 20 ∨ (b = n ∧ n < a + 20)) (hab : a ≤ b) (hbn : b ≤ n) (hs : Shuf a b g h) (ht : Srt T h a b) : Run T n (CI n b) f h := by
  refine H.step hs ht hab hbn (fun c hc => ?_) (fun c hc hc2 => ?_) (.inl ha) ?_ (fun c h1 h2 hc => ?_)
  · unfold CI at *; rcases hc with hc | hc
    · exact .inl hc
    · exact .inr (by omega)
  · unfold CI at *; rcases hc with hc | hc
    · exact .inl hc
    · rcases hc2 with h | h
      · exact .inl (by obtain rfl : c = a := by omega
                       exact ha)
      · exact .inr h
  · unfold CI
    exact .inl (.inr (Nat.le_refl _))
  · unfold CI at hc
    rcases hc with hc | hc <;> omega
theorem run_first (H : Run T n (CI n n) f g) : Run T n (CE 20 n) f g := H
theorem run_enter {B : Nat} (H : Run T n (CE B n) f g) : Run T n (CP B n 0) f g := by
  refine H.mono (fun c hc => ?_) (fun c hc hn => .inr (by omega))
  unfold CP CE
  constructor
  · rintro (q | ⟨_, q⟩ | q)
    · exact .inl (two_dvd q)
    · exact .inl q
    · exact .inr q
  · rintro (q | q)
    · exact .inr (.inl ⟨Nat.zero_le _, q⟩)
    · exact .inr (.inr q)
theorem run_left {B a b : Nat} (H : Run T n (CP B n a) f g) (hB : 0 < B) (ha : 2 * B ∣ a) (hab : a + B ≤ n) (hb : a + B < b) (hb2 : b = a + 2 * B ∨ b = n) (hb3 : b ≤ a + 2 * B) (hbn : b ≤ n) : Srt T g a (a + B) ∧ Srt T g (a + B) b := by
  have hBa := two_dvd ha
  have hBb : B ∣ a + B := (Nat.dvd_add_iff_right hBa).1 (Nat.dvd_refl B)
  have hno : ∀ c, a < c → c < b → c ≠ a + B → ¬ CP B n a c := fun c h1 h2 h3 h4 => by
    rcases h4 with h4 | ⟨_, h4⟩ | h4
    · exact dvd_gap ha h1 (by omega) h4
    · by_cases h5 : c < a + B
      · exact dvd_gap hBa h1 h5 h4
      · exact dvd_gap hBb (by omega) (by omega) h4
    · omega
  refine ⟨H.runs a (a + B) (.inl ha) (.inl (.inr (.inl ⟨by omega, hBb⟩))) (by omega) (fun c h1 h2 => hno c h1 (by omega) (by omega)), H.runs (a + B) b (.inr (.inl ⟨by omega, hBb⟩)) ?_ hbn (fun c h1 h2 => hno c (by omega) h2 (by omega))⟩
  rcases hb2 with h | h
  · exact .inl (.inl (by rw [h]; exact (Nat.dvd_add_iff_right ha).1 (Nat.dvd_refl _)))
  · exact .inr h
theorem run_merge {B a b : Nat} (H : Run T n (CP B n a) f g) (hB : 0 < B) (ha : 2 * B ∣ a) (hab : a ≤ b) (hb2 : b = a + 2 * B ∨ (b = n ∧ n < a + 2 * B)) (hbn : b ≤ n) (hs : Shuf a b g h) (ht : Srt T h a b) : Run T n (CP B n (a + 2 * B)) f h := by
  have h2b : 2 * B ∣ a + 2 * B := (Nat.dvd_add_iff_right ha).1 (Nat.dvd_refl _)
  refine H.step hs ht hab hbn (fun c hc => ?_) (fun c hc hc2 => ?_) (.inl ha) ?_ (fun c h1 h2 hc => ?_)
  · rcases hc with hc | ⟨h1, hc⟩ | hc
    · exact .inl hc
    · exact .inr (.inl ⟨by omega, hc⟩)
    · exact .inr (.inr hc)
  · rcases hc with hc | ⟨h1, hc⟩ | hc
    · exact .inl hc
    · rcases hc2 with h | h
      · obtain rfl : c = a := by omega
        exact .inl ha
      · by_cases h3 : a + 2 * B ≤ c
        · exact .inr (.inl ⟨h3, hc⟩)
        · exact .inr (.inr (by omega))
    · exact .inr (.inr hc)
  · rcases hb2 with h | h
    · exact .inl (.inl (by rw [h]; exact h2b))
    · exact .inr h.1
  · rcases hc with hc | ⟨h3, hc⟩ | hc
    · exact dvd_gap ha h1 (by omega) hc
    · omega
    · omega
theorem run_leave {B a : Nat} (H : Run T n (CP B n a) f g) (ha : 2 * B ∣ a) (h : n ≤ a + B) (hB : 0 < B) : Run T n (CE (2 * B) n) f g := by
  refine H.mono (fun c hc => ?_) (fun c hc hn => .inr (.inr (by omega)))
  unfold CP CE
  constructor
  · rintro (q | q)
    · exact .inl q
    · exact .inr (.inr q)
  · rintro (q | ⟨q1, q2⟩ | q)
    · exact .inl q
    · by_cases h1 : c = a
      · subst h1; exact .inl ha
      · by_cases h2 : c < a + B
        · exact absurd q2 (dvd_gap (two_dvd ha) (by omega) h2)
        · exact .inr (by omega)
    · exact .inr q
theorem run_end {B : Nat} (H : Run T n (CE B n) f g) (h : n ≤ B) (hn : 0 < n) : Shuf 0 n f g ∧ Srt T g 0 n := by
  obtain ⟨s1, t1, p1, p2, p3, p4, p5⟩ := H.shuf
  refine ⟨⟨s1, t1, p1, p2, fun x hx => p3 x (by omega), p5⟩, H.runs 0 n (.inl (Nat.dvd_zero B)) (.inr rfl) (Nat.le_refl _) fun c h1 h2 h3 => ?_⟩
  rcases h3 with h3 | h3
  · exact dvd_gap (Nat.dvd_zero B) h1 (by omega) h3
  · omega
end
end St
end Go.Proofs.YtphccomhggnccaaGreat
namespace Go.Proofs.YtphccomhggnccaaGreat
set_option maxRecDepth 100000
open Go.Proofs
set_option linter.unusedVariables false
set_option linter.unusedSimpArgs false
set_option maxRecDepth 1000000
open Go.Shelf Go.RowKit Go.Lib Go.Sort
namespace Sk
variable {α : Type} [Inhabited α]
def fA (d : Array α) (x : Nat) : α := d[x]!
theorem fA_swp (d : Array α) (i j : Nat) (hi : i < d.size) (hj : j < d.size) (x : Nat) : fA (swp d i j) x = if x = i then fA d j else if x = j then fA d i else fA d x := by
  show (swp d i j)[x]! = if x = i then d[j]! else if x = j then d[i]! else d[x]!
  rw [swp_get d hi hj x]
  by_cases h1 : x = j
  · subst h1
    by_cases h2 : x = i
    · subst h2; simp
    · rw [if_pos rfl, if_neg h2, if_pos rfl]
  · rw [if_neg h1, if_neg h1]
structure SwR (a b n : Nat) (d dk : Array α) : Prop where
  size : dk.size = d.size
  at' : ∀ x, fA dk x = if a ≤ x ∧ x < a + n then fA d (x + (b - a)) else if b ≤ x ∧ x < b + n then fA d (x - (b - a)) else fA d x
theorem SwR.zero (a b : Nat) (d : Array α) : SwR a b 0 d d := ⟨rfl, fun x => by rw [if_neg (by omega), if_neg (by omega)]⟩
theorem SwR.step {a b n : Nat} {d dk : Array α} (h : SwR a b n d dk) (hab : a + n < b) (hb : b + n < d.size) : SwR a b (n + 1) d (swp dk (a + n) (b + n)) := by
  refine ⟨by rw [size_swp]; exact h.size, fun x => ?_⟩
  rw [fA_swp _ _ _ (by rw [h.size]; omega) (by rw [h.size]; omega), h.at', h.at', h.at' x]
  by_cases h1 : x = a + n
  · subst h1
    rw [if_pos rfl, if_neg (by omega), if_neg (by omega), if_pos (by omega)]
    congr 1; omega
  · rw [if_neg h1]
    by_cases h2 : x = b + n
    · subst h2
      rw [if_pos rfl, if_neg (by omega), if_neg (by omega), if_neg (by omega), if_pos (by omega)]
      congr 1; omega
    · rw [if_neg h2]
      by_cases h3 : a ≤ x ∧ x < a + n
      · rw [if_pos h3, if_pos (by omega)]
      · rw [if_neg h3, if_neg (show ¬ (a ≤ x ∧ x < a + (n + 1)) by omega)]
        by_cases h4 : b ≤ x ∧ x < b + n
        · rw [if_pos h4, if_pos (by omega)]
        · rw [if_neg h4, if_neg (by omega)]
set_option maxHeartbeats 8000000 in
theorem swapR_any (enc : α → List Value) (kc : Nat) (aE : ∀ w, (isAgg 36).run Tryz.prog w = .ok true w) (zE : ∀ w, (Go.sizeOf 36).run Tryz.prog w = .ok kc w) (g : Nat) (cb : Array Value) (blk off cap a b n : Nat) (d0 d : Array α) (w0 w : World)
    (R : RowK enc kc w0 blk off d0) (hs : d0.size = d.size) (S : SWK enc kc w0 blk off d w) (hab : a + n ≤ b) (hb : b + n ≤ d.size) (hsz : d.size < 4611686018427387904) :
    Calls Tryz.prog 222 #[.slice (some ⟨blk, off, none⟩) d.size cap, .int .i64 (a : Int), .int .i64 (b : Int), .int .i64 (n : Int), .func (.func g) #[] cb] w fun e w' => e = .returned (.tuple #[]) ∧ ∃ dk, SWK enc kc w0 blk off dk w' ∧ SwR a b n d dk := by
  have mixed : Tryz.prog.follows Departure.mixedOrders = true := by kernel_rfl
  have S0 : Aside (SWK enc kc w0 blk off d w) := S
  clear S
  go_enter Tryz.func222, Tryz.ntmps222
  go_wp2
  go_loopg [10] n (fun kx s10 wr => ∃ (i : Nat) (dk : Array α), s10 = .int .i64 (i : Int) ∧ i + kx = n ∧ Aside (SWK enc kc w0 blk off dk wr) ∧ Hid (SwR a b i d dk))
  case atStart => exact ⟨0, d, rfl, by omega, S0, SwR.zero a b d⟩
  case round =>
    clear S0
    obtain ⟨i, dk, rfl, hkx, S1, HW⟩ := hrel
    have hds := HW.out.size
    by_cases hlt : i < n
    · have hlti : (i : Int) < (n : Int) := by omega
      go_wp2_with fail
      obtain ⟨iN, hiN⟩ : ∃ q, q = a + i := ⟨_, rfl⟩
      obtain ⟨jN, hjN⟩ : ∃ q, q = b + i := ⟨_, rfl⟩
      have ea : ((a : Int) + (i : Int)).toNat = iN := by omega
      have pa : (0 : Int) ≤ (a : Int) + (i : Int) := by omega
      have ba : (a : Int) + (i : Int) < (d.size : Int) := by omega
      have ra : IntKind.i64.wrap ((a : Int) + (i : Int)) = (a : Int) + (i : Int) := by rw [IntKind.wrap_i64]; omega
      have ec : ((b : Int) + (i : Int)).toNat = jN := by omega
      have pc : (0 : Int) ≤ (b : Int) + (i : Int) := by omega
      have bc : (b : Int) + (i : Int) < (d.size : Int) := by omega
      have rc : IntKind.i64.wrap ((b : Int) + (i : Int)) = (b : Int) + (i : Int) := by rw [IntKind.wrap_i64]; omega
      obtain ⟨x9, hx9⟩ : ∃ x, x = dk[a + i]! := ⟨_, rfl⟩
      obtain ⟨y9, hy9⟩ : ∃ x, x = dk[b + i]! := ⟨_, rfl⟩
      have S2 : Aside (SWK enc kc w0 blk off (swp dk (a + i) (b + i)) ((wr.drew.setCells blk (off + iN * kc) (enc y9)).setCells blk (off + jN * kc) (enc x9))) := by rw [hiN, hjN, hx9, hy9]; exact S1.out.swapped R (a + i) (b + i) (by omega) (by omega)
      have l9a := S1.out.ld1 R (by omega) Tryz.prog (a + i) (by omega)
      have l9b := S1.out.ld1 R (by omega) Tryz.prog (b + i) (by omega)
      have s9a := S1.out.st1 R (by omega) Tryz.prog (a + i) (by omega) y9
      have s9b := S1.out.st2 R (by omega) Tryz.prog (a + i) (b + i) (by omega) (by omega) y9 x9
      have n9a : (enc x9).length = kc := R.hk _
      have n9b : (enc y9).length = kc := R.hk _
      rw [← hjN, ← hiN] at s9b
      rw [← hx9, ← hiN] at l9a
      rw [← hy9, ← hjN] at l9b
      rw [← hiN] at s9a
      have HW2 : Hid (SwR a b (i + 1) d (swp dk (a + i) (b + i))) := HW.out.step (by omega) (by omega)
      generalize enc x9 = cI9 at *
      generalize enc y9 = cJ9 at *
      clear S1 hx9 hy9 hiN hjN HW
      go_wp2_with fail
      go_big_region_o
      clear l9a l9b s9a s9b
      generalize (wr.drew.setCells blk (off + iN * kc) cJ9).setCells blk (off + jN * kc) cI9 = w2 at S2 ⊢
      clear ea ec
      go_wp2
      go_roundg (n - (i + 1))
      case measure => omega
      case rel => exact ⟨i + 1, _, by go_num, by omega, S2, HW2⟩
    · obtain rfl : i = n := by omega
      go_wp2
      go_end0
      exact ⟨rfl, dk, S1.out, HW.out⟩
open St
theorem rot_left {i j m : Nat} {d dk : Array α} (h : SwR (m - i) m j d dk) (hi : i ≤ m) (hj : j < i) (x : Nat) : fA dk (rotIx (m - i + j) m (m + j) x) = fA d (rotIx (m - i) m (m + j) x) := by
  rw [h.at']
  unfold rotIx
  repeat' split
  all_goals first | omega | rfl | (congr 1; omega)
theorem rot_right {i j m : Nat} {d dk : Array α} (h : SwR (m - i) (m + j - i) i d dk) (hi : i ≤ m) (hj : i < j) (x : Nat) : fA dk (rotIx (m - i) m (m + j - i) x) = fA d (rotIx (m - i) m (m + j) x) := by
  rw [h.at']
  unfold rotIx
  repeat' split
  all_goals first | omega | rfl | (congr 1; omega)
theorem rot_end {i m : Nat} {d dk : Array α} (h : SwR (m - i) m i d dk) (hi : i ≤ m) (x : Nat) : fA dk x = fA d (rotIx (m - i) m (m + i) x) := by
  rw [h.at']
  unfold rotIx
  repeat' split
  all_goals first | omega | rfl | (congr 1; omega)
structure RotR (a m b : Nat) (d dk : Array α) : Prop where
  size : dk.size = d.size
  at' : ∀ x, fA dk x = fA d (rotIx a m b x)
set_option maxHeartbeats 8000000 in
theorem rotR_any (enc : α → List Value) (kc : Nat) (aE : ∀ w, (isAgg 36).run Tryz.prog w = .ok true w) (zE : ∀ w, (Go.sizeOf 36).run Tryz.prog w = .ok kc w) (g : Nat) (cb : Array Value) (blk off cap a m b : Nat) (d0 d : Array α) (w0 w : World)
    (R : RowK enc kc w0 blk off d0) (hs : d0.size = d.size) (S : SWK enc kc w0 blk off d w) (ham : a < m) (hmb : m < b) (hb : b ≤ d.size) (hsz : d.size < 4611686018427387904) :
    Calls Tryz.prog 208 #[.slice (some ⟨blk, off, none⟩) d.size cap, .int .i64 (a : Int), .int .i64 (m : Int), .int .i64 (b : Int), .func (.func g) #[] cb] w fun e w' => e = .returned (.tuple #[]) ∧ ∃ dk, SWK enc kc w0 blk off dk w' ∧ RotR a m b d dk := by
  have S0 : Aside (SWK enc kc w0 blk off d w) := S
  obtain ⟨i0, hi0⟩ : ∃ q, m - a = q := ⟨_, rfl⟩
  obtain ⟨j0, hj0⟩ : ∃ q, b - m = q := ⟨_, rfl⟩
  have ei0 : (m : Int) - (a : Int) = (i0 : Int) := by omega
  have ej0 : (b : Int) - (m : Int) = (j0 : Int) := by omega
  have SWC : Aside (∀ (dk : Array α) (W : World) (p q n : Nat), dk.size = d.size → SWK enc kc w0 blk off dk W → p + n ≤ q → q + n ≤ d.size → Calls Tryz.prog 222 #[.slice (some ⟨blk, off, none⟩) d.size cap, .int .i64 (p : Int), .int .i64 (q : Int), .int .i64 (n : Int), .func (.func g) #[] cb] W fun e w' => e = .returned (.tuple #[]) ∧ ∃ dk', SWK enc kc w0 blk off dk' w' ∧ SwR p q n dk dk') := fun dk W p q n h1 h2 h3 h4 => by
    have := swapR_any enc kc aE zE g cb blk off cap p q n d0 dk w0 W R (by omega) h2 h3 (by omega) (by omega)
    rwa [h1] at this
  clear S
  go_enter Tryz.func208, Tryz.ntmps208
  go_wp2
  go_loopg [10, 11] (i0 + j0) (fun kx s10 s11 wr => ∃ (i j : Nat) (dk : Array α), s10 = .int .i64 (i : Int) ∧ s11 = .int .i64 (j : Int) ∧ i + j ≤ kx ∧ 0 < i ∧ 0 < j ∧ i ≤ m ∧ m + j ≤ d.size ∧ dk.size = d.size ∧ Aside (SWK enc kc w0 blk off dk wr) ∧ Hid (∀ x, fA dk (rotIx (m - i) m (m + j) x) = fA d (rotIx a m b x)))
  case atStart => exact ⟨i0, j0, d, rfl, rfl, Nat.le_refl _, by omega, by omega, by omega, by omega, rfl, S0, fun x => by rw [show m - i0 = a by omega, show m + j0 = b by omega]⟩
  case round =>
    clear S0 ei0 ej0
    obtain ⟨i, j, dk, rfl, rfl, hk, hi, hj, him, hjd, hds, S1, HX⟩ := hrel
    obtain ⟨p, hp⟩ : ∃ q, m - i = q := ⟨_, rfl⟩
    have ep : (m : Int) - (i : Int) = (p : Int) := by omega
    by_cases hij : i = j
    · subst hij
      have HC := Lib.hid (SWC.out dk wr p m i hds S1.out (by omega) hjd)
      have HX2 := HX
      clear HX
      go_wp2_with fail
      go_at_call 222
      refine HC.out.mono ?_
      rintro e w2 ⟨rfl, dk2, S2, h2⟩
      go_wp2
      go_end0
      refine ⟨rfl, dk2, S2, ⟨h2.size.trans hds, fun x => ?_⟩⟩
      subst hp
      rw [rot_end h2 him x]
      exact HX2.out x
    · have hne : ¬ (i : Int) = (j : Int) := by omega
      by_cases hlt : j < i
      · have hlti : (j : Int) < (i : Int) := by omega
        obtain ⟨i2, hi2⟩ : ∃ q, i - j = q := ⟨_, rfl⟩
        have ei2 : (i : Int) - (j : Int) = (i2 : Int) := by omega
        have HC := Lib.hid (SWC.out dk wr p m j hds S1.out (by omega) hjd)
        go_wp2_with fail
        go_at_call 222
        refine HC.out.mono ?_
        rintro e w2 ⟨rfl, dk2, S2, h2⟩
        have S2' : Aside (SWK enc kc w0 blk off dk2 w2) := S2
        have hsz2 := h2.size
        have HX2 : Hid (∀ x, fA dk2 (rotIx (m - i2) m (m + j) x) = fA d (rotIx a m b x)) := fun x => by
          subst hp
          rw [show m - i2 = m - i + j by omega, rot_left h2 him hlt x]
          exact HX.out x
        clear S2 h2 S1 HC HX ep
        go_wp2
        go_roundg (i2 + j)
        case measure => omega
        case rel => exact ⟨i2, j, dk2, rfl, rfl, Nat.le_refl _, by omega, hj, by omega, hjd, by omega, S2', HX2⟩
      · have hlti : ¬ (j : Int) < (i : Int) := by omega
        obtain ⟨j2, hj2⟩ : ∃ q, j - i = q := ⟨_, rfl⟩
        have ej2 : (j : Int) - (i : Int) = (j2 : Int) := by omega
        obtain ⟨q, hq⟩ : ∃ q, m + j - i = q := ⟨_, rfl⟩
        have eq' : (m : Int) + (j : Int) - (i : Int) = (q : Int) := by omega
        have HC := Lib.hid (SWC.out dk wr p q i hds S1.out (by omega) (by omega))
        go_wp2_with fail
        go_at_call 222
        refine HC.out.mono ?_
        rintro e w2 ⟨rfl, dk2, S2, h2⟩
        have S2' : Aside (SWK enc kc w0 blk off dk2 w2) := S2
        have hsz2 := h2.size
        have HX2 : Hid (∀ x, fA dk2 (rotIx (m - i) m (m + j2) x) = fA d (rotIx a m b x)) := fun x => by
          subst hp
          subst hq
          rw [show m + j2 = m + j - i by omega, rot_right h2 him (by omega) x]
          exact HX.out x
        clear S2 h2 S1 HC HX ep eq'
        go_wp2
        go_roundg (i + j2)
        case measure => omega
        case rel => exact ⟨i, j2, dk2, rfl, rfl, Nat.le_refl _, hi, by omega, him, by omega, by omega, S2', HX2⟩
end Sk
end Go.Proofs.YtphccomhggnccaaGreat
