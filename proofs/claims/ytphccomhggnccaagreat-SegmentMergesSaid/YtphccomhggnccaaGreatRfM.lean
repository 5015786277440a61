/- haystackref9: sorted, Key. -/
import Derived.Test.YtphccomhggnccaaGreatSgX
import Derived.Deep.RegionHeld3
import Derived.IntWalk
import Derived.Laws.Cover1
import Derived.Test.YtphccomhggnccaaGreatRfB
set_option linter.unusedVariables false
set_option linter.unusedSimpArgs false
set_option maxRecDepth 100000
namespace Go.Proofs.YtphccomhggnccaaGreat
open Go.RowKit Go.Shelf Go.Sort Sg Fm
namespace Sg
structure MgK (x y : List Key) (i k : Nat) (acc : List Key) : Prop where
  eq : acc ++ List.merge (x.drop i) (y.drop k) leK = List.merge x y leK
  len : acc.length = i + k
theorem MgK.start (x y : List Key) : MgK x y 0 0 [] := ⟨by simp, rfl⟩
theorem getDk {l : List Key} {i : Nat} (h : i < l.length) : l.getD i [] = l[i] := by simp [List.getD, List.getElem?_eq_getElem h]
theorem MgK.left {x y : List Key} {i k : Nat} {acc : List Key} (h : MgK x y i k acc) (hi : i < x.length) (hk : y.length ≤ k ∨ (k < y.length ∧ leK (x.getD i []) (y.getD k []) = true)) : MgK x y (i + 1) k (acc ++ [x.getD i []]) := by
  refine ⟨?_, by rw [List.length_append, h.len]; simp; omega⟩
  rw [← h.eq, List.append_assoc]
  congr 1
  conv => rhs; rw [List.drop_eq_getElem_cons hi]
  rw [getDk hi]
  rcases hk with hk | ⟨hk, hle⟩
  · rw [List.drop_eq_nil_of_le hk]; simp
  · rw [getDk hi, getDk hk] at hle
    rw [List.drop_eq_getElem_cons hk, List.cons_merge_cons, if_pos hle]
    rfl
theorem MgK.right {x y : List Key} {i k : Nat} {acc : List Key} (h : MgK x y i k acc) (hk : k < y.length) (hi : x.length ≤ i ∨ (i < x.length ∧ leK (x.getD i []) (y.getD k []) = false)) : MgK x y i (k + 1) (acc ++ [y.getD k []]) := by
  refine ⟨?_, by rw [List.length_append, h.len]; simp; omega⟩
  rw [← h.eq, List.append_assoc]
  congr 1
  conv => rhs; rw [List.drop_eq_getElem_cons hk]
  rw [getDk hk]
  rcases hi with hi | ⟨hi, hle⟩
  · rw [List.drop_eq_nil_of_le hi]; simp
  · rw [getDk hi, getDk hk] at hle
    rw [List.drop_eq_getElem_cons hi, List.cons_merge_cons, if_neg (by rw [hle]; decide)]
    rfl
theorem MgK.done {x y : List Key} {i k : Nat} {acc : List Key} (h : MgK x y i k acc) (hi : x.length ≤ i) (hk : y.length ≤ k) : acc = List.merge x y leK := by
  rw [← h.eq, List.drop_eq_nil_of_le hi, List.drop_eq_nil_of_le hk]; simp
theorem getD_drop0 (l : List Key) (i : Nat) : (l.drop i).getD 0 [] = l.getD i [] := by simp [List.getD]
theorem merge_srt (a b : List Key) : List.merge (srt a) (srt b) leK = srt (a ++ b) := by
  refine srt_eq ((List.merge_perm_append leK).trans ((srt_perm a).append (srt_perm b))) ?_
  have h := List.pairwise_merge (le := leK) leK_trans leK_total (srt a) (srt b) ((srt_sorted a).imp fun h => (leK_iff ..).2 h) ((srt_sorted b).imp fun h => (leK_iff ..).2 h)
  exact h.imp fun h => (leK_iff ..).1 h
end Sg
def lenOf : Value → Nat
  | .slice _ n _ => n
  | _ => 0
theorem leK_str (x y : Key) : leK x y = (Op.bytesLess x y || x == y) := by
  rw [bytesLess_eq]
  show decide (x ≤ y) = (decide (x < y) || x == y)
  rw [Bool.eq_iff_iff, Bool.or_eq_true, decide_eq_true_iff, decide_eq_true_iff, beq_iff_eq]
  constructor
  · intro h
    by_cases h2 : x < y
    · exact .inl h2
    · exact .inr (List.le_antisymm h (List.not_lt.1 h2))
  · rintro (h | rfl)
    · exact List.le_of_lt h
    · exact List.le_refl _
def SortP (W : World) (l : List Key) (n : Nat) (e : Ending) (W' : World) : Prop := ∃ A c, e = .returned (.slice A n c) ∧ GArg W' A n c (srt l) ∧ (∀ a, A = some a → W.heap.size ≤ a.block ∧ a.block < W'.heap.size ∧ a.spot = none) ∧ Below W.heap.size W W'
theorem garg_cell {w : World} {b off n c : Nat} {l : List Key} (h : GArg w (some ⟨b, off, none⟩) n c l) {i : Nat} (hi : i < n) : w.cell? ⟨b, off + i, none⟩ = some (.string (ba (l.getD i []))) := VS_cell h.sl (by rw [h.len]; exact hi)
theorem garg_lit {w : World} {A : Option Addr} {n c : Nat} {l : List Key} (h : GArg w A n c l) (hn : 0 < n) : ∃ b off, A = some ⟨b, off, none⟩ := by
  cases A with
  | none => have := h.nil rfl; have := h.le; omega
  | some a =>
    obtain ⟨b, off, sp⟩ := a
    have : sp = none := (h.lt hn _ rfl).2
    subst this
    exact ⟨b, off, rfl⟩
theorem garg_take {w : World} {b off n c : Nat} {l : List Key} (h : GArg w (some ⟨b, off, none⟩) n c l) (k : Nat) (hk : k ≤ n) : GArg w (some ⟨b, off, none⟩) k c (l.take k) := by
  refine ⟨by rw [List.length_take, h.len]; omega, Nat.le_trans hk h.le, nofun, ⟨nofun, fun a ha j u hu => ?_⟩⟩
  cases ha
  refine h.sl.cell _ rfl j u ?_
  rw [← hu]
  simp only [VS, List.map_take]
  rw [List.getElem?_take]
  split
  · rfl
  · rename_i hj
    rw [List.getElem?_eq_none (by simp [VS, List.length_take]; omega)] at hu
    cases hu
theorem garg_drop {w : World} {b off n c : Nat} {l : List Key} (h : GArg w (some ⟨b, off, none⟩) n c l) (k : Nat) (hk : k ≤ n) : GArg w (some ⟨b, off + k, none⟩) (n - k) (c - k) (l.drop k) := by
  have hle := h.le
  refine ⟨by rw [List.length_drop, h.len], by omega, nofun, ⟨nofun, fun a ha j u hu => ?_⟩⟩
  cases ha
  have hu' : (VS l)[k + j]? = some u := by
    rw [← hu]
    simp only [VS, List.map_drop]
    rw [List.getElem?_drop]
  have h1 := h.sl.cell _ rfl (k + j) u hu'
  rw [show (⟨b, off, none⟩ : Addr).add (k + j) = ⟨b, off + k + j, none⟩ by unfold Addr.add; split <;> simp_all; omega] at h1
  rwa [show (⟨b, off + k, none⟩ : Addr).add j = ⟨b, off + k + j, none⟩ by unfold Addr.add; split <;> simp_all]
theorem garg_own {w : World} {base : Nat} {A : Option Addr} {m c n : Nat} {l : List Key} (h : w.ownsRow base 9 1 (.slice A m c) n (VS l)) : GArg w A n c l := by
  obtain ⟨A', c', hv, hS, hnc, hnil, hl, ha, -⟩ := own_form h
  injection hv with h1 h2 h3
  subst h1 h3
  exact ⟨by rw [VS_length] at hl; omega, hnc, hnil, hS⟩
theorem own_ge {w : World} {base : Nat} {e : TypeId} {size : Nat} {A : Option Addr} {m c n : Nat} {xs : List Value} (h : w.ownsRow base e size (.slice A m c) n xs) : ∀ a, A = some a → base ≤ a.block ∧ a.block < w.heap.size ∧ a.spot = none := by
  obtain ⟨A', c', hv, -, -, -, -, ha, -⟩ := own_form h
  injection hv with h1 h2 h3
  subst h1
  exact fun a e => ⟨(ha a e).1, (ha a e).2.1, by rw [(ha a e).2.2.1]⟩
theorem garg_tail {w : World} {b off n c : Nat} {l : List Key} (h : GArg w (some ⟨b, off, none⟩) (n + 1) c l) : (c = 1 → GArg w (some ⟨b, off, none⟩) n (c - 1) (l.drop 1)) ∧ (¬ c = 1 → GArg w (some ⟨b, off + 1, none⟩) n (c - 1) (l.drop 1)) := by
  refine ⟨fun hc => ?_, fun _ => garg_drop h 1 (by omega)⟩
  have h1 := h.le
  have h2 := h.len
  obtain rfl : n = 0 := by omega
  have e : l.drop 1 = [] := List.drop_eq_nil_of_le (by omega)
  rw [e]
  exact ⟨rfl, by omega, nofun, ⟨nofun, fun a ha j u hu => by simp [VS] at hu⟩⟩
set_option maxHeartbeats 8000000 in
theorem sorted9_any : ∀ (m : Nat) (l : List Key) (A : Option Addr) (c : Nat) (w : World), GArg w A m c l → m ≤ 65536 →
    Calls Tryz.prog 39 #[.slice A m c] w (SortP w l m) := by
  intro m
  induction m using Nat.strongRecOn with
  | ind m ih =>
  intro l A c w hG hm
  by_cases h2 : m < 2
  · have h2i : (m : Int) < 2 := by omega
    have HG := Lib.hid hG
    have hs : srt l = l := by
      have hl := hG.len
      match l, hl with
      | [], _ => simp [srt]
      | [a], _ => exact (srt_eq (List.Perm.refl _) (List.pairwise_singleton _ _)).symm
      | _ :: _ :: _, h => simp at h; omega
    have hO : (w.alloc (.cells #[] 9)).ownsRow w.heap.size 9 1 (.slice (some ⟨w.heap.size, 0, none⟩) 0 0) 0 [] := World.ownsRow_made w #[] 0 (Nat.le_refl _) (by decide) (by simp)
    have hC := below_new w (.cells #[] 9)
    go_enter Tryz.func39, Tryz.ntmps39
    go_wp2_with (at_builtin; refine appE el_str rfl _ _ rfl w.heap.size _ 0 [] rfl hO A m c (VS l) rfl HG.out.nil (by rw [VS_length, HG.out.len, Nat.mul_one]) (HG.out.sl.below hC) (VS_one _) (by omega) hC.size ?_; intro v1 w1 hown1 hg1 _ _; obtain ⟨A1, c1, hv1, -, -, -, -, -, -⟩ := own_form hown1; subst hv1; rw [List.nil_append] at hown1; have H1 := Lib.hid hown1; have HB1 := Lib.hid (hC.grown hg1 hC.size (fun k hk => (World.ownsRow.lt hO k hk).1)); clear hown1 hg1)
    go_ret
    have h9 := H1.out
    rw [Nat.zero_add] at h9
    exact ⟨A1, c1, rfl, by rw [hs]; exact garg_own h9, own_ge h9, HB1.out⟩
  · obtain ⟨b, off, rfl⟩ := garg_lit hG (by omega)
    have h2i : ¬ (m : Int) < 2 := by omega
    obtain ⟨h, hh⟩ : ∃ h, m / 2 = h := ⟨_, rfl⟩
    have q1 : ((m : Int)).tdiv 2 = (h : Int) := by rw [Int.tdiv_eq_ediv_of_nonneg (by omega)]; omega
    have q2 : ((m : Int)) / 2 = (h : Int) := by omega
    have h1 : 1 ≤ h := by omega
    have hhm : h < m := by omega
    have hhc : h ≤ c := by have := hG.le; omega
    have hmc := hG.le
    have z1 : (c == h) = false := by rw [beq_eq_false_iff_ne]; omega
    have z2 : ¬ c = h := by omega
    have HX := Lib.hid (fun (W : World) (k : Below w.heap.size w W) => ih h hhm (l.take h) (some ⟨b, off, none⟩) c W ((garg_take hG h (by omega)).below k) (by omega))
    have HY := Lib.hid (fun (W : World) (k : Below w.heap.size w W) => ih (m - h) (by omega) (l.drop h) (some ⟨b, off + h, none⟩) (c - h) W ((garg_drop hG h (by omega)).below k) (by omega))
    have Hms : Hid (srt (l.take h ++ l.drop h) = srt l) := Lib.hid (by rw [List.take_append_drop])
    have Hh := Lib.hid hh
    clear ih hG hh
    generalize l.take h = lx at *
    generalize l.drop h = ly at *
    obtain ⟨h', hh'⟩ : ∃ h', m - h = h' := ⟨_, rfl⟩
    obtain ⟨c', hc'⟩ : ∃ c', c - h = c' := ⟨_, rfl⟩
    rw [hh', hc'] at HY
    have hsum : h + h' = m := by omega
    go_enter Tryz.func39, Tryz.ntmps39
    go_upto_region 3 with fail
    go_cut [3, 4] (fun sx sy wx => ∃ Ax cx Ay cy, sx = .slice Ax h cx ∧ sy = .slice Ay h' cy ∧ GArg wx Ax h cx (srt lx) ∧ GArg wx Ay h' cy (srt ly) ∧ Below w.heap.size w wx)
    case first =>
      have r0 : IntKind.i64.wrap (h : Int) = (h : Int) := IntWalk.i64_in _ (by omega)
      have r1 : IntKind.i64.wrap ((m : Int).tdiv 2) = (h : Int) := by rw [q1]; exact r0
      have r2 : IntKind.i64.wrap ((m : Int) / 2) = (h : Int) := by rw [q2]; exact r0
      have b1 : (0 : Int) ≤ (h : Int) := by omega
      have b2 : (h : Int) ≤ (c : Int) := by omega
      have b3 : (h : Int) ≤ (m : Int) := by omega
      have b4 : (m : Int) ≤ (c : Int) := by omega
      go_region_held3 (fun W => Below w.heap.size w W)
        (first | exact below_drewN _ _ _ | exact (Below.refl _ _).drew | exact below_step (by assumption) (by assumption))
        (first | (go_at_call 39; first | ((with_reducible refine (HX.out _ (by assumption)).mono ?_); rintro e w5 ⟨A5, c5, rfl, hG5, -, hB5⟩) | ((with_reducible refine (HY.out _ (by assumption)).mono ?_); rintro e w6 ⟨A6, c6, rfl, hG6, -, hB6⟩)))
      all_goals go_wp2_with fail
      all_goals go_meet
      all_goals exact ⟨A5, c5, A6, c6, rfl, rfl, by first | exact hG5 | exact hG5.below (by assumption), by first | exact hG6 | exact hG6.below (by assumption), by first | exact below_step (below_step (below_drewN w.heap.size w 1) hB5) hB6 | exact below_step (below_step (below_drewN w.heap.size w 1) hB6) hB5⟩
    case rest =>
      obtain ⟨Ax0, cx0, Ay0, cy0, rfl, rfl, hGx, hGy, hB⟩ := hcut
      have HGx0 := Lib.hid hGx
      have HGy0 := Lib.hid hGy
      have HBc := Lib.hid hB
      have Hlx := Lib.hid hGx.len
      have Hly := Lib.hid hGy.len
      clear hGx hGy hB HX HY q1 q2
      go_wp2_with fail
      go_loopw [5, 3, 4] (fun out sx sy wr => ∃ (i k nx ny : Nat) (acc : List Key) (Ax Ay Ao : Option Addr) (cx cy co : Nat), nx + i = h ∧ ny + k = h' ∧ sx = .slice Ax nx cx ∧ sy = .slice Ay ny cy ∧ out = .slice Ao acc.length co ∧ Hid (GArg wc Ax nx cx ((srt lx).drop i)) ∧ Hid (GArg wc Ay ny cy ((srt ly).drop k)) ∧ Hid (wr.ownsRow wc.heap.size 9 1 (.slice Ao acc.length co) acc.length (VS acc)) ∧ Hid (MgK (srt lx) (srt ly) i k acc) ∧ Hid (Below wc.heap.size wc wr)) (fun _ sx sy _ => lenOf sx + lenOf sy)
      case atStart => exact ⟨0, 0, h, h', [], Ax0, Ay0, none, cx0, cy0, 0, rfl, rfl, rfl, rfl, rfl, by simpa using HGx0, by simpa using HGy0, Lib.hid (World.ownsRow_nil _ _ _ _), Lib.hid (MgK.start _ _), Lib.hid (Below.refl _ _)⟩
      case round =>
        clear HGx0 HGy0
        obtain ⟨i, k, nx, ny, acc, Ax, Ay, Ao, cx, cy, co, hi, hk, rfl, rfl, rfl, HGx, HGy, HO, HM, HB⟩ := hrel
        by_cases hx0 : 0 < nx
        · obtain ⟨bx, ox, rfl⟩ := garg_lit HGx.out hx0
          have hcx : wr.cell? ⟨bx, ox, none⟩ = _ := garg_cell (HGx.out.below HB.out) hx0
          by_cases hy0 : 0 < ny
          · obtain ⟨by', oy, rfl⟩ := garg_lit HGy.out hy0
            have hcy : wr.cell? ⟨by', oy, none⟩ = _ := garg_cell (HGy.out.below HB.out) hy0
            have j1 : (0 : Int) < (nx : Int) := by omega
            have j2 : (0 : Int) < (ny : Int) := by omega
            have j3 : ¬ (ny : Int) = 0 := by omega
            have j4 : ¬ ny = 0 := by omega
            have e1 : ((ny : Int) == 0) = false := by rw [beq_eq_false_iff_ne]; omega
            have e2 : (ny == 0) = false := by rw [beq_eq_false_iff_ne]; omega
            have e3 : decide ((0 : Int) < (nx : Int)) = true := decide_eq_true (by omega)
            have e4 : decide (0 < nx) = true := decide_eq_true (by omega)
            have e5 : decide (ny = 0) = false := decide_eq_false (by omega)
            have e6 : decide ((ny : Int) = 0) = false := decide_eq_false (by omega)
            have hle : leK (((srt lx).drop i).getD 0 []) (((srt ly).drop k).getD 0 []) = (Op.bytesLess (((srt lx).drop i).getD 0 []) (((srt ly).drop k).getD 0 []) || (((srt lx).drop i).getD 0 []) == (((srt ly).drop k).getD 0 [])) := leK_str _ _
            have HML := Lib.hid (fun e => HM.out.left (i := i) (k := k) (by rw [Hlx.out]; omega) (.inr ⟨by rw [Hly.out]; omega, e⟩))
            have HMR := Lib.hid (fun e => HM.out.right (i := i) (k := k) (by rw [Hly.out]; omega) (.inr ⟨by rw [Hlx.out]; omega, e⟩))
            rw [getD_drop0, getD_drop0] at hle
            rw [getD_drop0] at hcx hcy
            generalize (srt lx).getD i [] = kx at *
            generalize (srt ly).getD k [] = ky at *
            have Hle := Lib.hid hle
            clear hle
            generalize hb1 : Op.bytesLess kx ky = b1 at *
            generalize hb2 : (kx == ky) = b2 at *
            cases b1 with
            | true =>
              go_wp2_with fail
              go_quiet (fail)
              obtain ⟨w9, hw9⟩ : ∃ w9, wr.drewN nq = w9 := ⟨_, rfl⟩
              have hD9 : Below wr.heap.size wr w9 := by rw [← hw9]; exact below_drewN _ _ _
              have hc9 : w9.cell? ⟨bx, ox, none⟩ = some (.string (ba kx)) := by rw [← hw9]; exact hcx
              have HO9 := Lib.hid (own_below HO.out hD9)
              have HB9 := Lib.hid (below_step HB.out hD9)
              rw [hw9]
              clear hw9 hD9 hcx hcy
              have hs9 := HB9.out.size
              have hal : acc.length ≤ 65536 := by have := HM.out.len; omega
              have hT := garg_tail (n := nx - 1) (by rw [Nat.sub_add_cancel hx0]; exact HGx.out)
              have hcle := HGx.out.le
              have g1 : (1 : Int) ≤ (nx : Int) := by omega
              obtain ⟨n1, hn1⟩ : ∃ n1, nx - 1 = n1 := ⟨_, rfl⟩
              obtain ⟨cd, hc1⟩ : ∃ cd, cx - 1 = cd := ⟨_, rfl⟩
              rw [hn1, hc1, List.drop_drop] at hT
              have HT := Lib.hid hT
              clear hT
              by_cases hone : cx = 1
              · have Hpk := Lib.hid (HT.out.1 hone)
                have g2 : (cx == 1) = true := by rw [hone]; rfl
                obtain rfl : cd = 0 := by omega
                clear HT
                go_wp2_with (at_builtin; refine appE el_str rfl _ _ rfl wc.heap.size _ acc.length (VS acc) rfl (World.ownsRow.alloc HO9.out _) (some ⟨w9.heap.size, 0, none⟩) 1 1 [encStr kx] rfl (fun e => by cases e) rfl (sl_blk (heap_alloc_new w9 _)) (fun u hu => by simp at hu; subst hu; rfl) (by omega) (by simp; omega) ?_; intro v7 w7 hown7 hg7 _ _; obtain ⟨A7, c7, hv7, -, -, -, -, -, -⟩ := own_form hown7; subst hv7; have H7 := Lib.hid hown7; have HB7 := Lib.hid ((HB9.out.alloc hs9 (.cells #[.string (ba kx)] 9)).grown hg7 (by simp; omega) (fun k hk => (World.ownsRow.lt HO9.out k hk).1)); clear hown7 hg7)
                go_roundw
                case rel => exact ⟨i + 1, k, n1, ny, acc ++ [kx], some ⟨bx, ox, none⟩, _, A7, _, cy, c7, by omega, hk, by rfl, rfl, by rw [List.length_append]; rfl, Lib.hid (Hpk.out), HGy, Lib.hid (by rw [List.length_append, VS_append]; exact H7.out), Lib.hid (HML.out (Hle.out.trans rfl)), HB7⟩
                case measure => simp [lenOf]; omega
              · have Hpk := Lib.hid (HT.out.2 hone)
                have g2 : (cx == 1) = false := by rw [beq_eq_false_iff_ne]; exact hone
                clear HT
                go_wp2_with (at_builtin; refine appE el_str rfl _ _ rfl wc.heap.size _ acc.length (VS acc) rfl (World.ownsRow.alloc HO9.out _) (some ⟨w9.heap.size, 0, none⟩) 1 1 [encStr kx] rfl (fun e => by cases e) rfl (sl_blk (heap_alloc_new w9 _)) (fun u hu => by simp at hu; subst hu; rfl) (by omega) (by simp; omega) ?_; intro v7 w7 hown7 hg7 _ _; obtain ⟨A7, c7, hv7, -, -, -, -, -, -⟩ := own_form hown7; subst hv7; have H7 := Lib.hid hown7; have HB7 := Lib.hid ((HB9.out.alloc hs9 (.cells #[.string (ba kx)] 9)).grown hg7 (by simp; omega) (fun k hk => (World.ownsRow.lt HO9.out k hk).1)); clear hown7 hg7)
                go_roundw
                case rel => exact ⟨i + 1, k, n1, ny, acc ++ [kx], some ⟨bx, ox + 1, none⟩, _, A7, _, cy, c7, by omega, hk, by rfl, rfl, by rw [List.length_append]; rfl, Lib.hid (Hpk.out), HGy, Lib.hid (by rw [List.length_append, VS_append]; exact H7.out), Lib.hid (HML.out (Hle.out.trans rfl)), HB7⟩
                case measure => simp [lenOf]; omega
            | false =>
              cases b2 with
              | true =>
                go_wp2_with fail
                go_quiet (fail)
                obtain ⟨w9, hw9⟩ : ∃ w9, wr.drewN nq = w9 := ⟨_, rfl⟩
                have hD9 : Below wr.heap.size wr w9 := by rw [← hw9]; exact below_drewN _ _ _
                have hc9 : w9.cell? ⟨bx, ox, none⟩ = some (.string (ba kx)) := by rw [← hw9]; exact hcx
                have HO9 := Lib.hid (own_below HO.out hD9)
                have HB9 := Lib.hid (below_step HB.out hD9)
                rw [hw9]
                clear hw9 hD9 hcx hcy
                have hs9 := HB9.out.size
                have hal : acc.length ≤ 65536 := by have := HM.out.len; omega
                have hT := garg_tail (n := nx - 1) (by rw [Nat.sub_add_cancel hx0]; exact HGx.out)
                have hcle := HGx.out.le
                have g1 : (1 : Int) ≤ (nx : Int) := by omega
                obtain ⟨n1, hn1⟩ : ∃ n1, nx - 1 = n1 := ⟨_, rfl⟩
                obtain ⟨cd, hc1⟩ : ∃ cd, cx - 1 = cd := ⟨_, rfl⟩
                rw [hn1, hc1, List.drop_drop] at hT
                have HT := Lib.hid hT
                clear hT
                by_cases hone : cx = 1
                · have Hpk := Lib.hid (HT.out.1 hone)
                  have g2 : (cx == 1) = true := by rw [hone]; rfl
                  obtain rfl : cd = 0 := by omega
                  clear HT
                  go_wp2_with (at_builtin; refine appE el_str rfl _ _ rfl wc.heap.size _ acc.length (VS acc) rfl (World.ownsRow.alloc HO9.out _) (some ⟨w9.heap.size, 0, none⟩) 1 1 [encStr kx] rfl (fun e => by cases e) rfl (sl_blk (heap_alloc_new w9 _)) (fun u hu => by simp at hu; subst hu; rfl) (by omega) (by simp; omega) ?_; intro v7 w7 hown7 hg7 _ _; obtain ⟨A7, c7, hv7, -, -, -, -, -, -⟩ := own_form hown7; subst hv7; have H7 := Lib.hid hown7; have HB7 := Lib.hid ((HB9.out.alloc hs9 (.cells #[.string (ba kx)] 9)).grown hg7 (by simp; omega) (fun k hk => (World.ownsRow.lt HO9.out k hk).1)); clear hown7 hg7)
                  go_roundw
                  case rel => exact ⟨i + 1, k, n1, ny, acc ++ [kx], some ⟨bx, ox, none⟩, _, A7, _, cy, c7, by omega, hk, by rfl, rfl, by rw [List.length_append]; rfl, Lib.hid (Hpk.out), HGy, Lib.hid (by rw [List.length_append, VS_append]; exact H7.out), Lib.hid (HML.out (Hle.out.trans rfl)), HB7⟩
                  case measure => simp [lenOf]; omega
                · have Hpk := Lib.hid (HT.out.2 hone)
                  have g2 : (cx == 1) = false := by rw [beq_eq_false_iff_ne]; exact hone
                  clear HT
                  go_wp2_with (at_builtin; refine appE el_str rfl _ _ rfl wc.heap.size _ acc.length (VS acc) rfl (World.ownsRow.alloc HO9.out _) (some ⟨w9.heap.size, 0, none⟩) 1 1 [encStr kx] rfl (fun e => by cases e) rfl (sl_blk (heap_alloc_new w9 _)) (fun u hu => by simp at hu; subst hu; rfl) (by omega) (by simp; omega) ?_; intro v7 w7 hown7 hg7 _ _; obtain ⟨A7, c7, hv7, -, -, -, -, -, -⟩ := own_form hown7; subst hv7; have H7 := Lib.hid hown7; have HB7 := Lib.hid ((HB9.out.alloc hs9 (.cells #[.string (ba kx)] 9)).grown hg7 (by simp; omega) (fun k hk => (World.ownsRow.lt HO9.out k hk).1)); clear hown7 hg7)
                  go_roundw
                  case rel => exact ⟨i + 1, k, n1, ny, acc ++ [kx], some ⟨bx, ox + 1, none⟩, _, A7, _, cy, c7, by omega, hk, by rfl, rfl, by rw [List.length_append]; rfl, Lib.hid (Hpk.out), HGy, Lib.hid (by rw [List.length_append, VS_append]; exact H7.out), Lib.hid (HML.out (Hle.out.trans rfl)), HB7⟩
                  case measure => simp [lenOf]; omega
              | false =>
                go_wp2_with fail
                go_quiet (fail)
                obtain ⟨w9, hw9⟩ : ∃ w9, wr.drewN nq = w9 := ⟨_, rfl⟩
                have hD9 : Below wr.heap.size wr w9 := by rw [← hw9]; exact below_drewN _ _ _
                have hc9 : w9.cell? ⟨by', oy, none⟩ = some (.string (ba ky)) := by rw [← hw9]; exact hcy
                have HO9 := Lib.hid (own_below HO.out hD9)
                have HB9 := Lib.hid (below_step HB.out hD9)
                rw [hw9]
                clear hw9 hD9 hcx hcy
                have hs9 := HB9.out.size
                have hal : acc.length ≤ 65536 := by have := HM.out.len; omega
                have hT := garg_tail (n := ny - 1) (by rw [Nat.sub_add_cancel hy0]; exact HGy.out)
                have hcle := HGy.out.le
                have g1 : (1 : Int) ≤ (ny : Int) := by omega
                obtain ⟨n1, hn1⟩ : ∃ n1, ny - 1 = n1 := ⟨_, rfl⟩
                obtain ⟨cd, hc1⟩ : ∃ cd, cy - 1 = cd := ⟨_, rfl⟩
                rw [hn1, hc1, List.drop_drop] at hT
                have HT := Lib.hid hT
                clear hT
                by_cases hone : cy = 1
                · have Hpk := Lib.hid (HT.out.1 hone)
                  have g2 : (cy == 1) = true := by rw [hone]; rfl
                  obtain rfl : cd = 0 := by omega
                  clear HT
                  go_wp2_with (at_builtin; refine appE el_str rfl _ _ rfl wc.heap.size _ acc.length (VS acc) rfl (World.ownsRow.alloc HO9.out _) (some ⟨w9.heap.size, 0, none⟩) 1 1 [encStr ky] rfl (fun e => by cases e) rfl (sl_blk (heap_alloc_new w9 _)) (fun u hu => by simp at hu; subst hu; rfl) (by omega) (by simp; omega) ?_; intro v7 w7 hown7 hg7 _ _; obtain ⟨A7, c7, hv7, -, -, -, -, -, -⟩ := own_form hown7; subst hv7; have H7 := Lib.hid hown7; have HB7 := Lib.hid ((HB9.out.alloc hs9 (.cells #[.string (ba ky)] 9)).grown hg7 (by simp; omega) (fun k hk => (World.ownsRow.lt HO9.out k hk).1)); clear hown7 hg7)
                  go_roundw
                  case rel => exact ⟨i, k + 1, nx, n1, acc ++ [ky], _, some ⟨by', oy, none⟩, A7, cx, _, c7, hi, by omega, rfl, by rfl, by rw [List.length_append]; rfl, HGx, Lib.hid (Hpk.out), Lib.hid (by rw [List.length_append, VS_append]; exact H7.out), Lib.hid (HMR.out (Hle.out.trans rfl)), HB7⟩
                  case measure => simp [lenOf]; omega
                · have Hpk := Lib.hid (HT.out.2 hone)
                  have g2 : (cy == 1) = false := by rw [beq_eq_false_iff_ne]; exact hone
                  clear HT
                  go_wp2_with (at_builtin; refine appE el_str rfl _ _ rfl wc.heap.size _ acc.length (VS acc) rfl (World.ownsRow.alloc HO9.out _) (some ⟨w9.heap.size, 0, none⟩) 1 1 [encStr ky] rfl (fun e => by cases e) rfl (sl_blk (heap_alloc_new w9 _)) (fun u hu => by simp at hu; subst hu; rfl) (by omega) (by simp; omega) ?_; intro v7 w7 hown7 hg7 _ _; obtain ⟨A7, c7, hv7, -, -, -, -, -, -⟩ := own_form hown7; subst hv7; have H7 := Lib.hid hown7; have HB7 := Lib.hid ((HB9.out.alloc hs9 (.cells #[.string (ba ky)] 9)).grown hg7 (by simp; omega) (fun k hk => (World.ownsRow.lt HO9.out k hk).1)); clear hown7 hg7)
                  go_roundw
                  case rel => exact ⟨i, k + 1, nx, n1, acc ++ [ky], _, some ⟨by', oy + 1, none⟩, A7, cx, _, c7, hi, by omega, rfl, by rfl, by rw [List.length_append]; rfl, HGx, Lib.hid (Hpk.out), Lib.hid (by rw [List.length_append, VS_append]; exact H7.out), Lib.hid (HMR.out (Hle.out.trans rfl)), HB7⟩
                  case measure => simp [lenOf]; omega
          · obtain rfl : ny = 0 := by omega
            have HML := Lib.hid (HM.out.left (i := i) (k := k) (by rw [Hlx.out]; omega) (.inl (by rw [Hly.out]; omega)))
            have j1 : (0 : Int) < (nx : Int) := by omega
            have e3 : decide ((0 : Int) < (nx : Int)) = true := decide_eq_true (by omega)
            have e4 : decide (0 < nx) = true := decide_eq_true (by omega)
            rw [getD_drop0] at hcx
            generalize (srt lx).getD i [] = kx at *
            go_wp2_with fail
            go_quiet (fail)
            obtain ⟨w9, hw9⟩ : ∃ w9, wr.drewN nq = w9 := ⟨_, rfl⟩
            have hD9 : Below wr.heap.size wr w9 := by rw [← hw9]; exact below_drewN _ _ _
            have hc9 : w9.cell? ⟨bx, ox, none⟩ = some (.string (ba kx)) := by rw [← hw9]; exact hcx
            have HO9 := Lib.hid (own_below HO.out hD9)
            have HB9 := Lib.hid (below_step HB.out hD9)
            rw [hw9]
            clear hw9 hD9 hcx
            have hs9 := HB9.out.size
            have hal : acc.length ≤ 65536 := by have := HM.out.len; omega
            have hT := garg_tail (n := nx - 1) (by rw [Nat.sub_add_cancel hx0]; exact HGx.out)
            have hcle := HGx.out.le
            have g1 : (1 : Int) ≤ (nx : Int) := by omega
            obtain ⟨n1, hn1⟩ : ∃ n1, nx - 1 = n1 := ⟨_, rfl⟩
            obtain ⟨cd, hc1⟩ : ∃ cd, cx - 1 = cd := ⟨_, rfl⟩
            rw [hn1, hc1, List.drop_drop] at hT
            have HT := Lib.hid hT
            clear hT
            by_cases hone : cx = 1
            · have Hpk := Lib.hid (HT.out.1 hone)
              have g2 : (cx == 1) = true := by rw [hone]; rfl
              obtain rfl : cd = 0 := by omega
              clear HT
              go_wp2_with (at_builtin; refine appE el_str rfl _ _ rfl wc.heap.size _ acc.length (VS acc) rfl (World.ownsRow.alloc HO9.out _) (some ⟨w9.heap.size, 0, none⟩) 1 1 [encStr kx] rfl (fun e => by cases e) rfl (sl_blk (heap_alloc_new w9 _)) (fun u hu => by simp at hu; subst hu; rfl) (by omega) (by simp; omega) ?_; intro v7 w7 hown7 hg7 _ _; obtain ⟨A7, c7, hv7, -, -, -, -, -, -⟩ := own_form hown7; subst hv7; have H7 := Lib.hid hown7; have HB7 := Lib.hid ((HB9.out.alloc hs9 (.cells #[.string (ba kx)] 9)).grown hg7 (by simp; omega) (fun k hk => (World.ownsRow.lt HO9.out k hk).1)); clear hown7 hg7)
              go_roundw
              case rel => exact ⟨i + 1, k, n1, _, acc ++ [kx], some ⟨bx, ox, none⟩, _, A7, _, cy, c7, by omega, hk, by rfl, rfl, by rw [List.length_append]; rfl, Lib.hid (Hpk.out), HGy, Lib.hid (by rw [List.length_append, VS_append]; exact H7.out), HML, HB7⟩
              case measure => simp [lenOf]; omega
            · have Hpk := Lib.hid (HT.out.2 hone)
              have g2 : (cx == 1) = false := by rw [beq_eq_false_iff_ne]; exact hone
              clear HT
              go_wp2_with (at_builtin; refine appE el_str rfl _ _ rfl wc.heap.size _ acc.length (VS acc) rfl (World.ownsRow.alloc HO9.out _) (some ⟨w9.heap.size, 0, none⟩) 1 1 [encStr kx] rfl (fun e => by cases e) rfl (sl_blk (heap_alloc_new w9 _)) (fun u hu => by simp at hu; subst hu; rfl) (by omega) (by simp; omega) ?_; intro v7 w7 hown7 hg7 _ _; obtain ⟨A7, c7, hv7, -, -, -, -, -, -⟩ := own_form hown7; subst hv7; have H7 := Lib.hid hown7; have HB7 := Lib.hid ((HB9.out.alloc hs9 (.cells #[.string (ba kx)] 9)).grown hg7 (by simp; omega) (fun k hk => (World.ownsRow.lt HO9.out k hk).1)); clear hown7 hg7)
              go_roundw
              case rel => exact ⟨i + 1, k, n1, _, acc ++ [kx], some ⟨bx, ox + 1, none⟩, _, A7, _, cy, c7, by omega, hk, by rfl, rfl, by rw [List.length_append]; rfl, Lib.hid (Hpk.out), HGy, Lib.hid (by rw [List.length_append, VS_append]; exact H7.out), HML, HB7⟩
              case measure => simp [lenOf]; omega
        · obtain rfl : nx = 0 := by omega
          by_cases hy0 : 0 < ny
          · obtain ⟨by', oy, rfl⟩ := garg_lit HGy.out hy0
            have hcy : wr.cell? ⟨by', oy, none⟩ = _ := garg_cell (HGy.out.below HB.out) hy0
            have HMR := Lib.hid (HM.out.right (i := i) (k := k) (by rw [Hly.out]; omega) (.inl (by rw [Hlx.out]; omega)))
            have j2 : (0 : Int) < (ny : Int) := by omega
            have j3 : ¬ (ny : Int) = 0 := by omega
            have e1 : ((ny : Int) == 0) = false := by rw [beq_eq_false_iff_ne]; omega
            have e2 : (ny == 0) = false := by rw [beq_eq_false_iff_ne]; omega
            have e5 : decide (ny = 0) = false := decide_eq_false (by omega)
            have e6 : decide ((ny : Int) = 0) = false := decide_eq_false (by omega)
            rw [getD_drop0] at hcy
            generalize (srt ly).getD k [] = ky at *
            go_wp2_with fail
            go_quiet (fail)
            obtain ⟨w9, hw9⟩ : ∃ w9, wr.drewN nq = w9 := ⟨_, rfl⟩
            have hD9 : Below wr.heap.size wr w9 := by rw [← hw9]; exact below_drewN _ _ _
            have hc9 : w9.cell? ⟨by', oy, none⟩ = some (.string (ba ky)) := by rw [← hw9]; exact hcy
            have HO9 := Lib.hid (own_below HO.out hD9)
            have HB9 := Lib.hid (below_step HB.out hD9)
            rw [hw9]
            clear hw9 hD9 hcy
            have hs9 := HB9.out.size
            have hal : acc.length ≤ 65536 := by have := HM.out.len; omega
            have hT := garg_tail (n := ny - 1) (by rw [Nat.sub_add_cancel hy0]; exact HGy.out)
            have hcle := HGy.out.le
            have g1 : (1 : Int) ≤ (ny : Int) := by omega
            obtain ⟨n1, hn1⟩ : ∃ n1, ny - 1 = n1 := ⟨_, rfl⟩
            obtain ⟨cd, hc1⟩ : ∃ cd, cy - 1 = cd := ⟨_, rfl⟩
            rw [hn1, hc1, List.drop_drop] at hT
            have HT := Lib.hid hT
            clear hT
            by_cases hone : cy = 1
            · have Hpk := Lib.hid (HT.out.1 hone)
              have g2 : (cy == 1) = true := by rw [hone]; rfl
              obtain rfl : cd = 0 := by omega
              clear HT
              go_wp2_with (at_builtin; refine appE el_str rfl _ _ rfl wc.heap.size _ acc.length (VS acc) rfl (World.ownsRow.alloc HO9.out _) (some ⟨w9.heap.size, 0, none⟩) 1 1 [encStr ky] rfl (fun e => by cases e) rfl (sl_blk (heap_alloc_new w9 _)) (fun u hu => by simp at hu; subst hu; rfl) (by omega) (by simp; omega) ?_; intro v7 w7 hown7 hg7 _ _; obtain ⟨A7, c7, hv7, -, -, -, -, -, -⟩ := own_form hown7; subst hv7; have H7 := Lib.hid hown7; have HB7 := Lib.hid ((HB9.out.alloc hs9 (.cells #[.string (ba ky)] 9)).grown hg7 (by simp; omega) (fun k hk => (World.ownsRow.lt HO9.out k hk).1)); clear hown7 hg7)
              go_roundw
              case rel => exact ⟨i, k + 1, _, n1, acc ++ [ky], _, some ⟨by', oy, none⟩, A7, cx, _, c7, hi, by omega, rfl, by rfl, by rw [List.length_append]; rfl, HGx, Lib.hid (Hpk.out), Lib.hid (by rw [List.length_append, VS_append]; exact H7.out), HMR, HB7⟩
              case measure => simp [lenOf]; omega
            · have Hpk := Lib.hid (HT.out.2 hone)
              have g2 : (cy == 1) = false := by rw [beq_eq_false_iff_ne]; exact hone
              clear HT
              go_wp2_with (at_builtin; refine appE el_str rfl _ _ rfl wc.heap.size _ acc.length (VS acc) rfl (World.ownsRow.alloc HO9.out _) (some ⟨w9.heap.size, 0, none⟩) 1 1 [encStr ky] rfl (fun e => by cases e) rfl (sl_blk (heap_alloc_new w9 _)) (fun u hu => by simp at hu; subst hu; rfl) (by omega) (by simp; omega) ?_; intro v7 w7 hown7 hg7 _ _; obtain ⟨A7, c7, hv7, -, -, -, -, -, -⟩ := own_form hown7; subst hv7; have H7 := Lib.hid hown7; have HB7 := Lib.hid ((HB9.out.alloc hs9 (.cells #[.string (ba ky)] 9)).grown hg7 (by simp; omega) (fun k hk => (World.ownsRow.lt HO9.out k hk).1)); clear hown7 hg7)
              go_roundw
              case rel => exact ⟨i, k + 1, _, n1, acc ++ [ky], _, some ⟨by', oy + 1, none⟩, A7, cx, _, c7, hi, by omega, rfl, by rfl, by rw [List.length_append]; rfl, HGx, Lib.hid (Hpk.out), Lib.hid (by rw [List.length_append, VS_append]; exact H7.out), HMR, HB7⟩
              case measure => simp [lenOf]; omega
          · obtain rfl : ny = 0 := by omega
            have hacc := HM.out.done (by rw [Hlx.out]; omega) (by rw [Hly.out]; omega)
            rw [merge_srt, Hms.out] at hacc
            have hlen : acc.length = m := by have := HM.out.len; omega
            have hGo := garg_own HO.out
            rw [hlen] at hGo ⊢
            have HGo := Lib.hid hGo
            have hge := own_ge HO.out
            have HGe := Lib.hid (show ∀ a, Ao = some a → w.heap.size ≤ a.block ∧ a.block < wr.heap.size ∧ a.spot = none from fun a ha => ⟨Nat.le_trans HBc.out.size (hge a ha).1, (hge a ha).2⟩)
            clear hGo hge
            go_wp2_with fail
            go_ret
            exact ⟨Ao, co, rfl, by rw [← hacc]; exact HGo.out, HGe.out, below_step HBc.out HB.out⟩
end Go.Proofs.YtphccomhggnccaaGreat
namespace Go.Proofs.YtphccomhggnccaaGreat
open Go.RowKit Sg Fm
def OwnY (w : World) (t : List Nat) (e : Ending) (W' : World) : Prop := ∃ v, e = .returned v ∧ W'.ownsRow w.heap.size 5 1 v t.length (VY t) ∧ Below w.heap.size w W'
theorem and127 {u : Nat} (h : u < 18446744073709551616) : bits .and .u64 (u : Int) 127 = ((u % 128 : Nat) : Int) := by
  rw [show (127 : Int) = ((127 : Nat) : Int) from rfl, u64_and_nat u 127 h (by decide)]
  congr 1
  exact Nat.and_two_pow_sub_one_eq_mod u 7
set_option maxHeartbeats 4000000 in
theorem num1_any (w : World) (v : Nat) (hv : v < 4611686018427387904) : Calls Tryz.prog 89 #[.int .i64 (v : Int)] w (OwnY w (num v)) := by
  have h62 : ¬ (4611686018427387904 : Int) < (v : Int) := by omega
  by_cases hz : 0 < v
  · have hzi : (0 : Int) < (v : Int) := by omega
    have Hz : Hid (Value.int .u64 (v : Int) = Value.int .u64 (v : Int)) := Lib.hid rfl
    go_enter Tryz.func89, Tryz.ntmps89
    go_wp2_with fail
    go_loopw [3, 4] (fun q b wr => ∃ (u : Nat) (dn : List Nat), q = .int .u64 (u : Int) ∧ u ≤ v ∧ Hid (num v = dn ++ num u) ∧ Hid (wr.ownsRow w.heap.size 5 1 b dn.length (VY dn)) ∧ Hid (Below w.heap.size w wr)) (fun q _ _ => (intOf q).toNat)
    case atStart => exact ⟨v, [], (by first | exact Hz.out | rfl), Nat.le_refl _, Lib.hid rfl, Lib.hid (World.ownsRow_nil _ _ _ _), Lib.hid (Below.refl _ _)⟩
    case round =>
      obtain ⟨u, dn, rfl, huv, Hn, HO, HB⟩ := hrel
      obtain ⟨A1, c1, hv1, -, -, -, -, -, -⟩ := own_form HO.out
      subst hv1
      have hdl : dn.length + (num u).length ≤ 10 := by
        have h1 := congrArg List.length Hn.out
        have h2 := num_len 9 v (by omega)
        rw [List.length_append] at h1
        omega
      have hsw := HB.out.size
      have Hnh := Lib.hid (@num_hi u)
      have Hnl := Lib.hid (@num_lo u)
      by_cases hu : 128 ≤ u
      · have hui : (128 : Int) ≤ (u : Int) := by omega
        have hand := and127 (u := u) (by omega)
        have hor := @or128 (u % 128)
        have hnx := Hnh.out hu
        obtain ⟨r, hr⟩ : ∃ r, u % 128 = r := ⟨_, rfl⟩
        have hrl : r < 128 := by omega
        rw [hr] at hand hor hnx
        rw [Nat.mod_eq_of_lt hrl] at hor
        obtain ⟨d, hd⟩ : ∃ d, r + 128 = d := ⟨_, rfl⟩
        obtain ⟨u2, hu2⟩ : ∃ d, u / 128 = d := ⟨_, rfl⟩
        have hdv : (u : Int) / 128 = (u2 : Int) := by omega
        have hu2v : u2 < u := by omega
        rw [hd] at hor hnx
        rw [hu2] at hnx
        have Hnx := Lib.hid hnx
        clear hr hd hu2 hnx hrl
        go_wp2_with (at_builtin; refine appE el_u8 rfl _ _ rfl w.heap.size _ dn.length (VY dn) rfl (World.ownsRow.alloc HO.out _) (some ⟨wr.heap.size, 0, none⟩) 1 1 (VY [d]) rfl (fun h => by cases h) rfl (sl_blk (heap_alloc_new wr _)) (VY_one _) (by omega) (by simp; omega) ?_; intro v' w1 hown hg _ _; obtain ⟨A7, c7, hv7, -, -, -, -, -, -⟩ := own_form hown; subst hv7; have H7 := Lib.hid hown; have HB7 := Lib.hid ((HB.out.alloc hsw (.cells #[.int .u8 (d : Int)] 5)).grown hg (by simp; omega) (fun k hk => (World.ownsRow.lt HO.out k hk).1)); clear hown hg)
        go_roundw
        case rel => exact ⟨u2, dn ++ [d], by first | rfl | go_num, by omega, Lib.hid (by rw [Hn.out, Hnx.out]; simp), Lib.hid (by rw [List.length_append, VY_append]; exact H7.out), HB7⟩
        case measure => simp [intOf]; omega
      · have hui : ¬ (128 : Int) ≤ (u : Int) := by omega
        have hw8 : IntKind.u8.wrap (u : Int) = (u : Int) := wrap8_lo (by omega)
        have hm8 : (u : Int) % 256 = (u : Int) := by omega
        go_wp2_with (at_builtin; refine appE el_u8 rfl _ _ rfl w.heap.size _ dn.length (VY dn) rfl (World.ownsRow.alloc HO.out _) (some ⟨wr.heap.size, 0, none⟩) 1 1 (VY [u]) rfl (fun h => by cases h) rfl (sl_blk (heap_alloc_new wr _)) (VY_one _) (by omega) (by simp; omega) ?_; intro v' w1 hown hg _ _; obtain ⟨A7, c7, hv7, -, -, -, -, -, -⟩ := own_form hown; subst hv7; have H7 := Lib.hid hown; have HB7 := Lib.hid ((HB.out.alloc hsw (.cells #[.int .u8 (u : Int)] 5)).grown hg (by simp; omega) (fun k hk => (World.ownsRow.lt HO.out k hk).1)); clear hown hg)
        go_ret
        have e9 : num v = dn ++ [u] := by rw [Hn.out, Hnl.out (by omega)]
        exact ⟨_, rfl, by rw [e9, List.length_append, VY_append]; exact H7.out, HB7.out⟩
  · have hzi : ¬ (0 : Int) < (v : Int) := by omega
    have Hz : Hid (Value.int .u64 0 = Value.int .u64 (v : Int)) := by
      obtain rfl : v = 0 := by omega
      exact Lib.hid rfl
    go_enter Tryz.func89, Tryz.ntmps89
    go_wp2_with fail
    go_loopw [3, 4] (fun q b wr => ∃ (u : Nat) (dn : List Nat), q = .int .u64 (u : Int) ∧ u ≤ v ∧ Hid (num v = dn ++ num u) ∧ Hid (wr.ownsRow w.heap.size 5 1 b dn.length (VY dn)) ∧ Hid (Below w.heap.size w wr)) (fun q _ _ => (intOf q).toNat)
    case atStart => exact ⟨v, [], (by first | exact Hz.out | rfl), Nat.le_refl _, Lib.hid rfl, Lib.hid (World.ownsRow_nil _ _ _ _), Lib.hid (Below.refl _ _)⟩
    case round =>
      obtain ⟨u, dn, rfl, huv, Hn, HO, HB⟩ := hrel
      obtain ⟨A1, c1, hv1, -, -, -, -, -, -⟩ := own_form HO.out
      subst hv1
      have hdl : dn.length + (num u).length ≤ 10 := by
        have h1 := congrArg List.length Hn.out
        have h2 := num_len 9 v (by omega)
        rw [List.length_append] at h1
        omega
      have hsw := HB.out.size
      have Hnh := Lib.hid (@num_hi u)
      have Hnl := Lib.hid (@num_lo u)
      by_cases hu : 128 ≤ u
      · exfalso; omega
      · have hui : ¬ (128 : Int) ≤ (u : Int) := by omega
        have hw8 : IntKind.u8.wrap (u : Int) = (u : Int) := wrap8_lo (by omega)
        have hm8 : (u : Int) % 256 = (u : Int) := by omega
        go_wp2_with (at_builtin; refine appE el_u8 rfl _ _ rfl w.heap.size _ dn.length (VY dn) rfl (World.ownsRow.alloc HO.out _) (some ⟨wr.heap.size, 0, none⟩) 1 1 (VY [u]) rfl (fun h => by cases h) rfl (sl_blk (heap_alloc_new wr _)) (VY_one _) (by omega) (by simp; omega) ?_; intro v' w1 hown hg _ _; obtain ⟨A7, c7, hv7, -, -, -, -, -, -⟩ := own_form hown; subst hv7; have H7 := Lib.hid hown; have HB7 := Lib.hid ((HB.out.alloc hsw (.cells #[.int .u8 (u : Int)] 5)).grown hg (by simp; omega) (fun k hk => (World.ownsRow.lt HO.out k hk).1)); clear hown hg)
        go_ret
        have e9 : num v = dn ++ [u] := by rw [Hn.out, Hnl.out (by omega)]
        exact ⟨_, rfl, by rw [e9, List.length_append, VY_append]; exact H7.out, HB7.out⟩
theorem num_len10 {v : Nat} (h : v < 4611686018427387904) : (num v).length ≤ 10 := num_len 9 v (by omega)
set_option maxHeartbeats 4000000 in
theorem bytes1_any (w : World) (A : Option Addr) (n cap : Nat) (p : List Nat) (hS : Sl w A (VY p)) (hl : p.length = n) (hnil : A = none → cap = 0) (hn : n ≤ 1099511627) : Calls Tryz.prog 90 #[.slice A n cap] w (OwnY w (byt p)) := by
  have HN := Lib.hid (num1_any w n (by omega))
  have HS := Lib.hid hS
  have Hl := Lib.hid hl
  have Hnil := Lib.hid hnil
  have hnl := num_len10 (v := n) (by omega)
  clear hS hl hnil
  go_enter Tryz.func90, Tryz.ntmps90
  go_wp2_with fail
  go_at_call 89
  refine HN.out.mono ?_
  rintro e w1 ⟨v1, rfl, hO1, hB1⟩
  obtain ⟨A1, c1, hv1, -, -, -, -, -, -⟩ := own_form hO1
  subst hv1
  have HO1 := Lib.hid hO1
  have HB1 := Lib.hid hB1
  have hs1 := hB1.size
  clear hO1 hB1 HN
  go_wp2_with (at_builtin; refine appE el_u8 rfl _ _ rfl w.heap.size _ (num n).length (VY (num n)) rfl HO1.out A n cap (VY p) rfl Hnil.out (by rw [VY_length, Hl.out, Nat.mul_one]) (HS.out.below HB1.out) (VY_one _) (by omega) hs1 ?_; intro v' w2 hown hg _ _; obtain ⟨A7, c7, hv7, -, -, -, -, -, -⟩ := own_form hown; subst hv7; have H7 := Lib.hid hown; have HB7 := Lib.hid (HB1.out.grown hg hs1 (fun k hk => (World.ownsRow.lt HO1.out k hk).1)); clear hown hg)
  go_ret
  exact ⟨_, rfl, by have := H7.out; unfold byt; rw [List.length_append, VY_append, Hl.out]; exact this, HB7.out⟩
set_option maxHeartbeats 4000000 in
theorem nums1_any (w : World) (A : Option Addr) (n cap : Nat) (vs : List Nat) (hS : Sl w A (VI (NI vs))) (hl : vs.length = n) (hn : n ≤ 10995116) (hv : ∀ v ∈ vs, v < 4611686018427387904) : Calls Tryz.prog 92 #[.slice A n cap] w (OwnY w (nums vs)) := by
  have HS := Lib.hid hS
  have Hl := Lib.hid hl
  have Hv := Lib.hid hv
  clear hS hl hv
  go_enter Tryz.func92, Tryz.ntmps92
  go_wp2_with fail
  go_loopw [3, 4] (fun b q wr => ∃ k : Nat, k ≤ n ∧ q = .int .i64 (k : Int) ∧ Hid (wr.ownsRow w.heap.size 5 1 b (nums (vs.take k)).length (VY (nums (vs.take k)))) ∧ Hid (Below w.heap.size w wr)) (fun _ q _ => n - (intOf q).toNat)
  case atStart => exact ⟨0, Nat.zero_le _, rfl, Lib.hid (World.ownsRow_nil _ _ _ _), Lib.hid (Below.refl _ _)⟩
  case round =>
    obtain ⟨k, hk, rfl, HO, HB⟩ := hrel
    obtain ⟨A1, c1, hv1, -, -, -, -, -, -⟩ := own_form HO.out
    subst hv1
    by_cases hkn : k < n
    · have hkv : k < vs.length := by rw [Hl.out]; exact hkn
      obtain ⟨bm, om, rfl, hc⟩ := (HS.out.below HB.out).lit (j := k) (by rw [VI_length, NI_length]; exact hkv)
      rw [VI_get _ k (by rw [NI_length]; exact hkv), NI_getD _ _ hkv] at hc
      have hvv := Hv.out (vs.getD k 0) (by rw [getDn hkv]; exact List.getElem_mem hkv)
      have Htk : Hid (nums (vs.take (k + 1)) = nums (vs.take k) ++ num (vs.getD k 0)) := Lib.hid (by rw [List.take_succ_eq_append_getElem hkv, nums_snoc, getDn hkv])
      have hnt := nums_len 9 (vs.take k) (fun v h => Nat.lt_of_lt_of_le (Hv.out v (List.mem_of_mem_take h)) (by decide))
      rw [List.length_take, Nat.min_eq_left (by omega)] at hnt
      generalize vs.getD k 0 = v at *
      have hnl := num_len10 hvv
      have HN := Lib.hid (num1_any wr v hvv)
      obtain ⟨L, hL⟩ : ∃ L, nums (vs.take k) = L := ⟨_, rfl⟩
      rw [hL] at HO Htk hnt
      have HL := Lib.hid hL
      rw [hL]
      have hsw := HB.out.size
      clear hL hkv
      go_wp2_with fail
      go_at_call 89
      refine HN.out.mono ?_
      rintro e w1 ⟨v1, rfl, hO1, hB1⟩
      obtain ⟨A5, c5, hv5, hS5, hc5, hn5, -, -, -⟩ := own_form hO1
      subst hv5
      have HS5 := Lib.hid hS5
      have Hn5 := Lib.hid hn5
      have HO2 := Lib.hid (own_below HO.out hB1)
      have HB2 := Lib.hid (below_step HB.out hB1)
      have hs2 := HB2.out.size
      obtain ⟨nl, hnl2⟩ : ∃ nl, (num v).length = nl := ⟨_, rfl⟩
      have Hnl2 := Lib.hid hnl2
      rw [hnl2] at hnl hc5 ⊢
      clear hO1 hB1 HN hS5 hn5 hnl2
      go_wp2_with (at_builtin; refine appE el_u8 rfl _ _ rfl w.heap.size _ L.length (VY L) rfl HO2.out A5 nl c5 (VY (num v)) rfl Hn5.out (by rw [VY_length, Hnl2.out, Nat.mul_one]) HS5.out (VY_one _) (by omega) hs2 ?_; intro v' w3 hown hg _ _; obtain ⟨A7, c7, hv7, -, -, -, -, -, -⟩ := own_form hown; subst hv7; have H7 := Lib.hid hown; have HB7 := Lib.hid (HB2.out.grown hg hs2 (fun k hk => (World.ownsRow.lt HO2.out k hk).1)); clear hown hg)
      go_roundw
      case rel => exact ⟨k + 1, by omega, by go_num, Lib.hid (by rw [Htk.out, List.length_append, VY_append, Hnl2.out]; exact H7.out), HB7⟩
      case measure => simp [intOf]; omega
    · obtain rfl : k = n := by omega
      have hO := HO.out
      rw [List.take_of_length_le (by rw [Hl.out]; exact Nat.le_refl _)] at hO
      rw [List.take_of_length_le (by rw [Hl.out]; exact Nat.le_refl _)]
      have HO9 := Lib.hid hO
      clear hO HO
      go_wp2_with fail
      go_ret
      exact ⟨_, rfl, HO9.out, HB.out⟩
end Go.Proofs.YtphccomhggnccaaGreat
namespace Go.Proofs.YtphccomhggnccaaGreat
open Go.RowKit Sg Fm
structure RefM (w : World) (base x : Nat) (es : List De) (gs : List Key) : Prop where
  ge : base ≤ x
  blk : ∃ (Ad Ag : Option Addr) (cd cg : Nat), w.heap[x]? = some (.cells #[.slice Ad es.length cd, .slice Ag gs.length cg] 63 (0, 0)) ∧
    DArg w Ad es.length cd es ∧ GArg w Ag gs.length cg gs ∧ AdOk w base Ad ∧ AdOk w base Ag ∧ ∀ e ∈ es, AdOk w base e.a
theorem TxtOk.keepB {w w' : World} {base : Nat} {e : De} (h : TxtOk w e) (ha : AdOk w base e.a) (hk : ∀ k, base ≤ k → k < w.heap.size → w'.heap[k]? = w.heap[k]?) : TxtOk w' e := ⟨h.len, h.le, h.nil, h.sl.keepB ha hk, h.lt⟩
theorem AdOk.keep {w w' : World} {base : Nat} {A : Option Addr} (h : AdOk w base A) (hs : w.heap.size ≤ w'.heap.size) : AdOk w' base A := ⟨h.sp, fun a e => ⟨(h.ge a e).1, Nat.lt_of_lt_of_le (h.ge a e).2 hs⟩⟩
theorem RefM.keep {w w' : World} {base x : Nat} {es : List De} {gs : List Key} (h : RefM w base x es gs) (hs : w.heap.size ≤ w'.heap.size) (hk : ∀ k, base ≤ k → k < w.heap.size → w'.heap[k]? = w.heap[k]?) : RefM w' base x es gs := by
  obtain ⟨Ad, Ag, cd, cg, h1, h2, h3, h4, h5, h6⟩ := h.blk
  refine ⟨h.ge, Ad, Ag, cd, cg, (hk x h.ge (blk_lt h1)).trans h1, ⟨h2.len, h2.le, h2.nil, h2.sl.keepB h4 hk, fun e he => (h2.txt e he).keepB (h6 e he) hk⟩, ⟨h3.len, h3.le, h3.nil, h3.sl.keepB h5 hk⟩, h4.keep hs, h5.keep hs, fun e he => (h6 e he).keep hs⟩
theorem RefM.below {w w' : World} {base x : Nat} {es : List De} {gs : List Key} (h : RefM w base x es gs) (hb : Below w.heap.size w w') : RefM w' base x es gs := h.keep hb.size fun k _ hk => hb.block k hk
theorem RefM.mono {w : World} {base base' x : Nat} {es : List De} {gs : List Key} (h : RefM w base x es gs) (hb : base' ≤ base) : RefM w base' x es gs := by
  obtain ⟨Ad, Ag, cd, cg, h1, h2, h3, h4, h5, h6⟩ := h.blk
  exact ⟨Nat.le_trans hb h.ge, Ad, Ag, cd, cg, h1, h2, h3, h4.mono hb, h5.mono hb, fun e he => (h6 e he).mono hb⟩
theorem key9_any (w : World) (k : Key) (hk : k.length ≤ 1099511627776) : Calls Tryz.prog 40 #[.string (ba k)] w fun e w' => e = .returned (.bool (decide (1 ≤ k.length ∧ k.length ≤ 64))) ∧ w = w' := by
  have hs : (ba k).size = k.length := by simp [ba, ByteArray.size]
  rcases Nat.eq_zero_or_pos k.length with h0 | h0
  · have e1 : decide (1 ≤ k.length ∧ k.length ≤ 64) = false := decide_eq_false (by omega)
    have j1 : ¬ (1 : Int) ≤ (k.length : Int) := by omega
    rw [e1]
    generalize k.length = n at *
    generalize ba k = s at *
    go_enter Tryz.func40, Tryz.ntmps40
    go_wp2_with fail
    go_ret
    exact ⟨rfl, rfl⟩
  · by_cases h1 : k.length ≤ 64
    · have e1 : decide (1 ≤ k.length ∧ k.length ≤ 64) = true := decide_eq_true (by omega)
      have j1 : (1 : Int) ≤ (k.length : Int) := by omega
      have j2 : (k.length : Int) ≤ 64 := by omega
      rw [e1]
      generalize k.length = n at *
      generalize ba k = s at *
      go_enter Tryz.func40, Tryz.ntmps40
      go_wp2_with fail
      go_ret
      exact ⟨rfl, rfl⟩
    · have e1 : decide (1 ≤ k.length ∧ k.length ≤ 64) = false := decide_eq_false (by omega)
      have j1 : (1 : Int) ≤ (k.length : Int) := by omega
      have j2 : ¬ (k.length : Int) ≤ 64 := by omega
      rw [e1]
      generalize k.length = n at *
      generalize ba k = s at *
      go_enter Tryz.func40, Tryz.ntmps40
      go_wp2_with fail
      go_ret
      exact ⟨rfl, rfl⟩
theorem garg_docs0 {w : World} {A : Option Addr} {n c : Nat} {es : List De} (h : DArg w A n c es) {i : Nat} (hi : i < n) : ∃ b off, A = some ⟨b, off, none⟩ ∧ w.cell? ⟨b, off + i * 2, none⟩ = some (.string (ba (es[i]?.getD default).k)) ∧ w.cell? ⟨b, off + i * 2 + 1, none⟩ = some (.slice (es[i]?.getD default).a (es[i]?.getD default).n (es[i]?.getD default).c) := by
  have hi' : i < es.length := by rw [h.len]; exact hi
  obtain ⟨b, off, rfl, hc⟩ := h.sl.lit (j := i * 2) (by rw [VD_length]; omega)
  rw [VD_get0 es i hi'] at hc
  have h3 := h.sl.cell _ rfl (i * 2 + 1) _ (VD_get1 es i hi')
  rw [show (⟨b, off, none⟩ : Addr).add (i * 2 + 1) = ⟨b, off + i * 2 + 1, none⟩ by unfold Addr.add; split <;> simp_all; omega] at h3
  exact ⟨b, off, rfl, hc, h3⟩
set_option maxHeartbeats 4000000 in
theorem texts9_any {w : World} {base x : Nat} {es : List De} {gs : List Key} (h : RefM w base x es gs) (hn : es.length ≤ 1000000) :
    Calls Tryz.prog 19 #[.pointer (some ⟨x, 0, none⟩)] w fun e w' => ∃ A c, e = .returned (.slice A es.length c) ∧ Sl w' A (VT es) ∧ es.length ≤ c ∧ (A = none → c = 0) ∧ Below w.heap.size w w' := by
  obtain ⟨Ad, Ag, cd, cg, h1, h2, h3, h4, h5, h6⟩ := h.blk
  obtain ⟨n, hnn⟩ : ∃ n, es.length = n := ⟨_, rfl⟩
  have Hn := Lib.hid hnn
  rw [hnn] at h1 h2 hn ⊢
  have H1 := Lib.hid h1
  have H2 := Lib.hid h2
  clear h h1 h2 h3 h4 h5 h6 hnn
  go_enter Tryz.func19, Tryz.ntmps19
  go_wp2_with fail
  go_loopw [3, 4] (fun t q wr => ∃ j : Nat, j ≤ n ∧ q = .int .i64 (j : Int) ∧ Hid (wr.ownsRow w.heap.size 34 1 t j (VT (es.take j))) ∧ Hid (Below w.heap.size w wr)) (fun _ q _ => n - (intOf q).toNat)
  case atStart => exact ⟨0, Nat.zero_le _, rfl, Lib.hid (World.ownsRow_nil _ _ _ _), Lib.hid (Below.refl _ _)⟩
  case round =>
    obtain ⟨j, hj, rfl, HO, HB⟩ := hrel
    obtain ⟨At, ct, hvt, -, -, -, -, -, -⟩ := own_form HO.out
    subst hvt
    have hx0 : wr.cell? ⟨x, 0, none⟩ = some (.slice Ad n cd) := cell_blk ((HB.out.block x (blk_lt H1.out)).trans H1.out) 0
    by_cases hjn : j < n
    · obtain ⟨bd, od, rfl, -, hc1⟩ := garg_docs0 (H2.out.below HB.out) hjn
      have Htk : Hid (VT (es.take (j + 1)) = VT (es.take j) ++ [.slice (es[j]?.getD default).a (es[j]?.getD default).n (es[j]?.getD default).c]) := Lib.hid (by
        have hje : j < es.length := by rw [Hn.out]; exact hjn
        unfold VT; rw [List.take_succ_eq_append_getElem hje, List.map_append]; simp [hje])
      generalize es[j]?.getD default = ej at *
      have hsw := HB.out.size
      go_wp2_with (at_builtin; refine appE el_row rfl _ _ rfl w.heap.size _ j (VT (es.take j)) rfl (World.ownsRow.alloc HO.out _) (some ⟨wr.heap.size, 0, none⟩) 1 1 [.slice ej.a ej.n ej.c] rfl (fun h => by cases h) rfl (sl_blk (heap_alloc_new wr _)) (fun u hu => by simp at hu; subst hu; rfl) (by omega) (by simp; omega) ?_; intro v' w1 hown hg _ _; obtain ⟨A7, c7, hv7, -, -, -, -, -, -⟩ := own_form hown; subst hv7; have H7 := Lib.hid hown; have HB7 := Lib.hid ((HB.out.alloc hsw (.cells #[.slice ej.a ej.n ej.c] 34)).grown hg (by simp; omega) (fun k hk => (World.ownsRow.lt HO.out k hk).1)); clear hown hg)
      go_roundw
      case rel => exact ⟨j + 1, by omega, by go_num, Lib.hid (by rw [Htk.out]; exact H7.out), HB7⟩
      case measure => simp [intOf]; omega
    · obtain rfl : j = n := by omega
      have hO := HO.out
      rw [List.take_of_length_le (by rw [Hn.out]; exact Nat.le_refl _)] at hO
      obtain ⟨A9, c9, hv9, hS9, hn9, hnil9, -, -, -⟩ := own_form hO
      injection hv9 with e1 e2 e3
      subst e1 e3
      have HS9 := Lib.hid hS9
      have HN9 := Lib.hid hn9
      have Hnil9 := Lib.hid hnil9
      clear hO HO hS9 hn9 hnil9 e2
      go_wp2_with fail
      go_ret
      exact ⟨At, ct, rfl, HS9.out, HN9.out, Hnil9.out, HB.out⟩
end Go.Proofs.YtphccomhggnccaaGreat
namespace Go.Proofs.YtphccomhggnccaaGreat
open Go.RowKit Sg Fm
set_option maxHeartbeats 4000000 in
theorem long7_any (w : World) (A : Option Addr) (n c : Nat) (ts : List (List Nat)) (hA : RArg w A n c ts) (hm : (rowT ts).length ≤ 65536) :
    Calls Tryz.prog 41 #[.slice A n c] w fun e w' => e = .returned (.bool false) ∧ w = w' := by
  have HA := Lib.hid hA
  have hl := hA.len
  have Hl := Lib.hid hl
  rw [rowT_length] at hm
  have hnb : n ≤ 65536 := by have := len_le_body ts; omega
  have Hm := Lib.hid hm
  clear hA hl hm
  go_enter Tryz.func41, Tryz.ntmps41
  go_wp2_with fail
  go_loopw [3, 4] (fun t q wr => ∃ j : Nat, j ≤ n ∧ q = .int .i64 (j : Int) ∧ t = .int .i64 (((body (ts.take j)).length + 1 : Nat) : Int) ∧ w = wr) (fun _ q _ => n - (intOf q).toNat)
  case atStart => exact ⟨0, Nat.zero_le _, rfl, rfl, rfl⟩
  case round =>
    obtain ⟨j, hj, rfl, rfl, rfl⟩ := hrel
    have hbt := body_take_le ts j
    have hmm := Hm.out
    by_cases hjn : j < n
    · obtain ⟨a, Ad, L, C, rfl, hc, hL, -, -, -⟩ := HA.out.row j hjn
      have hsu := congrArg List.length (body_take_succ ts j (by rw [Hl.out]; exact hjn))
      rw [List.length_append, txt_length, hL] at hsu
      have hbt2 := body_take_le ts (j + 1)
      obtain ⟨B, hB⟩ : ∃ B, (body (ts.take j)).length + 1 = B := ⟨_, rfl⟩
      have HB : Hid ((body (ts.take (j + 1))).length + 1 = B + 1 + L) := Lib.hid (by omega)
      have hB1 : (B : Int) ≤ 65536 := by omega
      have hB2 : (B : Int) + 1 + (L : Int) ≤ 65536 := by omega
      have hB3 : decide ((B : Int) ≤ 65536) = true := decide_eq_true hB1
      have hB4 : B ≤ 65536 := by omega
      rw [hB]
      clear hsu hbt hbt2 hB hmm
      go_wp2_with fail
      go_roundw
      case rel => exact ⟨j + 1, by omega, by go_num, by rw [HB.out]; go_num, trivial⟩
      case measure => simp [intOf]; omega
    · obtain rfl : j = n := by omega
      obtain ⟨B, hB⟩ : ∃ B, (body (ts.take j)).length + 1 = B := ⟨_, rfl⟩
      have hB1 : ¬ (65536 : Int) < (B : Int) := by omega
      rw [hB]
      clear hbt hB hmm
      go_wp2_with fail
      go_ret
      exact ⟨rfl, rfl⟩
theorem own_blkY {w : World} {base g : Nat} {p : List Nat} (hb : w.heap[g]? = some (.cells (VY p).toArray 5 (0, 0))) (hg : base ≤ g) (hp : p.length ≤ 1099511627776) : w.ownsRow base 5 1 (.slice (some ⟨g, 0, none⟩) p.length p.length) p.length (VY p) :=
  ⟨by rw [VY_length, Nat.mul_one], .inr ⟨g, p.length, (VY p).toArray, rfl, hg, hb, Nat.le_refl _, by unfold maxLen; omega, by simp [VY_length], by simp [← VY_length p]⟩⟩
theorem keysB_le (l : List Key) (j : Nat) (h : (keysB l).length ≤ 20000) : (keysB (l.take j)).length ≤ 20000 := Nat.le_trans (keysB_take_le l j) h
theorem keysB_step {l : List Key} {j : Nat} (h : j < l.length) : keysB (l.take (j + 1)) = keysB (l.take j) ++ byt (nk (l.getD j [])) := by
  rw [List.take_succ_eq_append_getElem h, keysB_snoc, getDk h]
theorem byt_len (p : List Nat) (h : p.length < 4611686018427387904) : (byt p).length ≤ p.length + 10 := by
  unfold byt
  rw [List.length_append]
  have := num_len10 h
  omega
set_option maxHeartbeats 8000000 in
theorem body9_any {w : World} {base x : Nat} {es : List De} {gs : List Key} (h : RefM w base x es gs) (hL : Lite (es.map De.dc) gs) :
    Calls Tryz.prog 42 #[.pointer (some ⟨x, 0, none⟩)] w fun e w' => ∃ sa, IsSA (rowT (textsD (es.map De.dc))) sa ∧ OwnY w (bodyS (keysD (es.map De.dc)) gs (trn (rowT (textsD (es.map De.dc))) sa)) e w' := by
  have HT := Lib.hid (fun (W : World) (k : Below w.heap.size w W) => texts9_any (h.below k) (by have h1 := hL.w; have h2 := wtD_len (es.map De.dc); rw [List.length_map] at h2; omega))
  obtain ⟨Ad, Ag, cd, cg, h1, h2, h3, h4, h5, h6⟩ := h.blk
  have hw := hL.w
  have hkb := keysB_wt (keysD (es.map De.dc)) (by have := wtG_keysD (es.map De.dc); omega)
  have hgb := keysB_wt gs (by omega)
  have hkw := wtG_keysD (es.map De.dc)
  have hne := wtD_len (es.map De.dc)
  have hng := wtG_len gs
  rw [List.length_map] at hne
  have hfit := hL.fits.t
  obtain ⟨n, hnn⟩ : ∃ n, es.length = n := ⟨_, rfl⟩
  obtain ⟨g, hgg⟩ : ∃ g, gs.length = g := ⟨_, rfl⟩
  have Hkeys := Lib.hid (show keysD (es.map De.dc) = es.map (·.k) by simp [keysD, De.dc])
  have Htx := Lib.hid (show es.map (·.t) = textsD (es.map De.dc) by simp [textsD, De.dc])
  have Hkk : Hid ((keysD (es.map De.dc)).length = n) := Lib.hid (by rw [keysD_length, List.length_map, hnn])
  have Hkm : Hid (∀ k ∈ keysD (es.map De.dc), k.length ≤ 20000) := Lib.hid (fun k hk => by have := wtG_mem hk; omega)
  have Hgm : Hid (∀ k ∈ gs, k.length ≤ 20000) := Lib.hid (fun k hk => by have := wtG_mem hk; omega)
  rw [hnn] at h1 h2 hne
  rw [hgg] at h1 h3 hng
  have Hn := Lib.hid hnn
  have Hg := Lib.hid hgg
  have H1 := Lib.hid h1
  have H2 := Lib.hid h2
  have H3 := Lib.hid h3
  have Hfit := Lib.hid hfit
  have Hlen : Hid (∀ e ∈ es, e.t.length ≤ 4096) := Lib.hid (fun e he => hL.t _ (List.mem_map_of_mem (f := De.dc) he))
  have Htv : Hid (∀ sa, IsSA (rowT (textsD (es.map De.dc))) sa → ∀ v ∈ trn (rowT (textsD (es.map De.dc))) sa, v < 512) := Lib.hid (fun sa hs v hv => rowT_lt (textsD (es.map De.dc)) (fun t ht => by obtain ⟨d, hd, rfl⟩ := List.mem_map.1 ht; obtain ⟨e, he, rfl⟩ := List.mem_map.1 hd; exact (h2.txt e he).lt) v ((trn_perm (rowT_closed _) hs).mem_iff.1 hv))
  have hkl : (keysB (keysD (es.map De.dc))).length ≤ 20000 := by omega
  have hgl : (keysB gs).length ≤ 20000 := by omega
  have hn5 : n ≤ 4000 := by omega
  have hg5 : g ≤ 4000 := by omega
  have hx0 : w.cell? ⟨x, 0, none⟩ = some (.slice Ad n cd) := cell_blk h1 0
  have HN := Lib.hid (num1_any (w.alloc (.cells #[.int .u8 83, .int .u8 1] 5)) n (by omega))
  have hC1 := below_new w (.cells #[.int .u8 83, .int .u8 1] 5)
  have hO0 : (w.alloc (.cells #[.int .u8 83, .int .u8 1] 5)).ownsRow w.heap.size 5 1 (.slice (some ⟨w.heap.size, 0, none⟩) 2 2) 2 (VY [83, 1]) := own_blkY (p := [83, 1]) (heap_alloc_new w _) (Nat.le_refl _) (by decide)
  have hx0' := (World.cell?_of_block (hC1.block x (blk_lt h1))).trans hx0
  have HO0 := Lib.hid hO0
  have HC1 := Lib.hid hC1
  have Hkl := Lib.hid hkl
  have Hgl := Lib.hid hgl
  clear h h1 h2 h3 h4 h5 h6 hL hw hkb hgb hkw hne hng hnn hgg hfit hO0 hC1 hkl hgl hx0
  go_enter Tryz.func42, Tryz.ntmps42
  go_wp2_with fail
  go_at_call 89
  refine HN.out.mono ?_
  rintro e w1 ⟨v1, rfl, hO1, hB1⟩
  obtain ⟨A1, c1, hv1, hS1, -, hn1, -, -, -⟩ := own_form hO1
  subst hv1
  have hnl := num_len10 (v := n) (by omega)
  have HO1 := Lib.hid (own_below HO0.out hB1)
  have HS1 := Lib.hid hS1
  have Hn1 := Lib.hid hn1
  have HB1 := Lib.hid (below_next HC1.out hB1)
  have hs1 := HB1.out.size
  clear hO1 hB1 hS1 hn1 HN HO0 HC1 hx0'
  go_wp2_with (at_builtin; refine appE el_u8 rfl _ _ rfl w.heap.size _ 2 (VY [83, 1]) rfl HO1.out A1 (num n).length c1 (VY (num n)) rfl Hn1.out (by rw [VY_length, Nat.mul_one]) HS1.out (VY_one _) (by omega) hs1 ?_; intro v' w2 hown hg _ _; obtain ⟨A7, c7, hv7, -, -, -, -, -, -⟩ := own_form hown; subst hv7; have H7 := Lib.hid hown; have HB7 := Lib.hid (HB1.out.grown hg hs1 (fun k hk => (World.ownsRow.lt HO1.out k hk).1)); clear hown hg)
  have HO2 : Hid (w2.ownsRow w.heap.size 5 1 (.slice A7 (2 + (num n).length) c7) ([83, 1] ++ num n).length (VY ([83, 1] ++ num n))) := Lib.hid (by have := H7.out; rw [VY_append, List.length_append]; exact this)
  have hal1 : ([83, 1] ++ num n).length ≤ 12 := by rw [List.length_append]; simp; omega
  obtain ⟨a1, ha1⟩ : ∃ a, [83, 1] ++ num n = a := ⟨_, rfl⟩
  have Ha1 := Lib.hid ha1
  rw [ha1] at HO2 hal1
  obtain ⟨KS, hKS⟩ : ∃ K, keysD (es.map De.dc) = K := ⟨_, rfl⟩
  have HKS := Lib.hid hKS
  rw [hKS] at Hkeys Hkk Hkm Hkl
  clear H7 ha1 HO1 hKS HB1
  have HB2 := HB7
  clear HB7
  go_loopw [3, 4] (fun b q wr => ∃ k : Nat, k ≤ n ∧ q = .int .i64 (k : Int) ∧ Hid (wr.ownsRow w.heap.size 5 1 b (a1 ++ keysB (KS.take k)).length (VY (a1 ++ keysB (KS.take k)))) ∧ Hid (Below w.heap.size w wr)) (fun _ q _ => n - (intOf q).toNat)
  case atStart => exact ⟨0, Nat.zero_le _, rfl, Lib.hid (by simpa [keysB] using HO2.out), HB2⟩
  case round =>
    clear HO2 HB2
    obtain ⟨k, hk, rfl, HO, HB⟩ := hrel
    obtain ⟨A3, c3, hv3, -, -, -, -, -, -⟩ := own_form HO.out
    subst hv3
    have hx0 : wr.cell? ⟨x, 0, none⟩ = some (.slice Ad n cd) := cell_blk ((HB.out.block x (blk_lt H1.out)).trans H1.out) 0
    have hx1 : wr.cell? ⟨x, 1, none⟩ = some (.slice Ag g cg) := cell_blk ((HB.out.block x (blk_lt H1.out)).trans H1.out) 1
    by_cases hkn : k < n
    · obtain ⟨bd, od, rfl, hkc, -⟩ := garg_docs0 (H2.out.below HB.out) hkn
      have hkk : (es[k]?.getD default).k = KS.getD k [] := by rw [Hkeys.out]; simp [List.getD, show k < es.length by rw [Hn.out]; exact hkn]
      rw [hkk] at hkc
      clear hkk
      have hkeyl := Hkm.out _ (getD_memK (l := KS) (i := k) (by rw [Hkk.out]; exact hkn))
      have Hks := Lib.hid (keysB_step (l := KS) (j := k) (by rw [Hkk.out]; exact hkn))
      have hkt := keysB_le KS k Hkl.out
      obtain ⟨key, hke⟩ : ∃ key, KS.getD k [] = key := ⟨_, rfl⟩
      rw [hke] at hkc hkeyl Hks
      have hsw := HB.out.size
      obtain ⟨cc, W, hrun, hsl, hbl, hsz, hcc⟩ := conv_key wr key (by omega)
      have HBy := Lib.hid (bytes1_any W (some ⟨wr.heap.size, 0, none⟩) key.length cc (nk key) hsl (nk_length key) (fun e => by cases e) (by omega))
      have hbyl := byt_len (nk key) (by rw [nk_length]; omega)
      rw [nk_length] at hbyl
      have HOW := Lib.hid (own_below HO.out hbl)
      have HBW := Lib.hid (below_step HB.out hbl)
      have hLb : (a1 ++ keysB (KS.take k)).length ≤ 100000 := by rw [List.length_append]; omega
      obtain ⟨L, hL⟩ : ∃ L, a1 ++ keysB (KS.take k) = L := ⟨_, rfl⟩
      have HL := Lib.hid hL
      rw [hL] at HOW hLb ⊢
      clear hsl hbl hcc hke hkt hL HO
      go_wp2_with fail
      go_at_call 90
      refine HBy.out.mono ?_
      rintro e w5 ⟨v5, rfl, hO5, hB5⟩
      obtain ⟨A5, c5, hv5, hS5, -, hn5, -, -, -⟩ := own_form hO5
      subst hv5
      have HS5 := Lib.hid hS5
      have Hn5 := Lib.hid hn5
      have HO5 := Lib.hid (own_below HOW.out hB5)
      have HB5 := Lib.hid (below_step HBW.out hB5)
      have hs5 := HB5.out.size
      obtain ⟨bl, hbl2⟩ : ∃ bl, (byt (nk key)).length = bl := ⟨_, rfl⟩
      have Hbl2 := Lib.hid hbl2
      rw [hbl2] at hbyl ⊢
      clear hO5 hB5 HBy hS5 hn5 hbl2 HOW HBW hrun hsz
      go_wp2_with (at_builtin; refine appE el_u8 rfl _ _ rfl w.heap.size _ L.length (VY L) rfl HO5.out A5 bl c5 (VY (byt (nk key))) rfl Hn5.out (by rw [VY_length, Hbl2.out, Nat.mul_one]) HS5.out (VY_one _) (by omega) hs5 ?_; intro v' w7 hown hg _ _; obtain ⟨A7', c7', hv7, -, -, -, -, -, -⟩ := own_form hown; subst hv7; have H7 := Lib.hid hown; have HB7' := Lib.hid (HB5.out.grown hg hs5 (fun k hk => (World.ownsRow.lt HO5.out k hk).1)); clear hown hg)
      go_roundw
      case rel => exact ⟨k + 1, by omega, by go_num, Lib.hid (by rw [Hks.out, ← List.append_assoc, HL.out, List.length_append, VY_append, Hbl2.out]; exact H7.out), HB7'⟩
      case measure => simp [intOf]; omega
    · obtain rfl : k = n := by omega
      have hO := HO.out
      rw [List.take_of_length_le (by rw [Hkk.out]; exact Nat.le_refl _)] at hO ⊢
      have hgb0 := num_len10 (v := g) (by omega)
      have HN := Lib.hid (num1_any wr g (by omega))
      have hab : (a1 ++ keysB KS).length ≤ 30000 := by have := Hkl.out; rw [List.length_append]; omega
      obtain ⟨a2, ha2⟩ : ∃ a, a1 ++ keysB KS = a := ⟨_, rfl⟩
      have Ha2 := Lib.hid ha2
      rw [ha2] at hO hab ⊢
      have HOa := Lib.hid hO
      clear hO HO ha2
      go_wp2_with fail
      go_at_call 89
      refine HN.out.mono ?_
      rintro e w5 ⟨v5, rfl, hO5, hB5⟩
      obtain ⟨A5, c5, hv5, hS5, -, hn5, -, -, -⟩ := own_form hO5
      subst hv5
      have HS5 := Lib.hid hS5
      have Hn5 := Lib.hid hn5
      have HO5 := Lib.hid (own_below HOa.out hB5)
      have HB5 := Lib.hid (below_step HB.out hB5)
      have hs5 := HB5.out.size
      clear hO5 hB5 hS5 hn5 HN HOa hx0 hx1 HB
      go_wp2_with (at_builtin; refine appE el_u8 rfl _ _ rfl w.heap.size _ a2.length (VY a2) rfl HO5.out A5 (num g).length c5 (VY (num g)) rfl Hn5.out (by rw [VY_length, Nat.mul_one]) HS5.out (VY_one _) (by omega) hs5 ?_; intro v' w7 hown hg _ _; obtain ⟨A7', c7', hv7, -, -, -, -, -, -⟩ := own_form hown; subst hv7; have H7 := Lib.hid hown; have HB7' := Lib.hid (HB5.out.grown hg hs5 (fun k hk => (World.ownsRow.lt HO5.out k hk).1)); clear hown hg)
      have HO8 : Hid (w7.ownsRow w.heap.size 5 1 (.slice A7' (a2.length + (num g).length) c7') (a2 ++ num g).length (VY (a2 ++ num g))) := Lib.hid (by have := H7.out; rw [VY_append, List.length_append]; exact this)
      have hal3 : (a2 ++ num g).length ≤ 30010 := by rw [List.length_append]; omega
      obtain ⟨a3, ha3⟩ : ∃ a, a2 ++ num g = a := ⟨_, rfl⟩
      have Ha3 := Lib.hid ha3
      rw [ha3] at HO8 hal3
      have HB8 := HB7'
      clear H7 ha3 HO5 HB5 HB7'
      go_loopw [3, 5] (fun b q wr => ∃ k : Nat, k ≤ g ∧ q = .int .i64 (k : Int) ∧ Hid (wr.ownsRow w.heap.size 5 1 b (a3 ++ keysB (gs.take k)).length (VY (a3 ++ keysB (gs.take k)))) ∧ Hid (Below w.heap.size w wr)) (fun _ q _ => g - (intOf q).toNat)
      case atStart => exact ⟨0, Nat.zero_le _, rfl, Lib.hid (by simpa [keysB] using HO8.out), HB8⟩
      case round =>
        clear HO8 HB8
        obtain ⟨k, hk, rfl, HO, HB⟩ := hrel
        obtain ⟨A3, c3, hv3, -, -, -, -, -, -⟩ := own_form HO.out
        subst hv3
        have hx0 : wr.cell? ⟨x, 0, none⟩ = some (.slice Ad _ cd) := cell_blk ((HB.out.block x (blk_lt H1.out)).trans H1.out) 0
        have hx1 : wr.cell? ⟨x, 1, none⟩ = some (.slice Ag g cg) := cell_blk ((HB.out.block x (blk_lt H1.out)).trans H1.out) 1
        by_cases hkn : k < g
        · obtain ⟨bg, og, hAg⟩ := garg_lit H3.out (by omega)
          subst hAg
          have hkc : wr.cell? ⟨bg, og + k, none⟩ = some (.string (ba (gs.getD k []))) := garg_cell (H3.out.below HB.out) hkn
          have hkeyl := Hgm.out _ (getD_memK (l := gs) (i := k) (by rw [Hg.out]; exact hkn))
          have Hks := Lib.hid (keysB_step (l := gs) (j := k) (by rw [Hg.out]; exact hkn))
          have hkt := keysB_le gs k Hgl.out
          obtain ⟨key, hke⟩ : ∃ key, gs.getD k [] = key := ⟨_, rfl⟩
          rw [hke] at hkc hkeyl Hks
          have hsw := HB.out.size
          obtain ⟨cc, W, hrun, hsl, hbl, hsz, hcc⟩ := conv_key wr key (by omega)
          have HBy := Lib.hid (bytes1_any W (some ⟨wr.heap.size, 0, none⟩) key.length cc (nk key) hsl (nk_length key) (fun e => by cases e) (by omega))
          have hbyl := byt_len (nk key) (by rw [nk_length]; omega)
          rw [nk_length] at hbyl
          have HOW := Lib.hid (own_below HO.out hbl)
          have HBW := Lib.hid (below_step HB.out hbl)
          have hLb : (a3 ++ keysB (gs.take k)).length ≤ 100000 := by rw [List.length_append]; omega
          obtain ⟨L, hL⟩ : ∃ L, a3 ++ keysB (gs.take k) = L := ⟨_, rfl⟩
          have HL := Lib.hid hL
          rw [hL] at HOW hLb ⊢
          clear hsl hbl hcc hke hkt hL HO
          go_wp2_with fail
          go_at_call 90
          refine HBy.out.mono ?_
          rintro e w5 ⟨v5, rfl, hO5, hB5⟩
          obtain ⟨A5, c5, hv5, hS5, -, hn5, -, -, -⟩ := own_form hO5
          subst hv5
          have HS5 := Lib.hid hS5
          have Hn5 := Lib.hid hn5
          have HO5 := Lib.hid (own_below HOW.out hB5)
          have HB5 := Lib.hid (below_step HBW.out hB5)
          have hs5 := HB5.out.size
          obtain ⟨bl, hbl2⟩ : ∃ bl, (byt (nk key)).length = bl := ⟨_, rfl⟩
          have Hbl2 := Lib.hid hbl2
          rw [hbl2] at hbyl ⊢
          clear hO5 hB5 HBy hS5 hn5 hbl2 HOW HBW hrun hsz
          go_wp2_with (at_builtin; refine appE el_u8 rfl _ _ rfl w.heap.size _ L.length (VY L) rfl HO5.out A5 bl c5 (VY (byt (nk key))) rfl Hn5.out (by rw [VY_length, Hbl2.out, Nat.mul_one]) HS5.out (VY_one _) (by omega) hs5 ?_; intro v' w7 hown hg _ _; obtain ⟨A7', c7', hv7, -, -, -, -, -, -⟩ := own_form hown; subst hv7; have H7 := Lib.hid hown; have HB7' := Lib.hid (HB5.out.grown hg hs5 (fun k hk => (World.ownsRow.lt HO5.out k hk).1)); clear hown hg)
          go_roundw
          case rel => exact ⟨k + 1, by omega, by go_num, Lib.hid (by rw [Hks.out, ← List.append_assoc, HL.out, List.length_append, VY_append, Hbl2.out]; exact H7.out), HB7'⟩
          case measure => simp [intOf]; omega
        · obtain rfl : k = g := by omega
          have hO := HO.out
          rw [List.take_of_length_le (by rw [Hg.out]; exact Nat.le_refl _)] at hO ⊢
          have hab4 : (a3 ++ keysB gs).length ≤ 60000 := by have := Hgl.out; rw [List.length_append]; omega
          obtain ⟨a4, ha4⟩ : ∃ a, a3 ++ keysB gs = a := ⟨_, rfl⟩
          have Ha4 := Lib.hid ha4
          rw [ha4] at hO hab4 ⊢
          have HOa := Lib.hid hO
          have HTx := Lib.hid (HT.out wr HB.out)
          rw [Hn.out] at HTx
          clear hO HO ha4
          go_wp2_with fail
          go_at_call 19
          refine HTx.out.mono ?_
          rintro e w9 ⟨A9, c9, rfl, hS9, hn9, hnil9, hB9⟩
          have hB9' := below_step HB.out hB9
          have hRA : RArg w9 A9 _ c9 (es.map (·.t)) := rarg_of_row hS9 Hn.out (by omega) (fun e he => (H2.out.txt e he).below hB9') (fun e he => by have h1 := (H2.out.txt e he).len; have h2 := Hlen.out e he; omega)
          rw [Htx.out] at hRA
          have HTu := Lib.hid (turned7F_any w9 A9 _ c9 _ hRA Hfit.out)
          have HO9 := Lib.hid (own_below HOa.out hB9)
          have HB9 := Lib.hid hB9'
          clear hS9 hn9 hnil9 hB9 hB9' hRA HTx HOa HB
          obtain ⟨rl, hrl⟩ : ∃ r, (rowT (textsD (es.map De.dc))).length = r := ⟨_, rfl⟩
          have Hrl := Lib.hid hrl
          have hrl2 := Hfit.out
          rw [hrl] at hrl2 HTu
          clear hrl
          go_wp2_with fail
          go_at_call 91
          refine HTu.out.mono ?_
          rintro e wa ⟨Ba, ca, sa, rfl, hIs, hSa, hFa, hBa⟩
          have Hob := Lib.hid (World.ownsRow.lt HO9.out)
          have HFa := Lib.hid hFa
          have hHa := below_step HB9.out hBa
          have HOb := Lib.hid (own_below HO9.out hBa)
          have HIs := Lib.hid hIs
          have HSa := Lib.hid hSa
          have HBa := Lib.hid hHa
          have htl : (trn (rowT (textsD (es.map De.dc))) sa).length = rl := by rw [trn_length hIs, Hrl.out]
          have htv : ∀ v ∈ trn (rowT (textsD (es.map De.dc))) sa, v < 512 := Htv.out sa hIs
          obtain ⟨tt, htt⟩ : ∃ t, trn (rowT (textsD (es.map De.dc))) sa = t := ⟨_, rfl⟩
          have Htt := Lib.hid htt
          rw [htt] at HSa htl htv
          have Htl := Lib.hid htl
          have Htv2 := Lib.hid htv
          have HN := Lib.hid (num1_any wa rl (by omega))
          have hrn := num_len10 (v := rl) (by omega)
          clear hIs hSa hBa hHa hFa HTu htt htl htv HO9 HB9
          go_wp2_with fail
          go_at_call 89
          refine HN.out.mono ?_
          rintro e wb ⟨v5, rfl, hO5, hB5⟩
          obtain ⟨A5, c5, hv5, hS5, -, hn5, -, -, -⟩ := own_form hO5
          subst hv5
          have HS5 := Lib.hid hS5
          have Hn5 := Lib.hid hn5
          have HO5 := Lib.hid (own_below HOb.out hB5)
          have HB5 := Lib.hid (below_step HBa.out hB5)
          have HSb := Lib.hid (HSa.out.below hB5)
          have hs5 := HB5.out.size
          clear hO5 hB5 hS5 hn5 HN HOb HBa HSa
          go_wp2_with (at_builtin; refine appE el_u8 rfl _ _ rfl w.heap.size _ a4.length (VY a4) rfl HO5.out A5 (num rl).length c5 (VY (num rl)) rfl Hn5.out (by rw [VY_length, Nat.mul_one]) HS5.out (VY_one _) (by omega) hs5 ?_; intro v' wc hown hg hnn0 hat0; obtain ⟨A7', c7', hv7, -, -, -, -, -, -⟩ := own_form hown; subst hv7; have H7 := Lib.hid hown; have HG7 := Lib.hid hg; have HB7' := Lib.hid (HB5.out.grown hg hs5 (fun k hk => (World.ownsRow.lt HO5.out k hk).1)); clear hown hg hnn0 hat0)
          have HSc := Lib.hid (HSb.out.grown HG7.out (fun a ha _ e => by have h1 := HFa.out a ha; have h2 := (Hob.out _ e.symm).2; omega))
          have HOc : Hid (wc.ownsRow w.heap.size 5 1 (.slice A7' (a4.length + (num rl).length) c7') (a4 ++ num rl).length (VY (a4 ++ num rl))) := Lib.hid (by have := H7.out; rw [VY_append, List.length_append]; exact this)
          have hal5 : (a4 ++ num rl).length ≤ 60010 := by rw [List.length_append]; omega
          obtain ⟨a5, ha5⟩ : ∃ a, a4 ++ num rl = a := ⟨_, rfl⟩
          have Ha5 := Lib.hid ha5
          rw [ha5] at HOc hal5
          have HNs := Lib.hid (nums1_any wc Ba rl ca tt HSc.out Htl.out (by omega) (fun v hv => by have := Htv2.out v hv; omega))
          have hnsl := nums_len 1 tt (fun v hv => by have := Htv2.out v hv; omega)
          rw [Htl.out] at hnsl
          clear H7 ha5 HO5 HB5 HSb HG7 Hob
          go_wp2_with fail
          go_at_call 92
          refine HNs.out.mono ?_
          rintro e wd ⟨v6, rfl, hO6, hB6⟩
          obtain ⟨A6, c6, hv6, hS6, -, hn6, -, -, -⟩ := own_form hO6
          subst hv6
          have HS6 := Lib.hid hS6
          have Hn6 := Lib.hid hn6
          have HO6 := Lib.hid (own_below HOc.out hB6)
          have HB6 := Lib.hid (below_step HB7'.out hB6)
          have hs6 := HB6.out.size
          obtain ⟨nl, hnl6⟩ : ∃ n, (nums tt).length = n := ⟨_, rfl⟩
          have Hnl6 := Lib.hid hnl6
          rw [hnl6] at hnsl ⊢
          clear hO6 hB6 hS6 hn6 HNs HOc hnl6
          go_wp2_with (at_builtin; refine appE el_u8 rfl _ _ rfl w.heap.size _ a5.length (VY a5) rfl HO6.out A6 nl c6 (VY (nums tt)) rfl Hn6.out (by rw [VY_length, Hnl6.out, Nat.mul_one]) HS6.out (VY_one _) (by omega) hs6 ?_; intro v' we hown hg hnn0 hat0; obtain ⟨A8', c8', hv8, -, -, -, -, -, -⟩ := own_form hown; subst hv8; have H8 := Lib.hid hown; have HB8' := Lib.hid (HB6.out.grown hg hs6 (fun k hk => (World.ownsRow.lt HO6.out k hk).1)); clear hown hg hnn0 hat0)
          go_ret
          refine ⟨sa, HIs.out, _, rfl, ?_, HB8'.out⟩
          have e9 : bodyS (keysD (es.map De.dc)) gs (trn (rowT (textsD (es.map De.dc))) sa) = a5 ++ nums tt := by
            unfold bodyS
            rw [HKS.out, Htt.out, Htl.out, Hkk.out, Hg.out, ← Ha5.out, ← Ha4.out, ← Ha3.out, ← Ha2.out, ← Ha1.out]
            simp
          rw [e9, List.length_append, VY_append, Hnl6.out]
          exact H8.out
end Go.Proofs.YtphccomhggnccaaGreat
