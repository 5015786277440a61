/- haystackref9: sorted, Key. -/
import Derived.Test.YtphccomhggnccaaGreatSgY
import Derived.Deep.RegionHeld3
import Derived.IntWalk
import Derived.Laws.Cover1
import Derived.Test.YtphccomhggnccaaGreatRfB
import Derived.Maps.OwnSet
import Derived.Maps.OwnOps
import Derived.StringKeys
import Derived.Deep.RegionLaw
import Derived.StillTailTactics
namespace Go.Proofs.YtphccomhggnccaaGreat
set_option maxRecDepth 100000
set_option linter.unusedVariables false
set_option linter.unusedSimpArgs false
set_option maxRecDepth 100000
open Go.RowKit Go.Shelf Go.Sort Sg Fm
namespace Sg
set_option maxRecDepth 100000
/-- what is merged so far -/
structure MgK (x y : List Key) (i k : Nat) (acc : List Key) : Prop where
  eq : acc ++ List.merge (x.drop i) (y.drop k) leK = List.merge x y leK
  len : acc.length = i + k
theorem MgK.start (x y : List Key) : MgK x y 0 0 [] := ⟨by simp, rfl⟩
theorem getDk {l : List Key} {i : Nat} (h : i < l.length) : l.getD i [] = l[i] := by simp [List.getD, List.getElem?_eq_getElem h]
theorem MgK.left {x y : List Key} {i k : Nat} {acc : List Key} (h : MgK x y i k acc) (hi : i < x.length) (hk : y.length ≤ k ∨ (k < y.length ∧ leK (x.getD i []) (y.getD k []) = true)) : MgK x y (i + 1) k (acc ++ [x.getD i []]) := by
  refine ⟨?_, by rw [List.length_append, h.len]; simp; omega⟩
  rw [← h.eq, List.append_assoc]
  congr 1
  conv => rhs; rw [List.drop_eq_getElem_cons hi]
  rw [getDk hi]
  rcases hk with hk | ⟨hk, hle⟩
  · rw [List.drop_eq_nil_of_le hk]; simp
  · rw [getDk hi, getDk hk] at hle
    rw [List.drop_eq_getElem_cons hk, List.cons_merge_cons, if_pos hle]
    rfl
theorem MgK.right {x y : List Key} {i k : Nat} {acc : List Key} (h : MgK x y i k acc) (hk : k < y.length) (hi : x.length ≤ i ∨ (i < x.length ∧ leK (x.getD i []) (y.getD k []) = false)) : MgK x y i (k + 1) (acc ++ [y.getD k []]) := by
  refine ⟨?_, by rw [List.length_append, h.len]; simp; omega⟩
  rw [← h.eq, List.append_assoc]
  congr 1
  conv => rhs; rw [List.drop_eq_getElem_cons hk]
  rw [getDk hk]
  rcases hi with hi | ⟨hi, hle⟩
  · rw [List.drop_eq_nil_of_le hi]; simp
  · rw [getDk hi, getDk hk] at hle
    rw [List.drop_eq_getElem_cons hi, List.cons_merge_cons, if_neg (by rw [hle]; decide)]
    rfl
theorem MgK.done {x y : List Key} {i k : Nat} {acc : List Key} (h : MgK x y i k acc) (hi : x.length ≤ i) (hk : y.length ≤ k) : acc = List.merge x y leK := by
  rw [← h.eq, List.drop_eq_nil_of_le hi, List.drop_eq_nil_of_le hk]; simp
theorem getD_drop0 (l : List Key) (i : Nat) : (l.drop i).getD 0 [] = l.getD i [] := by simp [List.getD]
theorem merge_srt (a b : List Key) : List.merge (srt a) (srt b) leK = srt (a ++ b) := by
  refine srt_eq ((List.merge_perm_append leK).trans ((srt_perm a).append (srt_perm b))) ?_
  have h := List.pairwise_merge (le := leK) leK_trans leK_total (srt a) (srt b) ((srt_sorted a).imp fun h => (leK_iff ..).2 h) ((srt_sorted b).imp fun h => (leK_iff ..).2 h)
  exact h.imp fun h => (leK_iff ..).1 h
end Sg
def lenOf : Value → Nat
  | .slice _ n _ => n
  | _ => 0
theorem leK_str (x y : Key) : leK x y = (Op.bytesLess x y || x == y) := by
  rw [bytesLess_eq]
  show decide (x ≤ y) = (decide (x < y) || x == y)
  rw [Bool.eq_iff_iff, Bool.or_eq_true, decide_eq_true_iff, decide_eq_true_iff, beq_iff_eq]
  constructor
  · intro h
    by_cases h2 : x < y
    · exact .inl h2
    · exact .inr (List.le_antisymm h (List.not_lt.1 h2))
  · rintro (h | rfl)
    · exact List.le_of_lt h
    · exact List.le_refl _
/-- what sorted hands back -/
def SortP (W : World) (l : List Key) (n : Nat) (e : Ending) (W' : World) : Prop := ∃ A c, e = .returned (.slice A n c) ∧ GArg W' A n c (srt l) ∧ (∀ a, A = some a → W.heap.size ≤ a.block ∧ a.block < W'.heap.size ∧ a.spot = none) ∧ Below W.heap.size W W'
theorem garg_cell {w : World} {b off n c : Nat} {l : List Key} (h : GArg w (some ⟨b, off, none⟩) n c l) {i : Nat} (hi : i < n) : w.cell? ⟨b, off + i, none⟩ = some (.string (ba (l.getD i []))) := VS_cell h.sl (by rw [h.len]; exact hi)
theorem garg_lit {w : World} {A : Option Addr} {n c : Nat} {l : List Key} (h : GArg w A n c l) (hn : 0 < n) : ∃ b off, A = some ⟨b, off, none⟩ := by
  cases A with
  | none => have := h.nil rfl; have := h.le; omega
  | some a =>
    obtain ⟨b, off, sp⟩ := a
    have : sp = none := (h.lt hn _ rfl).2
    subst this
    exact ⟨b, off, rfl⟩
theorem garg_take {w : World} {b off n c : Nat} {l : List Key} (h : GArg w (some ⟨b, off, none⟩) n c l) (k : Nat) (hk : k ≤ n) : GArg w (some ⟨b, off, none⟩) k c (l.take k) := by
  refine ⟨by rw [List.length_take, h.len]; omega, Nat.le_trans hk h.le, nofun, ⟨nofun, fun a ha j u hu => ?_⟩⟩
  cases ha
  refine h.sl.cell _ rfl j u ?_
  rw [← hu]
  simp only [VS, List.map_take]
  rw [List.getElem?_take]
  split
  · rfl
  · rename_i hj
    rw [List.getElem?_eq_none (by simp [VS, List.length_take]; omega)] at hu
    cases hu
theorem garg_drop {w : World} {b off n c : Nat} {l : List Key} (h : GArg w (some ⟨b, off, none⟩) n c l) (k : Nat) (hk : k ≤ n) : GArg w (some ⟨b, off + k, none⟩) (n - k) (c - k) (l.drop k) := by
  have hle := h.le
  refine ⟨by rw [List.length_drop, h.len], by omega, nofun, ⟨nofun, fun a ha j u hu => ?_⟩⟩
  cases ha
  have hu' : (VS l)[k + j]? = some u := by
    rw [← hu]
    simp only [VS, List.map_drop]
    rw [List.getElem?_drop]
  have h1 := h.sl.cell _ rfl (k + j) u hu'
  rw [show (⟨b, off, none⟩ : Addr).add (k + j) = ⟨b, off + k + j, none⟩ by unfold Addr.add; split <;> simp_all; omega] at h1
  rwa [show (⟨b, off + k, none⟩ : Addr).add j = ⟨b, off + k + j, none⟩ by unfold Addr.add; split <;> simp_all]
theorem garg_own {w : World} {base : Nat} {A : Option Addr} {m c n : Nat} {l : List Key} (h : w.ownsRow base 9 1 (.slice A m c) n (VS l)) : GArg w A n c l := by
  obtain ⟨A', c', hv, hS, hnc, hnil, hl, ha, -⟩ := own_form h
  injection hv with h1 h2 h3
  subst h1 h3
  exact ⟨by rw [VS_length] at hl; omega, hnc, hnil, hS⟩
theorem own_ge {w : World} {base : Nat} {e : TypeId} {size : Nat} {A : Option Addr} {m c n : Nat} {xs : List Value} (h : w.ownsRow base e size (.slice A m c) n xs) : ∀ a, A = some a → base ≤ a.block ∧ a.block < w.heap.size ∧ a.spot = none := by
  obtain ⟨A', c', hv, -, -, -, -, ha, -⟩ := own_form h
  injection hv with h1 h2 h3
  subst h1
  exact fun a e => ⟨(ha a e).1, (ha a e).2.1, by rw [(ha a e).2.2.1]⟩
theorem garg_tail {w : World} {b off n c : Nat} {l : List Key} (h : GArg w (some ⟨b, off, none⟩) (n + 1) c l) : (c = 1 → GArg w (some ⟨b, off, none⟩) n (c - 1) (l.drop 1)) ∧ (¬ c = 1 → GArg w (some ⟨b, off + 1, none⟩) n (c - 1) (l.drop 1)) := by
  refine ⟨fun hc => ?_, fun _ => garg_drop h 1 (by omega)⟩
  have h1 := h.le
  have h2 := h.len
  obtain rfl : n = 0 := by omega
  have e : l.drop 1 = [] := List.drop_eq_nil_of_le (by omega)
  rw [e]
  exact ⟨rfl, by omega, nofun, ⟨nofun, fun a ha j u hu => by simp [VS] at hu⟩⟩
set_option maxHeartbeats 8000000 in
theorem sorted9_any : ∀ (m : Nat) (l : List Key) (A : Option Addr) (c : Nat) (w : World), GArg w A m c l → m ≤ 65536 →
    Calls Tryz.prog 39 #[.slice A m c] w (SortP w l m) := by
  intro m
  induction m using Nat.strongRecOn with
  | ind m ih =>
  intro l A c w hG hm
  by_cases h2 : m < 2
  · have h2i : (m : Int) < 2 := by omega
    have HG := Lib.hid hG
    have hs : srt l = l := by
      have hl := hG.len
      match l, hl with
      | [], _ => simp [srt]
      | [a], _ => exact (srt_eq (List.Perm.refl _) (List.pairwise_singleton _ _)).symm
      | _ :: _ :: _, h => simp at h; omega
    have hO : (w.alloc (.cells #[] 9)).ownsRow w.heap.size 9 1 (.slice (some ⟨w.heap.size, 0, none⟩) 0 0) 0 [] := World.ownsRow_made w #[] 0 (Nat.le_refl _) (by decide) (by simp)
    have hC := below_new w (.cells #[] 9)
    go_enter Tryz.func39, Tryz.ntmps39
    go_wp2_with (at_builtin; refine appE el_str rfl _ _ rfl w.heap.size _ 0 [] rfl hO A m c (VS l) rfl HG.out.nil (by rw [VS_length, HG.out.len, Nat.mul_one]) (HG.out.sl.below hC) (VS_one _) (by omega) hC.size ?_; intro v1 w1 hown1 hg1 _ _; obtain ⟨A1, c1, hv1, -, -, -, -, -, -⟩ := own_form hown1; subst hv1; rw [List.nil_append] at hown1; have H1 := Lib.hid hown1; have HB1 := Lib.hid (hC.grown hg1 hC.size (fun k hk => (World.ownsRow.lt hO k hk).1)); clear hown1 hg1)
    go_ret
    have h9 := H1.out
    rw [Nat.zero_add] at h9
    exact ⟨A1, c1, rfl, by rw [hs]; exact garg_own h9, own_ge h9, HB1.out⟩
  · obtain ⟨b, off, rfl⟩ := garg_lit hG (by omega)
    have h2i : ¬ (m : Int) < 2 := by omega
    obtain ⟨h, hh⟩ : ∃ h, m / 2 = h := ⟨_, rfl⟩
    have q1 : ((m : Int)).tdiv 2 = (h : Int) := by rw [Int.tdiv_eq_ediv_of_nonneg (by omega)]; omega
    have q2 : ((m : Int)) / 2 = (h : Int) := by omega
    have h1 : 1 ≤ h := by omega
    have hhm : h < m := by omega
    have hhc : h ≤ c := by have := hG.le; omega
    have hmc := hG.le
    have z1 : (c == h) = false := by rw [beq_eq_false_iff_ne]; omega
    have z2 : ¬ c = h := by omega
    have HX := Lib.hid (fun (W : World) (k : Below w.heap.size w W) => ih h hhm (l.take h) (some ⟨b, off, none⟩) c W ((garg_take hG h (by omega)).below k) (by omega))
    have HY := Lib.hid (fun (W : World) (k : Below w.heap.size w W) => ih (m - h) (by omega) (l.drop h) (some ⟨b, off + h, none⟩) (c - h) W ((garg_drop hG h (by omega)).below k) (by omega))
    have Hms : Hid (srt (l.take h ++ l.drop h) = srt l) := Lib.hid (by rw [List.take_append_drop])
    have Hh := Lib.hid hh
    clear ih hG hh
    generalize l.take h = lx at *
    generalize l.drop h = ly at *
    obtain ⟨h', hh'⟩ : ∃ h', m - h = h' := ⟨_, rfl⟩
    obtain ⟨c', hc'⟩ : ∃ c', c - h = c' := ⟨_, rfl⟩
    rw [hh', hc'] at HY
    have hsum : h + h' = m := by omega
    go_enter Tryz.func39, Tryz.ntmps39
    go_upto_region 3 with fail
    go_cut [3, 4] (fun sx sy wx => ∃ Ax cx Ay cy, sx = .slice Ax h cx ∧ sy = .slice Ay h' cy ∧ GArg wx Ax h cx (srt lx) ∧ GArg wx Ay h' cy (srt ly) ∧ Below w.heap.size w wx)
    case first =>
      have r0 : IntKind.i64.wrap (h : Int) = (h : Int) := IntWalk.i64_in _ (by omega)
      have r1 : IntKind.i64.wrap ((m : Int).tdiv 2) = (h : Int) := by rw [q1]; exact r0
      have r2 : IntKind.i64.wrap ((m : Int) / 2) = (h : Int) := by rw [q2]; exact r0
      have b1 : (0 : Int) ≤ (h : Int) := by omega
      have b2 : (h : Int) ≤ (c : Int) := by omega
      have b3 : (h : Int) ≤ (m : Int) := by omega
      have b4 : (m : Int) ≤ (c : Int) := by omega
      go_region_held3 (fun W => Below w.heap.size w W)
        (first | exact below_drewN _ _ _ | exact (Below.refl _ _).drew | exact below_step (by assumption) (by assumption))
        (first | (go_at_call 39; first | ((with_reducible refine (HX.out _ (by assumption)).mono ?_); rintro e w5 ⟨A5, c5, rfl, hG5, -, hB5⟩) | ((with_reducible refine (HY.out _ (by assumption)).mono ?_); rintro e w6 ⟨A6, c6, rfl, hG6, -, hB6⟩)))
      all_goals go_wp2_with fail
      all_goals go_meet
      all_goals exact ⟨A5, c5, A6, c6, rfl, rfl, by first | exact hG5 | exact hG5.below (by assumption), by first | exact hG6 | exact hG6.below (by assumption), by first | exact below_step (below_step (below_drewN w.heap.size w 1) hB5) hB6 | exact below_step (below_step (below_drewN w.heap.size w 1) hB6) hB5⟩
    case rest =>
      obtain ⟨Ax0, cx0, Ay0, cy0, rfl, rfl, hGx, hGy, hB⟩ := hcut
      have HGx0 := Lib.hid hGx
      have HGy0 := Lib.hid hGy
      have HBc := Lib.hid hB
      have Hlx := Lib.hid hGx.len
      have Hly := Lib.hid hGy.len
      clear hGx hGy hB HX HY q1 q2
      go_wp2_with fail
      go_loopw [5, 3, 4] (fun out sx sy wr => ∃ (i k nx ny : Nat) (acc : List Key) (Ax Ay Ao : Option Addr) (cx cy co : Nat), nx + i = h ∧ ny + k = h' ∧ sx = .slice Ax nx cx ∧ sy = .slice Ay ny cy ∧ out = .slice Ao acc.length co ∧ Hid (GArg wc Ax nx cx ((srt lx).drop i)) ∧ Hid (GArg wc Ay ny cy ((srt ly).drop k)) ∧ Hid (wr.ownsRow wc.heap.size 9 1 (.slice Ao acc.length co) acc.length (VS acc)) ∧ Hid (MgK (srt lx) (srt ly) i k acc) ∧ Hid (Below wc.heap.size wc wr)) (fun _ sx sy _ => lenOf sx + lenOf sy)
      case atStart => exact ⟨0, 0, h, h', [], Ax0, Ay0, none, cx0, cy0, 0, rfl, rfl, rfl, rfl, rfl, by simpa using HGx0, by simpa using HGy0, Lib.hid (World.ownsRow_nil _ _ _ _), Lib.hid (MgK.start _ _), Lib.hid (Below.refl _ _)⟩
      case round =>
        clear HGx0 HGy0
        obtain ⟨i, k, nx, ny, acc, Ax, Ay, Ao, cx, cy, co, hi, hk, rfl, rfl, rfl, HGx, HGy, HO, HM, HB⟩ := hrel
        by_cases hx0 : 0 < nx
        · obtain ⟨bx, ox, rfl⟩ := garg_lit HGx.out hx0
          have hcx : wr.cell? ⟨bx, ox, none⟩ = _ := garg_cell (HGx.out.below HB.out) hx0
          by_cases hy0 : 0 < ny
          · obtain ⟨by', oy, rfl⟩ := garg_lit HGy.out hy0
            have hcy : wr.cell? ⟨by', oy, none⟩ = _ := garg_cell (HGy.out.below HB.out) hy0
            have j1 : (0 : Int) < (nx : Int) := by omega
            have j2 : (0 : Int) < (ny : Int) := by omega
            have j3 : ¬ (ny : Int) = 0 := by omega
            have j4 : ¬ ny = 0 := by omega
            have e1 : ((ny : Int) == 0) = false := by rw [beq_eq_false_iff_ne]; omega
            have e2 : (ny == 0) = false := by rw [beq_eq_false_iff_ne]; omega
            have e3 : decide ((0 : Int) < (nx : Int)) = true := decide_eq_true (by omega)
            have e4 : decide (0 < nx) = true := decide_eq_true (by omega)
            have e5 : decide (ny = 0) = false := decide_eq_false (by omega)
            have e6 : decide ((ny : Int) = 0) = false := decide_eq_false (by omega)
            have hle : leK (((srt lx).drop i).getD 0 []) (((srt ly).drop k).getD 0 []) = (Op.bytesLess (((srt lx).drop i).getD 0 []) (((srt ly).drop k).getD 0 []) || (((srt lx).drop i).getD 0 []) == (((srt ly).drop k).getD 0 [])) := leK_str _ _
            have HML := Lib.hid (fun e => HM.out.left (i := i) (k := k) (by rw [Hlx.out]; omega) (.inr ⟨by rw [Hly.out]; omega, e⟩))
            have HMR := Lib.hid (fun e => HM.out.right (i := i) (k := k) (by rw [Hly.out]; omega) (.inr ⟨by rw [Hlx.out]; omega, e⟩))
            rw [getD_drop0, getD_drop0] at hle
            rw [getD_drop0] at hcx hcy
            generalize (srt lx).getD i [] = kx at *
            generalize (srt ly).getD k [] = ky at *
            have Hle := Lib.hid hle
            clear hle
            generalize hb1 : Op.bytesLess kx ky = b1 at *
            generalize hb2 : (kx == ky) = b2 at *
            cases b1 with
            | true =>
              go_wp2_with fail
              go_quiet (fail)
              obtain ⟨w9, hw9⟩ : ∃ w9, wr.drewN nq = w9 := ⟨_, rfl⟩
              have hD9 : Below wr.heap.size wr w9 := by rw [← hw9]; exact below_drewN _ _ _
              have hc9 : w9.cell? ⟨bx, ox, none⟩ = some (.string (ba kx)) := by rw [← hw9]; exact hcx
              have HO9 := Lib.hid (own_below HO.out hD9)
              have HB9 := Lib.hid (below_step HB.out hD9)
              rw [hw9]
              clear hw9 hD9 hcx hcy
              have hs9 := HB9.out.size
              have hal : acc.length ≤ 65536 := by have := HM.out.len; omega
              have hT := garg_tail (n := nx - 1) (by rw [Nat.sub_add_cancel hx0]; exact HGx.out)
              have hcle := HGx.out.le
              have g1 : (1 : Int) ≤ (nx : Int) := by omega
              obtain ⟨n1, hn1⟩ : ∃ n1, nx - 1 = n1 := ⟨_, rfl⟩
              obtain ⟨cd, hc1⟩ : ∃ cd, cx - 1 = cd := ⟨_, rfl⟩
              rw [hn1, hc1, List.drop_drop] at hT
              have HT := Lib.hid hT
              clear hT
              by_cases hone : cx = 1
              · have Hpk := Lib.hid (HT.out.1 hone)
                have g2 : (cx == 1) = true := by rw [hone]; rfl
                obtain rfl : cd = 0 := by omega
                clear HT
                go_wp2_with (at_builtin; refine appE el_str rfl _ _ rfl wc.heap.size _ acc.length (VS acc) rfl (World.ownsRow.alloc HO9.out _) (some ⟨w9.heap.size, 0, none⟩) 1 1 [encStr kx] rfl (fun e => by cases e) rfl (sl_blk (heap_alloc_new w9 _)) (fun u hu => by simp at hu; subst hu; rfl) (by omega) (by simp; omega) ?_; intro v7 w7 hown7 hg7 _ _; obtain ⟨A7, c7, hv7, -, -, -, -, -, -⟩ := own_form hown7; subst hv7; have H7 := Lib.hid hown7; have HB7 := Lib.hid ((HB9.out.alloc hs9 (.cells #[.string (ba kx)] 9)).grown hg7 (by simp; omega) (fun k hk => (World.ownsRow.lt HO9.out k hk).1)); clear hown7 hg7)
                go_roundw
                case rel => exact ⟨i + 1, k, n1, ny, acc ++ [kx], some ⟨bx, ox, none⟩, _, A7, _, cy, c7, by omega, hk, by rfl, rfl, by rw [List.length_append]; rfl, Lib.hid (Hpk.out), HGy, Lib.hid (by rw [List.length_append, VS_append]; exact H7.out), Lib.hid (HML.out (Hle.out.trans rfl)), HB7⟩
                case measure => simp [lenOf]; omega
              · have Hpk := Lib.hid (HT.out.2 hone)
                have g2 : (cx == 1) = false := by rw [beq_eq_false_iff_ne]; exact hone
                clear HT
                go_wp2_with (at_builtin; refine appE el_str rfl _ _ rfl wc.heap.size _ acc.length (VS acc) rfl (World.ownsRow.alloc HO9.out _) (some ⟨w9.heap.size, 0, none⟩) 1 1 [encStr kx] rfl (fun e => by cases e) rfl (sl_blk (heap_alloc_new w9 _)) (fun u hu => by simp at hu; subst hu; rfl) (by omega) (by simp; omega) ?_; intro v7 w7 hown7 hg7 _ _; obtain ⟨A7, c7, hv7, -, -, -, -, -, -⟩ := own_form hown7; subst hv7; have H7 := Lib.hid hown7; have HB7 := Lib.hid ((HB9.out.alloc hs9 (.cells #[.string (ba kx)] 9)).grown hg7 (by simp; omega) (fun k hk => (World.ownsRow.lt HO9.out k hk).1)); clear hown7 hg7)
                go_roundw
                case rel => exact ⟨i + 1, k, n1, ny, acc ++ [kx], some ⟨bx, ox + 1, none⟩, _, A7, _, cy, c7, by omega, hk, by rfl, rfl, by rw [List.length_append]; rfl, Lib.hid (Hpk.out), HGy, Lib.hid (by rw [List.length_append, VS_append]; exact H7.out), Lib.hid (HML.out (Hle.out.trans rfl)), HB7⟩
                case measure => simp [lenOf]; omega
            | false =>
              cases b2 with
              | true =>
                go_wp2_with fail
                go_quiet (fail)
                obtain ⟨w9, hw9⟩ : ∃ w9, wr.drewN nq = w9 := ⟨_, rfl⟩
                have hD9 : Below wr.heap.size wr w9 := by rw [← hw9]; exact below_drewN _ _ _
                have hc9 : w9.cell? ⟨bx, ox, none⟩ = some (.string (ba kx)) := by rw [← hw9]; exact hcx
                have HO9 := Lib.hid (own_below HO.out hD9)
                have HB9 := Lib.hid (below_step HB.out hD9)
                rw [hw9]
                clear hw9 hD9 hcx hcy
                have hs9 := HB9.out.size
                have hal : acc.length ≤ 65536 := by have := HM.out.len; omega
                have hT := garg_tail (n := nx - 1) (by rw [Nat.sub_add_cancel hx0]; exact HGx.out)
                have hcle := HGx.out.le
                have g1 : (1 : Int) ≤ (nx : Int) := by omega
                obtain ⟨n1, hn1⟩ : ∃ n1, nx - 1 = n1 := ⟨_, rfl⟩
                obtain ⟨cd, hc1⟩ : ∃ cd, cx - 1 = cd := ⟨_, rfl⟩
                rw [hn1, hc1, List.drop_drop] at hT
                have HT := Lib.hid hT
                clear hT
                by_cases hone : cx = 1
                · have Hpk := Lib.hid (HT.out.1 hone)
                  have g2 : (cx == 1) = true := by rw [hone]; rfl
                  obtain rfl : cd = 0 := by omega
                  clear HT
                  go_wp2_with (at_builtin; refine appE el_str rfl _ _ rfl wc.heap.size _ acc.length (VS acc) rfl (World.ownsRow.alloc HO9.out _) (some ⟨w9.heap.size, 0, none⟩) 1 1 [encStr kx] rfl (fun e => by cases e) rfl (sl_blk (heap_alloc_new w9 _)) (fun u hu => by simp at hu; subst hu; rfl) (by omega) (by simp; omega) ?_; intro v7 w7 hown7 hg7 _ _; obtain ⟨A7, c7, hv7, -, -, -, -, -, -⟩ := own_form hown7; subst hv7; have H7 := Lib.hid hown7; have HB7 := Lib.hid ((HB9.out.alloc hs9 (.cells #[.string (ba kx)] 9)).grown hg7 (by simp; omega) (fun k hk => (World.ownsRow.lt HO9.out k hk).1)); clear hown7 hg7)
                  go_roundw
                  case rel => exact ⟨i + 1, k, n1, ny, acc ++ [kx], some ⟨bx, ox, none⟩, _, A7, _, cy, c7, by omega, hk, by rfl, rfl, by rw [List.length_append]; rfl, Lib.hid (Hpk.out), HGy, Lib.hid (by rw [List.length_append, VS_append]; exact H7.out), Lib.hid (HML.out (Hle.out.trans rfl)), HB7⟩
                  case measure => simp [lenOf]; omega
                · have Hpk := Lib.hid (HT.out.2 hone)
                  have g2 : (cx == 1) = false := by rw [beq_eq_false_iff_ne]; exact hone
                  clear HT
                  go_wp2_with (at_builtin; refine appE el_str rfl _ _ rfl wc.heap.size _ acc.length (VS acc) rfl (World.ownsRow.alloc HO9.out _) (some ⟨w9.heap.size, 0, none⟩) 1 1 [encStr kx] rfl (fun e => by cases e) rfl (sl_blk (heap_alloc_new w9 _)) (fun u hu => by simp at hu; subst hu; rfl) (by omega) (by simp; omega) ?_; intro v7 w7 hown7 hg7 _ _; obtain ⟨A7, c7, hv7, -, -, -, -, -, -⟩ := own_form hown7; subst hv7; have H7 := Lib.hid hown7; have HB7 := Lib.hid ((HB9.out.alloc hs9 (.cells #[.string (ba kx)] 9)).grown hg7 (by simp; omega) (fun k hk => (World.ownsRow.lt HO9.out k hk).1)); clear hown7 hg7)
                  go_roundw
                  case rel => exact ⟨i + 1, k, n1, ny, acc ++ [kx], some ⟨bx, ox + 1, none⟩, _, A7, _, cy, c7, by omega, hk, by rfl, rfl, by rw [List.length_append]; rfl, Lib.hid (Hpk.out), HGy, Lib.hid (by rw [List.length_append, VS_append]; exact H7.out), Lib.hid (HML.out (Hle.out.trans rfl)), HB7⟩
                  case measure => simp [lenOf]; omega
              | false =>
                go_wp2_with fail
                go_quiet (fail)
                obtain ⟨w9, hw9⟩ : ∃ w9, wr.drewN nq = w9 := ⟨_, rfl⟩
                have hD9 : Below wr.heap.size wr w9 := by rw [← hw9]; exact below_drewN _ _ _
                have hc9 : w9.cell? ⟨by', oy, none⟩ = some (.string (ba ky)) := by rw [← hw9]; exact hcy
                have HO9 := Lib.hid (own_below HO.out hD9)
                have HB9 := Lib.hid (below_step HB.out hD9)
                rw [hw9]
                clear hw9 hD9 hcx hcy
                have hs9 := HB9.out.size
                have hal : acc.length ≤ 65536 := by have := HM.out.len; omega
                have hT := garg_tail (n := ny - 1) (by rw [Nat.sub_add_cancel hy0]; exact HGy.out)
                have hcle := HGy.out.le
                have g1 : (1 : Int) ≤ (ny : Int) := by omega
                obtain ⟨n1, hn1⟩ : ∃ n1, ny - 1 = n1 := ⟨_, rfl⟩
                obtain ⟨cd, hc1⟩ : ∃ cd, cy - 1 = cd := ⟨_, rfl⟩
                rw [hn1, hc1, List.drop_drop] at hT
                have HT := Lib.hid hT
                clear hT
                by_cases hone : cy = 1
                · have Hpk := Lib.hid (HT.out.1 hone)
                  have g2 : (cy == 1) = true := by rw [hone]; rfl
                  obtain rfl : cd = 0 := by omega
                  clear HT
                  go_wp2_with (at_builtin; refine appE el_str rfl _ _ rfl wc.heap.size _ acc.length (VS acc) rfl (World.ownsRow.alloc HO9.out _) (some ⟨w9.heap.size, 0, none⟩) 1 1 [encStr ky] rfl (fun e => by cases e) rfl (sl_blk (heap_alloc_new w9 _)) (fun u hu => by simp at hu; subst hu; rfl) (by omega) (by simp; omega) ?_; intro v7 w7 hown7 hg7 _ _; obtain ⟨A7, c7, hv7, -, -, -, -, -, -⟩ := own_form hown7; subst hv7; have H7 := Lib.hid hown7; have HB7 := Lib.hid ((HB9.out.alloc hs9 (.cells #[.string (ba ky)] 9)).grown hg7 (by simp; omega) (fun k hk => (World.ownsRow.lt HO9.out k hk).1)); clear hown7 hg7)
                  go_roundw
                  case rel => exact ⟨i, k + 1, nx, n1, acc ++ [ky], _, some ⟨by', oy, none⟩, A7, cx, _, c7, hi, by omega, rfl, by rfl, by rw [List.length_append]; rfl, HGx, Lib.hid (Hpk.out), Lib.hid (by rw [List.length_append, VS_append]; exact H7.out), Lib.hid (HMR.out (Hle.out.trans rfl)), HB7⟩
                  case measure => simp [lenOf]; omega
                · have Hpk := Lib.hid (HT.out.2 hone)
                  have g2 : (cy == 1) = false := by rw [beq_eq_false_iff_ne]; exact hone
                  clear HT
                  go_wp2_with (at_builtin; refine appE el_str rfl _ _ rfl wc.heap.size _ acc.length (VS acc) rfl (World.ownsRow.alloc HO9.out _) (some ⟨w9.heap.size, 0, none⟩) 1 1 [encStr ky] rfl (fun e => by cases e) rfl (sl_blk (heap_alloc_new w9 _)) (fun u hu => by simp at hu; subst hu; rfl) (by omega) (by simp; omega) ?_; intro v7 w7 hown7 hg7 _ _; obtain ⟨A7, c7, hv7, -, -, -, -, -, -⟩ := own_form hown7; subst hv7; have H7 := Lib.hid hown7; have HB7 := Lib.hid ((HB9.out.alloc hs9 (.cells #[.string (ba ky)] 9)).grown hg7 (by simp; omega) (fun k hk => (World.ownsRow.lt HO9.out k hk).1)); clear hown7 hg7)
                  go_roundw
                  case rel => exact ⟨i, k + 1, nx, n1, acc ++ [ky], _, some ⟨by', oy + 1, none⟩, A7, cx, _, c7, hi, by omega, rfl, by rfl, by rw [List.length_append]; rfl, HGx, Lib.hid (Hpk.out), Lib.hid (by rw [List.length_append, VS_append]; exact H7.out), Lib.hid (HMR.out (Hle.out.trans rfl)), HB7⟩
                  case measure => simp [lenOf]; omega
          · obtain rfl : ny = 0 := by omega
            have HML := Lib.hid (HM.out.left (i := i) (k := k) (by rw [Hlx.out]; omega) (.inl (by rw [Hly.out]; omega)))
            have j1 : (0 : Int) < (nx : Int) := by omega
            have e3 : decide ((0 : Int) < (nx : Int)) = true := decide_eq_true (by omega)
            have e4 : decide (0 < nx) = true := decide_eq_true (by omega)
            rw [getD_drop0] at hcx
            generalize (srt lx).getD i [] = kx at *
            go_wp2_with fail
            go_quiet (fail)
            obtain ⟨w9, hw9⟩ : ∃ w9, wr.drewN nq = w9 := ⟨_, rfl⟩
            have hD9 : Below wr.heap.size wr w9 := by rw [← hw9]; exact below_drewN _ _ _
            have hc9 : w9.cell? ⟨bx, ox, none⟩ = some (.string (ba kx)) := by rw [← hw9]; exact hcx
            have HO9 := Lib.hid (own_below HO.out hD9)
            have HB9 := Lib.hid (below_step HB.out hD9)
            rw [hw9]
            clear hw9 hD9 hcx
            have hs9 := HB9.out.size
            have hal : acc.length ≤ 65536 := by have := HM.out.len; omega
            have hT := garg_tail (n := nx - 1) (by rw [Nat.sub_add_cancel hx0]; exact HGx.out)
            have hcle := HGx.out.le
            have g1 : (1 : Int) ≤ (nx : Int) := by omega
            obtain ⟨n1, hn1⟩ : ∃ n1, nx - 1 = n1 := ⟨_, rfl⟩
            obtain ⟨cd, hc1⟩ : ∃ cd, cx - 1 = cd := ⟨_, rfl⟩
            rw [hn1, hc1, List.drop_drop] at hT
            have HT := Lib.hid hT
            clear hT
            by_cases hone : cx = 1
            · have Hpk := Lib.hid (HT.out.1 hone)
              have g2 : (cx == 1) = true := by rw [hone]; rfl
              obtain rfl : cd = 0 := by omega
              clear HT
              go_wp2_with (at_builtin; refine appE el_str rfl _ _ rfl wc.heap.size _ acc.length (VS acc) rfl (World.ownsRow.alloc HO9.out _) (some ⟨w9.heap.size, 0, none⟩) 1 1 [encStr kx] rfl (fun e => by cases e) rfl (sl_blk (heap_alloc_new w9 _)) (fun u hu => by simp at hu; subst hu; rfl) (by omega) (by simp; omega) ?_; intro v7 w7 hown7 hg7 _ _; obtain ⟨A7, c7, hv7, -, -, -, -, -, -⟩ := own_form hown7; subst hv7; have H7 := Lib.hid hown7; have HB7 := Lib.hid ((HB9.out.alloc hs9 (.cells #[.string (ba kx)] 9)).grown hg7 (by simp; omega) (fun k hk => (World.ownsRow.lt HO9.out k hk).1)); clear hown7 hg7)
              go_roundw
              case rel => exact ⟨i + 1, k, n1, _, acc ++ [kx], some ⟨bx, ox, none⟩, _, A7, _, cy, c7, by omega, hk, by rfl, rfl, by rw [List.length_append]; rfl, Lib.hid (Hpk.out), HGy, Lib.hid (by rw [List.length_append, VS_append]; exact H7.out), HML, HB7⟩
              case measure => simp [lenOf]; omega
            · have Hpk := Lib.hid (HT.out.2 hone)
              have g2 : (cx == 1) = false := by rw [beq_eq_false_iff_ne]; exact hone
              clear HT
              go_wp2_with (at_builtin; refine appE el_str rfl _ _ rfl wc.heap.size _ acc.length (VS acc) rfl (World.ownsRow.alloc HO9.out _) (some ⟨w9.heap.size, 0, none⟩) 1 1 [encStr kx] rfl (fun e => by cases e) rfl (sl_blk (heap_alloc_new w9 _)) (fun u hu => by simp at hu; subst hu; rfl) (by omega) (by simp; omega) ?_; intro v7 w7 hown7 hg7 _ _; obtain ⟨A7, c7, hv7, -, -, -, -, -, -⟩ := own_form hown7; subst hv7; have H7 := Lib.hid hown7; have HB7 := Lib.hid ((HB9.out.alloc hs9 (.cells #[.string (ba kx)] 9)).grown hg7 (by simp; omega) (fun k hk => (World.ownsRow.lt HO9.out k hk).1)); clear hown7 hg7)
              go_roundw
              case rel => exact ⟨i + 1, k, n1, _, acc ++ [kx], some ⟨bx, ox + 1, none⟩, _, A7, _, cy, c7, by omega, hk, by rfl, rfl, by rw [List.length_append]; rfl, Lib.hid (Hpk.out), HGy, Lib.hid (by rw [List.length_append, VS_append]; exact H7.out), HML, HB7⟩
              case measure => simp [lenOf]; omega
        · obtain rfl : nx = 0 := by omega
          by_cases hy0 : 0 < ny
          · obtain ⟨by', oy, rfl⟩ := garg_lit HGy.out hy0
            have hcy : wr.cell? ⟨by', oy, none⟩ = _ := garg_cell (HGy.out.below HB.out) hy0
            have HMR := Lib.hid (HM.out.right (i := i) (k := k) (by rw [Hly.out]; omega) (.inl (by rw [Hlx.out]; omega)))
            have j2 : (0 : Int) < (ny : Int) := by omega
            have j3 : ¬ (ny : Int) = 0 := by omega
            have e1 : ((ny : Int) == 0) = false := by rw [beq_eq_false_iff_ne]; omega
            have e2 : (ny == 0) = false := by rw [beq_eq_false_iff_ne]; omega
            have e5 : decide (ny = 0) = false := decide_eq_false (by omega)
            have e6 : decide ((ny : Int) = 0) = false := decide_eq_false (by omega)
            rw [getD_drop0] at hcy
            generalize (srt ly).getD k [] = ky at *
            go_wp2_with fail
            go_quiet (fail)
            obtain ⟨w9, hw9⟩ : ∃ w9, wr.drewN nq = w9 := ⟨_, rfl⟩
            have hD9 : Below wr.heap.size wr w9 := by rw [← hw9]; exact below_drewN _ _ _
            have hc9 : w9.cell? ⟨by', oy, none⟩ = some (.string (ba ky)) := by rw [← hw9]; exact hcy
            have HO9 := Lib.hid (own_below HO.out hD9)
            have HB9 := Lib.hid (below_step HB.out hD9)
            rw [hw9]
            clear hw9 hD9 hcy
            have hs9 := HB9.out.size
            have hal : acc.length ≤ 65536 := by have := HM.out.len; omega
            have hT := garg_tail (n := ny - 1) (by rw [Nat.sub_add_cancel hy0]; exact HGy.out)
            have hcle := HGy.out.le
            have g1 : (1 : Int) ≤ (ny : Int) := by omega
            obtain ⟨n1, hn1⟩ : ∃ n1, ny - 1 = n1 := ⟨_, rfl⟩
            obtain ⟨cd, hc1⟩ : ∃ cd, cy - 1 = cd := ⟨_, rfl⟩
            rw [hn1, hc1, List.drop_drop] at hT
            have HT := Lib.hid hT
            clear hT
            by_cases hone : cy = 1
            · have Hpk := Lib.hid (HT.out.1 hone)
              have g2 : (cy == 1) = true := by rw [hone]; rfl
              obtain rfl : cd = 0 := by omega
              clear HT
              go_wp2_with (at_builtin; refine appE el_str rfl _ _ rfl wc.heap.size _ acc.length (VS acc) rfl (World.ownsRow.alloc HO9.out _) (some ⟨w9.heap.size, 0, none⟩) 1 1 [encStr ky] rfl (fun e => by cases e) rfl (sl_blk (heap_alloc_new w9 _)) (fun u hu => by simp at hu; subst hu; rfl) (by omega) (by simp; omega) ?_; intro v7 w7 hown7 hg7 _ _; obtain ⟨A7, c7, hv7, -, -, -, -, -, -⟩ := own_form hown7; subst hv7; have H7 := Lib.hid hown7; have HB7 := Lib.hid ((HB9.out.alloc hs9 (.cells #[.string (ba ky)] 9)).grown hg7 (by simp; omega) (fun k hk => (World.ownsRow.lt HO9.out k hk).1)); clear hown7 hg7)
              go_roundw
              case rel => exact ⟨i, k + 1, _, n1, acc ++ [ky], _, some ⟨by', oy, none⟩, A7, cx, _, c7, hi, by omega, rfl, by rfl, by rw [List.length_append]; rfl, HGx, Lib.hid (Hpk.out), Lib.hid (by rw [List.length_append, VS_append]; exact H7.out), HMR, HB7⟩
              case measure => simp [lenOf]; omega
            · have Hpk := Lib.hid (HT.out.2 hone)
              have g2 : (cy == 1) = false := by rw [beq_eq_false_iff_ne]; exact hone
              clear HT
              go_wp2_with (at_builtin; refine appE el_str rfl _ _ rfl wc.heap.size _ acc.length (VS acc) rfl (World.ownsRow.alloc HO9.out _) (some ⟨w9.heap.size, 0, none⟩) 1 1 [encStr ky] rfl (fun e => by cases e) rfl (sl_blk (heap_alloc_new w9 _)) (fun u hu => by simp at hu; subst hu; rfl) (by omega) (by simp; omega) ?_; intro v7 w7 hown7 hg7 _ _; obtain ⟨A7, c7, hv7, -, -, -, -, -, -⟩ := own_form hown7; subst hv7; have H7 := Lib.hid hown7; have HB7 := Lib.hid ((HB9.out.alloc hs9 (.cells #[.string (ba ky)] 9)).grown hg7 (by simp; omega) (fun k hk => (World.ownsRow.lt HO9.out k hk).1)); clear hown7 hg7)
              go_roundw
              case rel => exact ⟨i, k + 1, _, n1, acc ++ [ky], _, some ⟨by', oy + 1, none⟩, A7, cx, _, c7, hi, by omega, rfl, by rfl, by rw [List.length_append]; rfl, HGx, Lib.hid (Hpk.out), Lib.hid (by rw [List.length_append, VS_append]; exact H7.out), HMR, HB7⟩
              case measure => simp [lenOf]; omega
          · obtain rfl : ny = 0 := by omega
            have hacc := HM.out.done (by rw [Hlx.out]; omega) (by rw [Hly.out]; omega)
            rw [merge_srt, Hms.out] at hacc
            have hlen : acc.length = m := by have := HM.out.len; omega
            have hGo := garg_own HO.out
            rw [hlen] at hGo ⊢
            have HGo := Lib.hid hGo
            have hge := own_ge HO.out
            have HGe := Lib.hid (show ∀ a, Ao = some a → w.heap.size ≤ a.block ∧ a.block < wr.heap.size ∧ a.spot = none from fun a ha => ⟨Nat.le_trans HBc.out.size (hge a ha).1, (hge a ha).2⟩)
            clear hGo hge
            go_wp2_with fail
            go_ret
            exact ⟨Ao, co, rfl, by rw [← hacc]; exact HGo.out, HGe.out, below_step HBc.out HB.out⟩
end Go.Proofs.YtphccomhggnccaaGreat
/- haystackref1: Num, Bytes, Nums. -/
namespace Go.Proofs.YtphccomhggnccaaGreat
set_option maxRecDepth 100000
set_option linter.unusedVariables false
set_option linter.unusedSimpArgs false
set_option maxRecDepth 100000
open Go.RowKit Sg Fm
/-- bytes that a call left, in a row of its own -/
def OwnY (w : World) (t : List Nat) (e : Ending) (W' : World) : Prop := ∃ v, e = .returned v ∧ W'.ownsRow w.heap.size 5 1 v t.length (VY t) ∧ Below w.heap.size w W'
theorem and127 {u : Nat} (h : u < 18446744073709551616) : bits .and .u64 (u : Int) 127 = ((u % 128 : Nat) : Int) := by
  rw [show (127 : Int) = ((127 : Nat) : Int) from rfl, u64_and_nat u 127 h (by decide)]
  congr 1
  exact Nat.and_two_pow_sub_one_eq_mod u 7
set_option maxHeartbeats 4000000 in
theorem num1_any (w : World) (v : Nat) (hv : v < 4611686018427387904) : Calls Tryz.prog 89 #[.int .i64 (v : Int)] w (OwnY w (num v)) := by
  have h62 : ¬ (4611686018427387904 : Int) < (v : Int) := by omega
  by_cases hz : 0 < v
  · have hzi : (0 : Int) < (v : Int) := by omega
    have Hz : Hid (Value.int .u64 (v : Int) = Value.int .u64 (v : Int)) := Lib.hid rfl
    go_enter Tryz.func89, Tryz.ntmps89
    go_wp2_with fail
    go_loopw [3, 4] (fun q b wr => ∃ (u : Nat) (dn : List Nat), q = .int .u64 (u : Int) ∧ u ≤ v ∧ Hid (num v = dn ++ num u) ∧ Hid (wr.ownsRow w.heap.size 5 1 b dn.length (VY dn)) ∧ Hid (Below w.heap.size w wr)) (fun q _ _ => (intOf q).toNat)
    case atStart => exact ⟨v, [], (by first | exact Hz.out | rfl), Nat.le_refl _, Lib.hid rfl, Lib.hid (World.ownsRow_nil _ _ _ _), Lib.hid (Below.refl _ _)⟩
    case round =>
      obtain ⟨u, dn, rfl, huv, Hn, HO, HB⟩ := hrel
      obtain ⟨A1, c1, hv1, -, -, -, -, -, -⟩ := own_form HO.out
      subst hv1
      have hdl : dn.length + (num u).length ≤ 10 := by
        have h1 := congrArg List.length Hn.out
        have h2 := num_len 9 v (by omega)
        rw [List.length_append] at h1
        omega
      have hsw := HB.out.size
      have Hnh := Lib.hid (@num_hi u)
      have Hnl := Lib.hid (@num_lo u)
      by_cases hu : 128 ≤ u
      · have hui : (128 : Int) ≤ (u : Int) := by omega
        have hand := and127 (u := u) (by omega)
        have hor := @or128 (u % 128)
        have hnx := Hnh.out hu
        obtain ⟨r, hr⟩ : ∃ r, u % 128 = r := ⟨_, rfl⟩
        have hrl : r < 128 := by omega
        rw [hr] at hand hor hnx
        rw [Nat.mod_eq_of_lt hrl] at hor
        obtain ⟨d, hd⟩ : ∃ d, r + 128 = d := ⟨_, rfl⟩
        obtain ⟨u2, hu2⟩ : ∃ d, u / 128 = d := ⟨_, rfl⟩
        have hdv : (u : Int) / 128 = (u2 : Int) := by omega
        have hu2v : u2 < u := by omega
        rw [hd] at hor hnx
        rw [hu2] at hnx
        have Hnx := Lib.hid hnx
        clear hr hd hu2 hnx hrl
        go_wp2_with (at_builtin; refine appE el_u8 rfl _ _ rfl w.heap.size _ dn.length (VY dn) rfl (World.ownsRow.alloc HO.out _) (some ⟨wr.heap.size, 0, none⟩) 1 1 (VY [d]) rfl (fun h => by cases h) rfl (sl_blk (heap_alloc_new wr _)) (VY_one _) (by omega) (by simp; omega) ?_; intro v' w1 hown hg _ _; obtain ⟨A7, c7, hv7, -, -, -, -, -, -⟩ := own_form hown; subst hv7; have H7 := Lib.hid hown; have HB7 := Lib.hid ((HB.out.alloc hsw (.cells #[.int .u8 (d : Int)] 5)).grown hg (by simp; omega) (fun k hk => (World.ownsRow.lt HO.out k hk).1)); clear hown hg)
        go_roundw
        case rel => exact ⟨u2, dn ++ [d], by first | rfl | go_num, by omega, Lib.hid (by rw [Hn.out, Hnx.out]; simp), Lib.hid (by rw [List.length_append, VY_append]; exact H7.out), HB7⟩
        case measure => simp [intOf]; omega
      · have hui : ¬ (128 : Int) ≤ (u : Int) := by omega
        have hw8 : IntKind.u8.wrap (u : Int) = (u : Int) := wrap8_lo (by omega)
        have hm8 : (u : Int) % 256 = (u : Int) := by omega
        go_wp2_with (at_builtin; refine appE el_u8 rfl _ _ rfl w.heap.size _ dn.length (VY dn) rfl (World.ownsRow.alloc HO.out _) (some ⟨wr.heap.size, 0, none⟩) 1 1 (VY [u]) rfl (fun h => by cases h) rfl (sl_blk (heap_alloc_new wr _)) (VY_one _) (by omega) (by simp; omega) ?_; intro v' w1 hown hg _ _; obtain ⟨A7, c7, hv7, -, -, -, -, -, -⟩ := own_form hown; subst hv7; have H7 := Lib.hid hown; have HB7 := Lib.hid ((HB.out.alloc hsw (.cells #[.int .u8 (u : Int)] 5)).grown hg (by simp; omega) (fun k hk => (World.ownsRow.lt HO.out k hk).1)); clear hown hg)
        go_ret
        have e9 : num v = dn ++ [u] := by rw [Hn.out, Hnl.out (by omega)]
        exact ⟨_, rfl, by rw [e9, List.length_append, VY_append]; exact H7.out, HB7.out⟩
  · have hzi : ¬ (0 : Int) < (v : Int) := by omega
    have Hz : Hid (Value.int .u64 0 = Value.int .u64 (v : Int)) := by
      obtain rfl : v = 0 := by omega
      exact Lib.hid rfl
    go_enter Tryz.func89, Tryz.ntmps89
    go_wp2_with fail
    go_loopw [3, 4] (fun q b wr => ∃ (u : Nat) (dn : List Nat), q = .int .u64 (u : Int) ∧ u ≤ v ∧ Hid (num v = dn ++ num u) ∧ Hid (wr.ownsRow w.heap.size 5 1 b dn.length (VY dn)) ∧ Hid (Below w.heap.size w wr)) (fun q _ _ => (intOf q).toNat)
    case atStart => exact ⟨v, [], (by first | exact Hz.out | rfl), Nat.le_refl _, Lib.hid rfl, Lib.hid (World.ownsRow_nil _ _ _ _), Lib.hid (Below.refl _ _)⟩
    case round =>
      obtain ⟨u, dn, rfl, huv, Hn, HO, HB⟩ := hrel
      obtain ⟨A1, c1, hv1, -, -, -, -, -, -⟩ := own_form HO.out
      subst hv1
      have hdl : dn.length + (num u).length ≤ 10 := by
        have h1 := congrArg List.length Hn.out
        have h2 := num_len 9 v (by omega)
        rw [List.length_append] at h1
        omega
      have hsw := HB.out.size
      have Hnh := Lib.hid (@num_hi u)
      have Hnl := Lib.hid (@num_lo u)
      by_cases hu : 128 ≤ u
      · exfalso; omega
      · have hui : ¬ (128 : Int) ≤ (u : Int) := by omega
        have hw8 : IntKind.u8.wrap (u : Int) = (u : Int) := wrap8_lo (by omega)
        have hm8 : (u : Int) % 256 = (u : Int) := by omega
        go_wp2_with (at_builtin; refine appE el_u8 rfl _ _ rfl w.heap.size _ dn.length (VY dn) rfl (World.ownsRow.alloc HO.out _) (some ⟨wr.heap.size, 0, none⟩) 1 1 (VY [u]) rfl (fun h => by cases h) rfl (sl_blk (heap_alloc_new wr _)) (VY_one _) (by omega) (by simp; omega) ?_; intro v' w1 hown hg _ _; obtain ⟨A7, c7, hv7, -, -, -, -, -, -⟩ := own_form hown; subst hv7; have H7 := Lib.hid hown; have HB7 := Lib.hid ((HB.out.alloc hsw (.cells #[.int .u8 (u : Int)] 5)).grown hg (by simp; omega) (fun k hk => (World.ownsRow.lt HO.out k hk).1)); clear hown hg)
        go_ret
        have e9 : num v = dn ++ [u] := by rw [Hn.out, Hnl.out (by omega)]
        exact ⟨_, rfl, by rw [e9, List.length_append, VY_append]; exact H7.out, HB7.out⟩
theorem num_len10 {v : Nat} (h : v < 4611686018427387904) : (num v).length ≤ 10 := num_len 9 v (by omega)
set_option maxHeartbeats 4000000 in
theorem bytes1_any (w : World) (A : Option Addr) (n cap : Nat) (p : List Nat) (hS : Sl w A (VY p)) (hl : p.length = n) (hnil : A = none → cap = 0) (hn : n ≤ 1099511627) : Calls Tryz.prog 90 #[.slice A n cap] w (OwnY w (byt p)) := by
  have HN := Lib.hid (num1_any w n (by omega))
  have HS := Lib.hid hS
  have Hl := Lib.hid hl
  have Hnil := Lib.hid hnil
  have hnl := num_len10 (v := n) (by omega)
  clear hS hl hnil
  go_enter Tryz.func90, Tryz.ntmps90
  go_wp2_with fail
  go_at_call 89
  refine HN.out.mono ?_
  rintro e w1 ⟨v1, rfl, hO1, hB1⟩
  obtain ⟨A1, c1, hv1, -, -, -, -, -, -⟩ := own_form hO1
  subst hv1
  have HO1 := Lib.hid hO1
  have HB1 := Lib.hid hB1
  have hs1 := hB1.size
  clear hO1 hB1 HN
  go_wp2_with (at_builtin; refine appE el_u8 rfl _ _ rfl w.heap.size _ (num n).length (VY (num n)) rfl HO1.out A n cap (VY p) rfl Hnil.out (by rw [VY_length, Hl.out, Nat.mul_one]) (HS.out.below HB1.out) (VY_one _) (by omega) hs1 ?_; intro v' w2 hown hg _ _; obtain ⟨A7, c7, hv7, -, -, -, -, -, -⟩ := own_form hown; subst hv7; have H7 := Lib.hid hown; have HB7 := Lib.hid (HB1.out.grown hg hs1 (fun k hk => (World.ownsRow.lt HO1.out k hk).1)); clear hown hg)
  go_ret
  exact ⟨_, rfl, by have := H7.out; unfold byt; rw [List.length_append, VY_append, Hl.out]; exact this, HB7.out⟩
set_option maxHeartbeats 4000000 in
theorem nums1_any (w : World) (A : Option Addr) (n cap : Nat) (vs : List Nat) (hS : Sl w A (VI (NI vs))) (hl : vs.length = n) (hn : n ≤ 10995116) (hv : ∀ v ∈ vs, v < 4611686018427387904) : Calls Tryz.prog 92 #[.slice A n cap] w (OwnY w (nums vs)) := by
  have HS := Lib.hid hS
  have Hl := Lib.hid hl
  have Hv := Lib.hid hv
  clear hS hl hv
  go_enter Tryz.func92, Tryz.ntmps92
  go_wp2_with fail
  go_loopw [3, 4] (fun b q wr => ∃ k : Nat, k ≤ n ∧ q = .int .i64 (k : Int) ∧ Hid (wr.ownsRow w.heap.size 5 1 b (nums (vs.take k)).length (VY (nums (vs.take k)))) ∧ Hid (Below w.heap.size w wr)) (fun _ q _ => n - (intOf q).toNat)
  case atStart => exact ⟨0, Nat.zero_le _, rfl, Lib.hid (World.ownsRow_nil _ _ _ _), Lib.hid (Below.refl _ _)⟩
  case round =>
    obtain ⟨k, hk, rfl, HO, HB⟩ := hrel
    obtain ⟨A1, c1, hv1, -, -, -, -, -, -⟩ := own_form HO.out
    subst hv1
    by_cases hkn : k < n
    · have hkv : k < vs.length := by rw [Hl.out]; exact hkn
      obtain ⟨bm, om, rfl, hc⟩ := (HS.out.below HB.out).lit (j := k) (by rw [VI_length, NI_length]; exact hkv)
      rw [VI_get _ k (by rw [NI_length]; exact hkv), NI_getD _ _ hkv] at hc
      have hvv := Hv.out (vs.getD k 0) (by rw [getDn hkv]; exact List.getElem_mem hkv)
      have Htk : Hid (nums (vs.take (k + 1)) = nums (vs.take k) ++ num (vs.getD k 0)) := Lib.hid (by rw [List.take_succ_eq_append_getElem hkv, nums_snoc, getDn hkv])
      have hnt := nums_len 9 (vs.take k) (fun v h => Nat.lt_of_lt_of_le (Hv.out v (List.mem_of_mem_take h)) (by decide))
      rw [List.length_take, Nat.min_eq_left (by omega)] at hnt
      generalize vs.getD k 0 = v at *
      have hnl := num_len10 hvv
      have HN := Lib.hid (num1_any wr v hvv)
      obtain ⟨L, hL⟩ : ∃ L, nums (vs.take k) = L := ⟨_, rfl⟩
      rw [hL] at HO Htk hnt
      have HL := Lib.hid hL
      rw [hL]
      have hsw := HB.out.size
      clear hL hkv
      go_wp2_with fail
      go_at_call 89
      refine HN.out.mono ?_
      rintro e w1 ⟨v1, rfl, hO1, hB1⟩
      obtain ⟨A5, c5, hv5, hS5, hc5, hn5, -, -, -⟩ := own_form hO1
      subst hv5
      have HS5 := Lib.hid hS5
      have Hn5 := Lib.hid hn5
      have HO2 := Lib.hid (own_below HO.out hB1)
      have HB2 := Lib.hid (below_step HB.out hB1)
      have hs2 := HB2.out.size
      obtain ⟨nl, hnl2⟩ : ∃ nl, (num v).length = nl := ⟨_, rfl⟩
      have Hnl2 := Lib.hid hnl2
      rw [hnl2] at hnl hc5 ⊢
      clear hO1 hB1 HN hS5 hn5 hnl2
      go_wp2_with (at_builtin; refine appE el_u8 rfl _ _ rfl w.heap.size _ L.length (VY L) rfl HO2.out A5 nl c5 (VY (num v)) rfl Hn5.out (by rw [VY_length, Hnl2.out, Nat.mul_one]) HS5.out (VY_one _) (by omega) hs2 ?_; intro v' w3 hown hg _ _; obtain ⟨A7, c7, hv7, -, -, -, -, -, -⟩ := own_form hown; subst hv7; have H7 := Lib.hid hown; have HB7 := Lib.hid (HB2.out.grown hg hs2 (fun k hk => (World.ownsRow.lt HO2.out k hk).1)); clear hown hg)
      go_roundw
      case rel => exact ⟨k + 1, by omega, by go_num, Lib.hid (by rw [Htk.out, List.length_append, VY_append, Hnl2.out]; exact H7.out), HB7⟩
      case measure => simp [intOf]; omega
    · obtain rfl : k = n := by omega
      have hO := HO.out
      rw [List.take_of_length_le (by rw [Hl.out]; exact Nat.le_refl _)] at hO
      rw [List.take_of_length_le (by rw [Hl.out]; exact Nat.le_refl _)]
      have HO9 := Lib.hid hO
      clear hO HO
      go_wp2_with fail
      go_ret
      exact ⟨_, rfl, HO9.out, HB.out⟩
end Go.Proofs.YtphccomhggnccaaGreat
/- haystackref9: a reference's segment in memory; Texts, Key; haystackref7.Long. -/
namespace Go.Proofs.YtphccomhggnccaaGreat
set_option maxRecDepth 100000
set_option linter.unusedVariables false
set_option linter.unusedSimpArgs false
set_option maxRecDepth 100000
open Go.RowKit Sg Fm
/-- a segment of the reference in memory -/
structure RefM (w : World) (base x : Nat) (es : List De) (gs : List Key) : Prop where
  ge : base ≤ x
  blk : ∃ (Ad Ag : Option Addr) (cd cg : Nat), w.heap[x]? = some (.cells #[.slice Ad es.length cd, .slice Ag gs.length cg] 63 (0, 0)) ∧
    DArg w Ad es.length cd es ∧ GArg w Ag gs.length cg gs ∧ AdOk w base Ad ∧ AdOk w base Ag ∧ ∀ e ∈ es, AdOk w base e.a
theorem TxtOk.keepB {w w' : World} {base : Nat} {e : De} (h : TxtOk w e) (ha : AdOk w base e.a) (hk : ∀ k, base ≤ k → k < w.heap.size → w'.heap[k]? = w.heap[k]?) : TxtOk w' e := ⟨h.len, h.le, h.nil, h.sl.keepB ha hk, h.lt⟩
theorem AdOk.keep {w w' : World} {base : Nat} {A : Option Addr} (h : AdOk w base A) (hs : w.heap.size ≤ w'.heap.size) : AdOk w' base A := ⟨h.sp, fun a e => ⟨(h.ge a e).1, Nat.lt_of_lt_of_le (h.ge a e).2 hs⟩⟩
theorem RefM.keep {w w' : World} {base x : Nat} {es : List De} {gs : List Key} (h : RefM w base x es gs) (hs : w.heap.size ≤ w'.heap.size) (hk : ∀ k, base ≤ k → k < w.heap.size → w'.heap[k]? = w.heap[k]?) : RefM w' base x es gs := by
  obtain ⟨Ad, Ag, cd, cg, h1, h2, h3, h4, h5, h6⟩ := h.blk
  refine ⟨h.ge, Ad, Ag, cd, cg, (hk x h.ge (blk_lt h1)).trans h1, ⟨h2.len, h2.le, h2.nil, h2.sl.keepB h4 hk, fun e he => (h2.txt e he).keepB (h6 e he) hk⟩, ⟨h3.len, h3.le, h3.nil, h3.sl.keepB h5 hk⟩, h4.keep hs, h5.keep hs, fun e he => (h6 e he).keep hs⟩
theorem RefM.below {w w' : World} {base x : Nat} {es : List De} {gs : List Key} (h : RefM w base x es gs) (hb : Below w.heap.size w w') : RefM w' base x es gs := h.keep hb.size fun k _ hk => hb.block k hk
theorem RefM.mono {w : World} {base base' x : Nat} {es : List De} {gs : List Key} (h : RefM w base x es gs) (hb : base' ≤ base) : RefM w base' x es gs := by
  obtain ⟨Ad, Ag, cd, cg, h1, h2, h3, h4, h5, h6⟩ := h.blk
  exact ⟨Nat.le_trans hb h.ge, Ad, Ag, cd, cg, h1, h2, h3, h4.mono hb, h5.mono hb, fun e he => (h6 e he).mono hb⟩
theorem key9_any (w : World) (k : Key) (hk : k.length ≤ 1099511627776) : Calls Tryz.prog 40 #[.string (ba k)] w fun e w' => e = .returned (.bool (decide (1 ≤ k.length ∧ k.length ≤ 64))) ∧ w = w' := by
  have hs : (ba k).size = k.length := by simp [ba, ByteArray.size]
  rcases Nat.eq_zero_or_pos k.length with h0 | h0
  · have e1 : decide (1 ≤ k.length ∧ k.length ≤ 64) = false := decide_eq_false (by omega)
    have j1 : ¬ (1 : Int) ≤ (k.length : Int) := by omega
    rw [e1]
    generalize k.length = n at *
    generalize ba k = s at *
    go_enter Tryz.func40, Tryz.ntmps40
    go_wp2_with fail
    go_ret
    exact ⟨rfl, rfl⟩
  · by_cases h1 : k.length ≤ 64
    · have e1 : decide (1 ≤ k.length ∧ k.length ≤ 64) = true := decide_eq_true (by omega)
      have j1 : (1 : Int) ≤ (k.length : Int) := by omega
      have j2 : (k.length : Int) ≤ 64 := by omega
      rw [e1]
      generalize k.length = n at *
      generalize ba k = s at *
      go_enter Tryz.func40, Tryz.ntmps40
      go_wp2_with fail
      go_ret
      exact ⟨rfl, rfl⟩
    · have e1 : decide (1 ≤ k.length ∧ k.length ≤ 64) = false := decide_eq_false (by omega)
      have j1 : (1 : Int) ≤ (k.length : Int) := by omega
      have j2 : ¬ (k.length : Int) ≤ 64 := by omega
      rw [e1]
      generalize k.length = n at *
      generalize ba k = s at *
      go_enter Tryz.func40, Tryz.ntmps40
      go_wp2_with fail
      go_ret
      exact ⟨rfl, rfl⟩
theorem garg_docs0 {w : World} {A : Option Addr} {n c : Nat} {es : List De} (h : DArg w A n c es) {i : Nat} (hi : i < n) : ∃ b off, A = some ⟨b, off, none⟩ ∧ w.cell? ⟨b, off + i * 2, none⟩ = some (.string (ba (es[i]?.getD default).k)) ∧ w.cell? ⟨b, off + i * 2 + 1, none⟩ = some (.slice (es[i]?.getD default).a (es[i]?.getD default).n (es[i]?.getD default).c) := by
  have hi' : i < es.length := by rw [h.len]; exact hi
  obtain ⟨b, off, rfl, hc⟩ := h.sl.lit (j := i * 2) (by rw [VD_length]; omega)
  rw [VD_get0 es i hi'] at hc
  have h3 := h.sl.cell _ rfl (i * 2 + 1) _ (VD_get1 es i hi')
  rw [show (⟨b, off, none⟩ : Addr).add (i * 2 + 1) = ⟨b, off + i * 2 + 1, none⟩ by unfold Addr.add; split <;> simp_all; omega] at h3
  exact ⟨b, off, rfl, hc, h3⟩
set_option maxHeartbeats 4000000 in
theorem texts9_any {w : World} {base x : Nat} {es : List De} {gs : List Key} (h : RefM w base x es gs) (hn : es.length ≤ 1000000) :
    Calls Tryz.prog 19 #[.pointer (some ⟨x, 0, none⟩)] w fun e w' => ∃ A c, e = .returned (.slice A es.length c) ∧ Sl w' A (VT es) ∧ es.length ≤ c ∧ (A = none → c = 0) ∧ Below w.heap.size w w' := by
  obtain ⟨Ad, Ag, cd, cg, h1, h2, h3, h4, h5, h6⟩ := h.blk
  obtain ⟨n, hnn⟩ : ∃ n, es.length = n := ⟨_, rfl⟩
  have Hn := Lib.hid hnn
  rw [hnn] at h1 h2 hn ⊢
  have H1 := Lib.hid h1
  have H2 := Lib.hid h2
  clear h h1 h2 h3 h4 h5 h6 hnn
  go_enter Tryz.func19, Tryz.ntmps19
  go_wp2_with fail
  go_loopw [3, 4] (fun t q wr => ∃ j : Nat, j ≤ n ∧ q = .int .i64 (j : Int) ∧ Hid (wr.ownsRow w.heap.size 34 1 t j (VT (es.take j))) ∧ Hid (Below w.heap.size w wr)) (fun _ q _ => n - (intOf q).toNat)
  case atStart => exact ⟨0, Nat.zero_le _, rfl, Lib.hid (World.ownsRow_nil _ _ _ _), Lib.hid (Below.refl _ _)⟩
  case round =>
    obtain ⟨j, hj, rfl, HO, HB⟩ := hrel
    obtain ⟨At, ct, hvt, -, -, -, -, -, -⟩ := own_form HO.out
    subst hvt
    have hx0 : wr.cell? ⟨x, 0, none⟩ = some (.slice Ad n cd) := cell_blk ((HB.out.block x (blk_lt H1.out)).trans H1.out) 0
    by_cases hjn : j < n
    · obtain ⟨bd, od, rfl, -, hc1⟩ := garg_docs0 (H2.out.below HB.out) hjn
      have Htk : Hid (VT (es.take (j + 1)) = VT (es.take j) ++ [.slice (es[j]?.getD default).a (es[j]?.getD default).n (es[j]?.getD default).c]) := Lib.hid (by
        have hje : j < es.length := by rw [Hn.out]; exact hjn
        unfold VT; rw [List.take_succ_eq_append_getElem hje, List.map_append]; simp [hje])
      generalize es[j]?.getD default = ej at *
      have hsw := HB.out.size
      go_wp2_with (at_builtin; refine appE el_row rfl _ _ rfl w.heap.size _ j (VT (es.take j)) rfl (World.ownsRow.alloc HO.out _) (some ⟨wr.heap.size, 0, none⟩) 1 1 [.slice ej.a ej.n ej.c] rfl (fun h => by cases h) rfl (sl_blk (heap_alloc_new wr _)) (fun u hu => by simp at hu; subst hu; rfl) (by omega) (by simp; omega) ?_; intro v' w1 hown hg _ _; obtain ⟨A7, c7, hv7, -, -, -, -, -, -⟩ := own_form hown; subst hv7; have H7 := Lib.hid hown; have HB7 := Lib.hid ((HB.out.alloc hsw (.cells #[.slice ej.a ej.n ej.c] 34)).grown hg (by simp; omega) (fun k hk => (World.ownsRow.lt HO.out k hk).1)); clear hown hg)
      go_roundw
      case rel => exact ⟨j + 1, by omega, by go_num, Lib.hid (by rw [Htk.out]; exact H7.out), HB7⟩
      case measure => simp [intOf]; omega
    · obtain rfl : j = n := by omega
      have hO := HO.out
      rw [List.take_of_length_le (by rw [Hn.out]; exact Nat.le_refl _)] at hO
      obtain ⟨A9, c9, hv9, hS9, hn9, hnil9, -, -, -⟩ := own_form hO
      injection hv9 with e1 e2 e3
      subst e1 e3
      have HS9 := Lib.hid hS9
      have HN9 := Lib.hid hn9
      have Hnil9 := Lib.hid hnil9
      clear hO HO hS9 hn9 hnil9 e2
      go_wp2_with fail
      go_ret
      exact ⟨At, ct, rfl, HS9.out, HN9.out, Hnil9.out, HB.out⟩
end Go.Proofs.YtphccomhggnccaaGreat
/- haystackref7.Long; haystackref9: body. -/
namespace Go.Proofs.YtphccomhggnccaaGreat
set_option maxRecDepth 100000
set_option linter.unusedVariables false
set_option linter.unusedSimpArgs false
set_option maxRecDepth 100000
open Go.RowKit Sg Fm
set_option maxHeartbeats 4000000 in
theorem long7_any (w : World) (A : Option Addr) (n c : Nat) (ts : List (List Nat)) (hA : RArg w A n c ts) (hm : (rowT ts).length ≤ 65536) :
    Calls Tryz.prog 41 #[.slice A n c] w fun e w' => e = .returned (.bool false) ∧ w = w' := by
  have HA := Lib.hid hA
  have hl := hA.len
  have Hl := Lib.hid hl
  rw [rowT_length] at hm
  have hnb : n ≤ 65536 := by have := len_le_body ts; omega
  have Hm := Lib.hid hm
  clear hA hl hm
  go_enter Tryz.func41, Tryz.ntmps41
  go_wp2_with fail
  go_loopw [3, 4] (fun t q wr => ∃ j : Nat, j ≤ n ∧ q = .int .i64 (j : Int) ∧ t = .int .i64 (((body (ts.take j)).length + 1 : Nat) : Int) ∧ w = wr) (fun _ q _ => n - (intOf q).toNat)
  case atStart => exact ⟨0, Nat.zero_le _, rfl, rfl, rfl⟩
  case round =>
    obtain ⟨j, hj, rfl, rfl, rfl⟩ := hrel
    have hbt := body_take_le ts j
    have hmm := Hm.out
    by_cases hjn : j < n
    · obtain ⟨a, Ad, L, C, rfl, hc, hL, -, -, -⟩ := HA.out.row j hjn
      have hsu := congrArg List.length (body_take_succ ts j (by rw [Hl.out]; exact hjn))
      rw [List.length_append, txt_length, hL] at hsu
      have hbt2 := body_take_le ts (j + 1)
      obtain ⟨B, hB⟩ : ∃ B, (body (ts.take j)).length + 1 = B := ⟨_, rfl⟩
      have HB : Hid ((body (ts.take (j + 1))).length + 1 = B + 1 + L) := Lib.hid (by omega)
      have hB1 : (B : Int) ≤ 65536 := by omega
      have hB2 : (B : Int) + 1 + (L : Int) ≤ 65536 := by omega
      have hB3 : decide ((B : Int) ≤ 65536) = true := decide_eq_true hB1
      have hB4 : B ≤ 65536 := by omega
      rw [hB]
      clear hsu hbt hbt2 hB hmm
      go_wp2_with fail
      go_roundw
      case rel => exact ⟨j + 1, by omega, by go_num, by rw [HB.out]; go_num, trivial⟩
      case measure => simp [intOf]; omega
    · obtain rfl : j = n := by omega
      obtain ⟨B, hB⟩ : ∃ B, (body (ts.take j)).length + 1 = B := ⟨_, rfl⟩
      have hB1 : ¬ (65536 : Int) < (B : Int) := by omega
      rw [hB]
      clear hbt hB hmm
      go_wp2_with fail
      go_ret
      exact ⟨rfl, rfl⟩
theorem own_blkY {w : World} {base g : Nat} {p : List Nat} (hb : w.heap[g]? = some (.cells (VY p).toArray 5 (0, 0))) (hg : base ≤ g) (hp : p.length ≤ 1099511627776) : w.ownsRow base 5 1 (.slice (some ⟨g, 0, none⟩) p.length p.length) p.length (VY p) :=
  ⟨by rw [VY_length, Nat.mul_one], .inr ⟨g, p.length, (VY p).toArray, rfl, hg, hb, Nat.le_refl _, by unfold maxLen; omega, by simp [VY_length], by simp [← VY_length p]⟩⟩
theorem keysB_le (l : List Key) (j : Nat) (h : (keysB l).length ≤ 20000) : (keysB (l.take j)).length ≤ 20000 := Nat.le_trans (keysB_take_le l j) h
theorem keysB_step {l : List Key} {j : Nat} (h : j < l.length) : keysB (l.take (j + 1)) = keysB (l.take j) ++ byt (nk (l.getD j [])) := by
  rw [List.take_succ_eq_append_getElem h, keysB_snoc, getDk h]
theorem byt_len (p : List Nat) (h : p.length < 4611686018427387904) : (byt p).length ≤ p.length + 10 := by
  unfold byt
  rw [List.length_append]
  have := num_len10 h
  omega
set_option maxHeartbeats 8000000 in
theorem body9_any {w : World} {base x : Nat} {es : List De} {gs : List Key} (h : RefM w base x es gs) (hL : Lite (es.map De.dc) gs) :
    Calls Tryz.prog 42 #[.pointer (some ⟨x, 0, none⟩)] w fun e w' => ∃ sa, IsSA (rowT (textsD (es.map De.dc))) sa ∧ OwnY w (bodyS (keysD (es.map De.dc)) gs (trn (rowT (textsD (es.map De.dc))) sa)) e w' := by
  have HT := Lib.hid (fun (W : World) (k : Below w.heap.size w W) => texts9_any (h.below k) (by have h1 := hL.w; have h2 := wtD_len (es.map De.dc); rw [List.length_map] at h2; omega))
  obtain ⟨Ad, Ag, cd, cg, h1, h2, h3, h4, h5, h6⟩ := h.blk
  have hw := hL.w
  have hkb := keysB_wt (keysD (es.map De.dc)) (by have := wtG_keysD (es.map De.dc); omega)
  have hgb := keysB_wt gs (by omega)
  have hkw := wtG_keysD (es.map De.dc)
  have hne := wtD_len (es.map De.dc)
  have hng := wtG_len gs
  rw [List.length_map] at hne
  have hfit := hL.fits.t
  obtain ⟨n, hnn⟩ : ∃ n, es.length = n := ⟨_, rfl⟩
  obtain ⟨g, hgg⟩ : ∃ g, gs.length = g := ⟨_, rfl⟩
  have Hkeys := Lib.hid (show keysD (es.map De.dc) = es.map (·.k) by simp [keysD, De.dc])
  have Htx := Lib.hid (show es.map (·.t) = textsD (es.map De.dc) by simp [textsD, De.dc])
  have Hkk : Hid ((keysD (es.map De.dc)).length = n) := Lib.hid (by rw [keysD_length, List.length_map, hnn])
  have Hkm : Hid (∀ k ∈ keysD (es.map De.dc), k.length ≤ 20000) := Lib.hid (fun k hk => by have := wtG_mem hk; omega)
  have Hgm : Hid (∀ k ∈ gs, k.length ≤ 20000) := Lib.hid (fun k hk => by have := wtG_mem hk; omega)
  rw [hnn] at h1 h2 hne
  rw [hgg] at h1 h3 hng
  have Hn := Lib.hid hnn
  have Hg := Lib.hid hgg
  have H1 := Lib.hid h1
  have H2 := Lib.hid h2
  have H3 := Lib.hid h3
  have Hfit := Lib.hid hfit
  have Hlen : Hid (∀ e ∈ es, e.t.length ≤ 4096) := Lib.hid (fun e he => hL.t _ (List.mem_map_of_mem (f := De.dc) he))
  have Htv : Hid (∀ sa, IsSA (rowT (textsD (es.map De.dc))) sa → ∀ v ∈ trn (rowT (textsD (es.map De.dc))) sa, v < 512) := Lib.hid (fun sa hs v hv => rowT_lt (textsD (es.map De.dc)) (fun t ht => by obtain ⟨d, hd, rfl⟩ := List.mem_map.1 ht; obtain ⟨e, he, rfl⟩ := List.mem_map.1 hd; exact (h2.txt e he).lt) v ((trn_perm (rowT_closed _) hs).mem_iff.1 hv))
  have hkl : (keysB (keysD (es.map De.dc))).length ≤ 20000 := by omega
  have hgl : (keysB gs).length ≤ 20000 := by omega
  have hn5 : n ≤ 4000 := by omega
  have hg5 : g ≤ 4000 := by omega
  have hx0 : w.cell? ⟨x, 0, none⟩ = some (.slice Ad n cd) := cell_blk h1 0
  have HN := Lib.hid (num1_any (w.alloc (.cells #[.int .u8 83, .int .u8 1] 5)) n (by omega))
  have hC1 := below_new w (.cells #[.int .u8 83, .int .u8 1] 5)
  have hO0 : (w.alloc (.cells #[.int .u8 83, .int .u8 1] 5)).ownsRow w.heap.size 5 1 (.slice (some ⟨w.heap.size, 0, none⟩) 2 2) 2 (VY [83, 1]) := own_blkY (p := [83, 1]) (heap_alloc_new w _) (Nat.le_refl _) (by decide)
  have hx0' := (World.cell?_of_block (hC1.block x (blk_lt h1))).trans hx0
  have HO0 := Lib.hid hO0
  have HC1 := Lib.hid hC1
  have Hkl := Lib.hid hkl
  have Hgl := Lib.hid hgl
  clear h h1 h2 h3 h4 h5 h6 hL hw hkb hgb hkw hne hng hnn hgg hfit hO0 hC1 hkl hgl hx0
  go_enter Tryz.func42, Tryz.ntmps42
  go_wp2_with fail
  go_at_call 89
  refine HN.out.mono ?_
  rintro e w1 ⟨v1, rfl, hO1, hB1⟩
  obtain ⟨A1, c1, hv1, hS1, -, hn1, -, -, -⟩ := own_form hO1
  subst hv1
  have hnl := num_len10 (v := n) (by omega)
  have HO1 := Lib.hid (own_below HO0.out hB1)
  have HS1 := Lib.hid hS1
  have Hn1 := Lib.hid hn1
  have HB1 := Lib.hid (below_next HC1.out hB1)
  have hs1 := HB1.out.size
  clear hO1 hB1 hS1 hn1 HN HO0 HC1 hx0'
  go_wp2_with (at_builtin; refine appE el_u8 rfl _ _ rfl w.heap.size _ 2 (VY [83, 1]) rfl HO1.out A1 (num n).length c1 (VY (num n)) rfl Hn1.out (by rw [VY_length, Nat.mul_one]) HS1.out (VY_one _) (by omega) hs1 ?_; intro v' w2 hown hg _ _; obtain ⟨A7, c7, hv7, -, -, -, -, -, -⟩ := own_form hown; subst hv7; have H7 := Lib.hid hown; have HB7 := Lib.hid (HB1.out.grown hg hs1 (fun k hk => (World.ownsRow.lt HO1.out k hk).1)); clear hown hg)
  have HO2 : Hid (w2.ownsRow w.heap.size 5 1 (.slice A7 (2 + (num n).length) c7) ([83, 1] ++ num n).length (VY ([83, 1] ++ num n))) := Lib.hid (by have := H7.out; rw [VY_append, List.length_append]; exact this)
  have hal1 : ([83, 1] ++ num n).length ≤ 12 := by rw [List.length_append]; simp; omega
  obtain ⟨a1, ha1⟩ : ∃ a, [83, 1] ++ num n = a := ⟨_, rfl⟩
  have Ha1 := Lib.hid ha1
  rw [ha1] at HO2 hal1
  obtain ⟨KS, hKS⟩ : ∃ K, keysD (es.map De.dc) = K := ⟨_, rfl⟩
  have HKS := Lib.hid hKS
  rw [hKS] at Hkeys Hkk Hkm Hkl
  clear H7 ha1 HO1 hKS HB1
  have HB2 := HB7
  clear HB7
  go_loopw [3, 4] (fun b q wr => ∃ k : Nat, k ≤ n ∧ q = .int .i64 (k : Int) ∧ Hid (wr.ownsRow w.heap.size 5 1 b (a1 ++ keysB (KS.take k)).length (VY (a1 ++ keysB (KS.take k)))) ∧ Hid (Below w.heap.size w wr)) (fun _ q _ => n - (intOf q).toNat)
  case atStart => exact ⟨0, Nat.zero_le _, rfl, Lib.hid (by simpa [keysB] using HO2.out), HB2⟩
  case round =>
    clear HO2 HB2
    obtain ⟨k, hk, rfl, HO, HB⟩ := hrel
    obtain ⟨A3, c3, hv3, -, -, -, -, -, -⟩ := own_form HO.out
    subst hv3
    have hx0 : wr.cell? ⟨x, 0, none⟩ = some (.slice Ad n cd) := cell_blk ((HB.out.block x (blk_lt H1.out)).trans H1.out) 0
    have hx1 : wr.cell? ⟨x, 1, none⟩ = some (.slice Ag g cg) := cell_blk ((HB.out.block x (blk_lt H1.out)).trans H1.out) 1
    by_cases hkn : k < n
    · obtain ⟨bd, od, rfl, hkc, -⟩ := garg_docs0 (H2.out.below HB.out) hkn
      have hkk : (es[k]?.getD default).k = KS.getD k [] := by rw [Hkeys.out]; simp [List.getD, show k < es.length by rw [Hn.out]; exact hkn]
      rw [hkk] at hkc
      clear hkk
      have hkeyl := Hkm.out _ (getD_memK (l := KS) (i := k) (by rw [Hkk.out]; exact hkn))
      have Hks := Lib.hid (keysB_step (l := KS) (j := k) (by rw [Hkk.out]; exact hkn))
      have hkt := keysB_le KS k Hkl.out
      obtain ⟨key, hke⟩ : ∃ key, KS.getD k [] = key := ⟨_, rfl⟩
      rw [hke] at hkc hkeyl Hks
      have hsw := HB.out.size
      obtain ⟨cc, W, hrun, hsl, hbl, hsz, hcc⟩ := conv_key wr key (by omega)
      have HBy := Lib.hid (bytes1_any W (some ⟨wr.heap.size, 0, none⟩) key.length cc (nk key) hsl (nk_length key) (fun e => by cases e) (by omega))
      have hbyl := byt_len (nk key) (by rw [nk_length]; omega)
      rw [nk_length] at hbyl
      have HOW := Lib.hid (own_below HO.out hbl)
      have HBW := Lib.hid (below_step HB.out hbl)
      have hLb : (a1 ++ keysB (KS.take k)).length ≤ 100000 := by rw [List.length_append]; omega
      obtain ⟨L, hL⟩ : ∃ L, a1 ++ keysB (KS.take k) = L := ⟨_, rfl⟩
      have HL := Lib.hid hL
      rw [hL] at HOW hLb ⊢
      clear hsl hbl hcc hke hkt hL HO
      go_wp2_with fail
      go_at_call 90
      refine HBy.out.mono ?_
      rintro e w5 ⟨v5, rfl, hO5, hB5⟩
      obtain ⟨A5, c5, hv5, hS5, -, hn5, -, -, -⟩ := own_form hO5
      subst hv5
      have HS5 := Lib.hid hS5
      have Hn5 := Lib.hid hn5
      have HO5 := Lib.hid (own_below HOW.out hB5)
      have HB5 := Lib.hid (below_step HBW.out hB5)
      have hs5 := HB5.out.size
      obtain ⟨bl, hbl2⟩ : ∃ bl, (byt (nk key)).length = bl := ⟨_, rfl⟩
      have Hbl2 := Lib.hid hbl2
      rw [hbl2] at hbyl ⊢
      clear hO5 hB5 HBy hS5 hn5 hbl2 HOW HBW hrun hsz
      go_wp2_with (at_builtin; refine appE el_u8 rfl _ _ rfl w.heap.size _ L.length (VY L) rfl HO5.out A5 bl c5 (VY (byt (nk key))) rfl Hn5.out (by rw [VY_length, Hbl2.out, Nat.mul_one]) HS5.out (VY_one _) (by omega) hs5 ?_; intro v' w7 hown hg _ _; obtain ⟨A7', c7', hv7, -, -, -, -, -, -⟩ := own_form hown; subst hv7; have H7 := Lib.hid hown; have HB7' := Lib.hid (HB5.out.grown hg hs5 (fun k hk => (World.ownsRow.lt HO5.out k hk).1)); clear hown hg)
      go_roundw
      case rel => exact ⟨k + 1, by omega, by go_num, Lib.hid (by rw [Hks.out, ← List.append_assoc, HL.out, List.length_append, VY_append, Hbl2.out]; exact H7.out), HB7'⟩
      case measure => simp [intOf]; omega
    · obtain rfl : k = n := by omega
      have hO := HO.out
      rw [List.take_of_length_le (by rw [Hkk.out]; exact Nat.le_refl _)] at hO ⊢
      have hgb0 := num_len10 (v := g) (by omega)
      have HN := Lib.hid (num1_any wr g (by omega))
      have hab : (a1 ++ keysB KS).length ≤ 30000 := by have := Hkl.out; rw [List.length_append]; omega
      obtain ⟨a2, ha2⟩ : ∃ a, a1 ++ keysB KS = a := ⟨_, rfl⟩
      have Ha2 := Lib.hid ha2
      rw [ha2] at hO hab ⊢
      have HOa := Lib.hid hO
      clear hO HO ha2
      go_wp2_with fail
      go_at_call 89
      refine HN.out.mono ?_
      rintro e w5 ⟨v5, rfl, hO5, hB5⟩
      obtain ⟨A5, c5, hv5, hS5, -, hn5, -, -, -⟩ := own_form hO5
      subst hv5
      have HS5 := Lib.hid hS5
      have Hn5 := Lib.hid hn5
      have HO5 := Lib.hid (own_below HOa.out hB5)
      have HB5 := Lib.hid (below_step HB.out hB5)
      have hs5 := HB5.out.size
      clear hO5 hB5 hS5 hn5 HN HOa hx0 hx1 HB
      go_wp2_with (at_builtin; refine appE el_u8 rfl _ _ rfl w.heap.size _ a2.length (VY a2) rfl HO5.out A5 (num g).length c5 (VY (num g)) rfl Hn5.out (by rw [VY_length, Nat.mul_one]) HS5.out (VY_one _) (by omega) hs5 ?_; intro v' w7 hown hg _ _; obtain ⟨A7', c7', hv7, -, -, -, -, -, -⟩ := own_form hown; subst hv7; have H7 := Lib.hid hown; have HB7' := Lib.hid (HB5.out.grown hg hs5 (fun k hk => (World.ownsRow.lt HO5.out k hk).1)); clear hown hg)
      have HO8 : Hid (w7.ownsRow w.heap.size 5 1 (.slice A7' (a2.length + (num g).length) c7') (a2 ++ num g).length (VY (a2 ++ num g))) := Lib.hid (by have := H7.out; rw [VY_append, List.length_append]; exact this)
      have hal3 : (a2 ++ num g).length ≤ 30010 := by rw [List.length_append]; omega
      obtain ⟨a3, ha3⟩ : ∃ a, a2 ++ num g = a := ⟨_, rfl⟩
      have Ha3 := Lib.hid ha3
      rw [ha3] at HO8 hal3
      have HB8 := HB7'
      clear H7 ha3 HO5 HB5 HB7'
      go_loopw [3, 5] (fun b q wr => ∃ k : Nat, k ≤ g ∧ q = .int .i64 (k : Int) ∧ Hid (wr.ownsRow w.heap.size 5 1 b (a3 ++ keysB (gs.take k)).length (VY (a3 ++ keysB (gs.take k)))) ∧ Hid (Below w.heap.size w wr)) (fun _ q _ => g - (intOf q).toNat)
      case atStart => exact ⟨0, Nat.zero_le _, rfl, Lib.hid (by simpa [keysB] using HO8.out), HB8⟩
      case round =>
        clear HO8 HB8
        obtain ⟨k, hk, rfl, HO, HB⟩ := hrel
        obtain ⟨A3, c3, hv3, -, -, -, -, -, -⟩ := own_form HO.out
        subst hv3
        have hx0 : wr.cell? ⟨x, 0, none⟩ = some (.slice Ad _ cd) := cell_blk ((HB.out.block x (blk_lt H1.out)).trans H1.out) 0
        have hx1 : wr.cell? ⟨x, 1, none⟩ = some (.slice Ag g cg) := cell_blk ((HB.out.block x (blk_lt H1.out)).trans H1.out) 1
        by_cases hkn : k < g
        · obtain ⟨bg, og, hAg⟩ := garg_lit H3.out (by omega)
          subst hAg
          have hkc : wr.cell? ⟨bg, og + k, none⟩ = some (.string (ba (gs.getD k []))) := garg_cell (H3.out.below HB.out) hkn
          have hkeyl := Hgm.out _ (getD_memK (l := gs) (i := k) (by rw [Hg.out]; exact hkn))
          have Hks := Lib.hid (keysB_step (l := gs) (j := k) (by rw [Hg.out]; exact hkn))
          have hkt := keysB_le gs k Hgl.out
          obtain ⟨key, hke⟩ : ∃ key, gs.getD k [] = key := ⟨_, rfl⟩
          rw [hke] at hkc hkeyl Hks
          have hsw := HB.out.size
          obtain ⟨cc, W, hrun, hsl, hbl, hsz, hcc⟩ := conv_key wr key (by omega)
          have HBy := Lib.hid (bytes1_any W (some ⟨wr.heap.size, 0, none⟩) key.length cc (nk key) hsl (nk_length key) (fun e => by cases e) (by omega))
          have hbyl := byt_len (nk key) (by rw [nk_length]; omega)
          rw [nk_length] at hbyl
          have HOW := Lib.hid (own_below HO.out hbl)
          have HBW := Lib.hid (below_step HB.out hbl)
          have hLb : (a3 ++ keysB (gs.take k)).length ≤ 100000 := by rw [List.length_append]; omega
          obtain ⟨L, hL⟩ : ∃ L, a3 ++ keysB (gs.take k) = L := ⟨_, rfl⟩
          have HL := Lib.hid hL
          rw [hL] at HOW hLb ⊢
          clear hsl hbl hcc hke hkt hL HO
          go_wp2_with fail
          go_at_call 90
          refine HBy.out.mono ?_
          rintro e w5 ⟨v5, rfl, hO5, hB5⟩
          obtain ⟨A5, c5, hv5, hS5, -, hn5, -, -, -⟩ := own_form hO5
          subst hv5
          have HS5 := Lib.hid hS5
          have Hn5 := Lib.hid hn5
          have HO5 := Lib.hid (own_below HOW.out hB5)
          have HB5 := Lib.hid (below_step HBW.out hB5)
          have hs5 := HB5.out.size
          obtain ⟨bl, hbl2⟩ : ∃ bl, (byt (nk key)).length = bl := ⟨_, rfl⟩
          have Hbl2 := Lib.hid hbl2
          rw [hbl2] at hbyl ⊢
          clear hO5 hB5 HBy hS5 hn5 hbl2 HOW HBW hrun hsz
          go_wp2_with (at_builtin; refine appE el_u8 rfl _ _ rfl w.heap.size _ L.length (VY L) rfl HO5.out A5 bl c5 (VY (byt (nk key))) rfl Hn5.out (by rw [VY_length, Hbl2.out, Nat.mul_one]) HS5.out (VY_one _) (by omega) hs5 ?_; intro v' w7 hown hg _ _; obtain ⟨A7', c7', hv7, -, -, -, -, -, -⟩ := own_form hown; subst hv7; have H7 := Lib.hid hown; have HB7' := Lib.hid (HB5.out.grown hg hs5 (fun k hk => (World.ownsRow.lt HO5.out k hk).1)); clear hown hg)
          go_roundw
          case rel => exact ⟨k + 1, by omega, by go_num, Lib.hid (by rw [Hks.out, ← List.append_assoc, HL.out, List.length_append, VY_append, Hbl2.out]; exact H7.out), HB7'⟩
          case measure => simp [intOf]; omega
        · obtain rfl : k = g := by omega
          have hO := HO.out
          rw [List.take_of_length_le (by rw [Hg.out]; exact Nat.le_refl _)] at hO ⊢
          have hab4 : (a3 ++ keysB gs).length ≤ 60000 := by have := Hgl.out; rw [List.length_append]; omega
          obtain ⟨a4, ha4⟩ : ∃ a, a3 ++ keysB gs = a := ⟨_, rfl⟩
          have Ha4 := Lib.hid ha4
          rw [ha4] at hO hab4 ⊢
          have HOa := Lib.hid hO
          have HTx := Lib.hid (HT.out wr HB.out)
          rw [Hn.out] at HTx
          clear hO HO ha4
          go_wp2_with fail
          go_at_call 19
          refine HTx.out.mono ?_
          rintro e w9 ⟨A9, c9, rfl, hS9, hn9, hnil9, hB9⟩
          have hB9' := below_step HB.out hB9
          have hRA : RArg w9 A9 _ c9 (es.map (·.t)) := rarg_of_row hS9 Hn.out (by omega) (fun e he => (H2.out.txt e he).below hB9') (fun e he => by have h1 := (H2.out.txt e he).len; have h2 := Hlen.out e he; omega)
          rw [Htx.out] at hRA
          have HTu := Lib.hid (turned7F_any w9 A9 _ c9 _ hRA Hfit.out)
          have HO9 := Lib.hid (own_below HOa.out hB9)
          have HB9 := Lib.hid hB9'
          clear hS9 hn9 hnil9 hB9 hB9' hRA HTx HOa HB
          obtain ⟨rl, hrl⟩ : ∃ r, (rowT (textsD (es.map De.dc))).length = r := ⟨_, rfl⟩
          have Hrl := Lib.hid hrl
          have hrl2 := Hfit.out
          rw [hrl] at hrl2 HTu
          clear hrl
          go_wp2_with fail
          go_at_call 91
          refine HTu.out.mono ?_
          rintro e wa ⟨Ba, ca, sa, rfl, hIs, hSa, hFa, hBa⟩
          have Hob := Lib.hid (World.ownsRow.lt HO9.out)
          have HFa := Lib.hid hFa
          have hHa := below_step HB9.out hBa
          have HOb := Lib.hid (own_below HO9.out hBa)
          have HIs := Lib.hid hIs
          have HSa := Lib.hid hSa
          have HBa := Lib.hid hHa
          have htl : (trn (rowT (textsD (es.map De.dc))) sa).length = rl := by rw [trn_length hIs, Hrl.out]
          have htv : ∀ v ∈ trn (rowT (textsD (es.map De.dc))) sa, v < 512 := Htv.out sa hIs
          obtain ⟨tt, htt⟩ : ∃ t, trn (rowT (textsD (es.map De.dc))) sa = t := ⟨_, rfl⟩
          have Htt := Lib.hid htt
          rw [htt] at HSa htl htv
          have Htl := Lib.hid htl
          have Htv2 := Lib.hid htv
          have HN := Lib.hid (num1_any wa rl (by omega))
          have hrn := num_len10 (v := rl) (by omega)
          clear hIs hSa hBa hHa hFa HTu htt htl htv HO9 HB9
          go_wp2_with fail
          go_at_call 89
          refine HN.out.mono ?_
          rintro e wb ⟨v5, rfl, hO5, hB5⟩
          obtain ⟨A5, c5, hv5, hS5, -, hn5, -, -, -⟩ := own_form hO5
          subst hv5
          have HS5 := Lib.hid hS5
          have Hn5 := Lib.hid hn5
          have HO5 := Lib.hid (own_below HOb.out hB5)
          have HB5 := Lib.hid (below_step HBa.out hB5)
          have HSb := Lib.hid (HSa.out.below hB5)
          have hs5 := HB5.out.size
          clear hO5 hB5 hS5 hn5 HN HOb HBa HSa
          go_wp2_with (at_builtin; refine appE el_u8 rfl _ _ rfl w.heap.size _ a4.length (VY a4) rfl HO5.out A5 (num rl).length c5 (VY (num rl)) rfl Hn5.out (by rw [VY_length, Nat.mul_one]) HS5.out (VY_one _) (by omega) hs5 ?_; intro v' wc hown hg hnn0 hat0; obtain ⟨A7', c7', hv7, -, -, -, -, -, -⟩ := own_form hown; subst hv7; have H7 := Lib.hid hown; have HG7 := Lib.hid hg; have HB7' := Lib.hid (HB5.out.grown hg hs5 (fun k hk => (World.ownsRow.lt HO5.out k hk).1)); clear hown hg hnn0 hat0)
          have HSc := Lib.hid (HSb.out.grown HG7.out (fun a ha _ e => by have h1 := HFa.out a ha; have h2 := (Hob.out _ e.symm).2; omega))
          have HOc : Hid (wc.ownsRow w.heap.size 5 1 (.slice A7' (a4.length + (num rl).length) c7') (a4 ++ num rl).length (VY (a4 ++ num rl))) := Lib.hid (by have := H7.out; rw [VY_append, List.length_append]; exact this)
          have hal5 : (a4 ++ num rl).length ≤ 60010 := by rw [List.length_append]; omega
          obtain ⟨a5, ha5⟩ : ∃ a, a4 ++ num rl = a := ⟨_, rfl⟩
          have Ha5 := Lib.hid ha5
          rw [ha5] at HOc hal5
          have HNs := Lib.hid (nums1_any wc Ba rl ca tt HSc.out Htl.out (by omega) (fun v hv => by have := Htv2.out v hv; omega))
          have hnsl := nums_len 1 tt (fun v hv => by have := Htv2.out v hv; omega)
          rw [Htl.out] at hnsl
          clear H7 ha5 HO5 HB5 HSb HG7 Hob
          go_wp2_with fail
          go_at_call 92
          refine HNs.out.mono ?_
          rintro e wd ⟨v6, rfl, hO6, hB6⟩
          obtain ⟨A6, c6, hv6, hS6, -, hn6, -, -, -⟩ := own_form hO6
          subst hv6
          have HS6 := Lib.hid hS6
          have Hn6 := Lib.hid hn6
          have HO6 := Lib.hid (own_below HOc.out hB6)
          have HB6 := Lib.hid (below_step HB7'.out hB6)
          have hs6 := HB6.out.size
          obtain ⟨nl, hnl6⟩ : ∃ n, (nums tt).length = n := ⟨_, rfl⟩
          have Hnl6 := Lib.hid hnl6
          rw [hnl6] at hnsl ⊢
          clear hO6 hB6 hS6 hn6 HNs HOc hnl6
          go_wp2_with (at_builtin; refine appE el_u8 rfl _ _ rfl w.heap.size _ a5.length (VY a5) rfl HO6.out A6 nl c6 (VY (nums tt)) rfl Hn6.out (by rw [VY_length, Hnl6.out, Nat.mul_one]) HS6.out (VY_one _) (by omega) hs6 ?_; intro v' we hown hg hnn0 hat0; obtain ⟨A8', c8', hv8, -, -, -, -, -, -⟩ := own_form hown; subst hv8; have H8 := Lib.hid hown; have HB8' := Lib.hid (HB6.out.grown hg hs6 (fun k hk => (World.ownsRow.lt HO6.out k hk).1)); clear hown hg hnn0 hat0)
          go_ret
          refine ⟨sa, HIs.out, _, rfl, ?_, HB8'.out⟩
          have e9 : bodyS (keysD (es.map De.dc)) gs (trn (rowT (textsD (es.map De.dc))) sa) = a5 ++ nums tt := by
            unfold bodyS
            rw [HKS.out, Htt.out, Htl.out, Hkk.out, Hg.out, ← Ha5.out, ← Ha4.out, ← Ha3.out, ← Ha2.out, ← Ha1.out]
            simp
          rw [e9, List.length_append, VY_append, Hnl6.out]
          exact H8.out
end Go.Proofs.YtphccomhggnccaaGreat
/- A map with keys, whose values are whatever they are: what it tells at each key. -/
namespace Go.Proofs.YtphccomhggnccaaGreat
set_option maxRecDepth 100000
set_option linter.unusedVariables false
set_option linter.unusedSimpArgs false
set_option maxRecDepth 100000
open Go.RowKit Go.Maps Sg Fm
/-- how a value reads: as itself -/
def asIs (v : Value) : Option (DataW Value × List MemPlace) := some (.held v, [])
theorem keyedS : Keyed Tryz.prog 9 := string_keyed Tryz.underlying9
/-- block b is a map of at most n entries that tells f at each key, z where it has none -/
def MpS (w : World) (z : Value) (b n : Nat) (f : Key → Value) : Prop := ∃ D, w.ownsMap Tryz.prog 9 asIs b n D ∧ IsMap D ∧ ∀ k : Key, D.atKey (.string k) (.held z) = .held (f k)
theorem keyOf_ba (k : Key) (hk : k.length ≤ 1099511627776) : Go.keyOf Tryz.prog 9 (.string (ba k)) = some (.string k) := by
  have := Go.WideMaps.keyOf_string_mk (P := Tryz.prog) (k := 9) Tryz.underlying9 (s := ba k) (by unfold maxLen; simp [ba, ByteArray.size]; omega)
  simpa [ba] using this
theorem MpS.made (w : World) (z : Value) : MpS (w.alloc (.map #[] 0)) z w.heap.size 0 (fun _ => z) := ⟨_, World.ownsMap_made w _ _ _, ⟨_, rfl⟩, fun k => rfl⟩
theorem MpS.kept {w w' : World} {z : Value} {b n : Nat} {f : Key → Value} {r : Option Nat} (h : MpS w z b n f) (hg : w.grownBy w' r) (hne : some b ≠ r) : MpS w' z b n f := by
  obtain ⟨D, h1, h2, h3⟩ := h
  exact ⟨D, h1.kept hg hne, h2, h3⟩
theorem MpS.lt {w : World} {z : Value} {b n : Nat} {f : Key → Value} (h : MpS w z b n f) : b < w.heap.size := by
  obtain ⟨D, h1, h2, h3⟩ := h
  exact h1.lt
theorem MpS.below {w w' : World} {z : Value} {b n : Nat} {f : Key → Value} (h : MpS w z b n f) (hb : Below w.heap.size w w') : MpS w' z b n f :=
  h.kept (below_grown hb (Nat.le_refl _) none) nofun
theorem MpS.look {w : World} {z : Value} {b n : Nat} {f : Key → Value} {t e : TypeId} (h : MpS w z b n f) (ht : Tryz.prog.underlying t = some (.map 9 e)) (hz : (zeroValue e).run Tryz.prog w = .ok z w) (k : Key) (hk : k.length ≤ 1099511627776) :
    (Instr.lookup t (.map (some b)) (.string (ba k)) false).run Tryz.prog w = .ok (f k) w := by
  obtain ⟨D, h1, h2, h3⟩ := h
  obtain ⟨v, ps, hrun, hv⟩ := h1.lookup keyedS ht hz rfl (keyOf_ba k hk)
  rw [h3 k] at hv
  have : v = f k := by
    have := congrArg (fun o => o.map (·.1)) hv
    simp [asIs] at this
    exact this
  rw [hrun, this]
theorem MpS.put {w : World} {z : Value} {b n : Nat} {f : Key → Value} {t e : TypeId} (h : MpS w z b n f) (ht : Tryz.prog.underlying t = some (.map 9 e)) (hn : n < 1099511627776) (k : Key) (hk : k.length ≤ 1099511627776) (v : Value) :
    ∃ w', (Instr.mapUpdate t (.map (some b)) (.string (ba k)) v).run Tryz.prog w = .ok () w' ∧ MpS w' z b (n + 1) (fun x => if x = k then v else f x) ∧ w.grownBy w' (some b) := by
  obtain ⟨D, h1, h2, h3⟩ := h
  obtain ⟨w', hrun, ho, hg⟩ := h1.update keyedS ht (by unfold maxLen; omega) (keyOf_ba k hk) (val := v) (d := .held v) (ps := []) rfl
  refine ⟨w', hrun, ⟨_, ho, h2.put _ _, fun x => ?_⟩, hg⟩
  by_cases hx : x = k
  · subst hx
    dsimp only
    rw [if_pos rfl]
    exact atKey_put_same h2 (keyedS.key (keyOf_ba x hk)) _ _
  · dsimp only
    rw [if_neg hx, atKey_put_other (fun e => hx (by injection e)), h3]
end Go.Proofs.YtphccomhggnccaaGreat
/- The reference's New: two rows that grow, a box that names one of them, and texts that stay. -/
namespace Go.Proofs.YtphccomhggnccaaGreat
set_option maxRecDepth 100000
set_option linter.unusedVariables false
set_option linter.unusedSimpArgs false
set_option maxRecDepth 100000
open Go.RowKit Sg Fm
/-- the state: x's block (its first cell is cv), the texts' row tv, the documents' row dv, texts that lie apart -/
structure R9 (w0 w : World) (x : Nat) (cv gv tv : Value) (ts : List De) (dv : Value) (ds ps : List De) : Prop where
  xb : w.heap[x]? = some (.cells #[cv, gv] 63 (0, 0))
  xg : w0.heap.size ≤ x
  ht : w.ownsRow w0.heap.size 34 1 tv ts.length (VT ts)
  hd : w.ownsRow w0.heap.size 36 2 dv ds.length (VD ds)
  xt : tv.ownBlock ≠ some x
  xd : dv.ownBlock ≠ some x
  td : ∀ g, tv.ownBlock = some g → dv.ownBlock ≠ some g
  txt : ∀ e ∈ ps, TxtOk w e ∧ ∀ a, e.a = some a → a.spot = none ∧ w0.heap.size ≤ a.block ∧ a.block < w.heap.size ∧ tv.ownBlock ≠ some a.block ∧ dv.ownBlock ≠ some a.block ∧ a.block ≠ x
  bel : Below w0.heap.size w0 w
theorem TxtOk.grown {w w' : World} {e : De} {r : Option Nat} (h : TxtOk w e) (hg : w.grownBy w' r) (hne : ∀ a, e.a = some a → r ≠ some a.block) : TxtOk w' e :=
  ⟨h.len, h.le, h.nil, h.sl.grown hg (fun a ha _ e2 => hne a ha e2.symm), h.lt⟩
theorem own_len {w : World} {base : Nat} {e : TypeId} {size : Nat} {v : Value} {n m : Nat} {xs : List Value} (h : w.ownsRow base e size v n xs) (he : n = m) : w.ownsRow base e size v m xs := by subst he; exact h
theorem txt_own {w : World} {base : Nat} {A : Option Addr} {m c n : Nat} {t : List Nat} {k : Key} (h : w.ownsRow base 5 1 (.slice A m c) n (VY t)) (hb : ∀ b ∈ t, b < 256) :
    TxtOk w ⟨k, A, n, c, t⟩ ∧ ∀ a, A = some a → a.spot = none ∧ base ≤ a.block ∧ a.block < w.heap.size := by
  obtain ⟨A', c', hv, hS, hnc, hnil, hl, ha, -⟩ := own_form h
  injection hv with h1 h2 h3
  subst h1 h3
  rw [VY_length, Nat.mul_one] at hl
  exact ⟨⟨hl, hnc, hnil, hS, hb⟩, fun a e => ⟨by rw [(ha a e).2.2.1], (ha a e).1, (ha a e).2.1⟩⟩
section
variable {w0 w w' : World} {x : Nat} {cv gv tv dv : Value} {ts ds ps : List De}
theorem R9.below (h : R9 w0 w x cv gv tv ts dv ds ps) (hb : Below w.heap.size w w') : R9 w0 w' x cv gv tv ts dv ds ps :=
  ⟨(hb.block x (blk_lt h.xb)).trans h.xb, h.xg, own_below h.ht hb, own_below h.hd hb, h.xt, h.xd, h.td, fun e he => by
    obtain ⟨h1, h2⟩ := h.txt e he
    refine ⟨h1.below hb, fun a ha => ?_⟩
    obtain ⟨q1, q2, q3, q4⟩ := h2 a ha
    exact ⟨q1, q2, Nat.lt_of_lt_of_le q3 hb.size, q4⟩, h.bel.trans (hb.mono h.bel.size)⟩
theorem R9.add (h : R9 w0 w x cv gv tv ts dv ds ps) (hb : Below w.heap.size w w') (e : De) (he : TxtOk w' e) (ha : ∀ a, e.a = some a → a.spot = none ∧ w.heap.size ≤ a.block ∧ a.block < w'.heap.size) : R9 w0 w' x cv gv tv ts dv ds (ps ++ [e]) := by
  have h' := h.below hb
  refine ⟨h'.xb, h'.xg, h'.ht, h'.hd, h'.xt, h'.xd, h'.td, fun e2 he2 => ?_, h'.bel⟩
  rcases List.mem_append.1 he2 with he2 | he2
  · exact h'.txt e2 he2
  · have he2 : e2 = e := by simpa using he2
    subst he2
    refine ⟨he, fun a hea => ?_⟩
    obtain ⟨q1, q2, q3⟩ := ha a hea
    have hx := blk_lt h.xb
    refine ⟨q1, Nat.le_trans h.bel.size q2, q3, fun e3 => ?_, fun e3 => ?_, by omega⟩
    · have := (World.ownsRow.lt h.ht _ e3).2; omega
    · have := (World.ownsRow.lt h.hd _ e3).2; omega
theorem R9.appT {tv' : Value} {e : De} (h : R9 w0 w x cv gv tv ts dv ds ps) (ho : w'.ownsRow w0.heap.size 34 1 tv' (ts.length + 1) (VT ts ++ [.slice e.a e.n e.c])) (hg : w.grownBy w' tv.ownBlock)
    (hat : tv'.ownBlock = tv.ownBlock ∨ tv'.ownBlock = some w.heap.size) : R9 w0 w' x cv gv tv' (ts ++ [e]) dv ds ps := by
  have hne : ∀ b, b < w.heap.size → tv.ownBlock ≠ some b → tv'.ownBlock ≠ some b := fun b hb h1 e2 => by
    rcases hat with h2 | h2
    · exact h1 (h2.symm.trans e2)
    · rw [e2] at h2; have := Option.some.inj h2; omega
  refine ⟨grown_blk hg h.xb (Ne.symm h.xt), h.xg, ?_, own_keepR h.hd hg (fun g h1 e2 => h.td g e2 h1), hne x (blk_lt h.xb) h.xt, h.xd, fun g h1 h2 => ?_, fun e2 he2 => ?_, h.bel.grown hg h.bel.size (fun k hk => (World.ownsRow.lt h.ht k hk).1)⟩
  · rw [List.length_append, show VT (ts ++ [e]) = VT ts ++ [.slice e.a e.n e.c] by simp [VT]]; exact ho
  · rcases hat with h3 | h3
    · exact h.td g (h3.symm.trans h1) h2
    · rw [h1] at h3; have := Option.some.inj h3; have := (World.ownsRow.lt h.hd g h2).2; omega
  · obtain ⟨h1, h2⟩ := h.txt e2 he2
    refine ⟨h1.grown hg (fun a ha => (h2 a ha).2.2.2.1), fun a ha => ?_⟩
    obtain ⟨q1, q2, q3, q4, q5, q6⟩ := h2 a ha
    exact ⟨q1, q2, Nat.lt_of_lt_of_le q3 hg.size, hne _ q3 q4, q5, q6⟩
theorem R9.appD {dv' : Value} {e : De} (h : R9 w0 w x cv gv tv ts dv ds ps) (ho : w'.ownsRow w0.heap.size 36 2 dv' (ds.length + 1) (VD ds ++ encD e)) (hg : w.grownBy w' dv.ownBlock)
    (hat : dv'.ownBlock = dv.ownBlock ∨ dv'.ownBlock = some w.heap.size) : R9 w0 w' x cv gv tv ts dv' (ds ++ [e]) ps := by
  have hne : ∀ b, b < w.heap.size → dv.ownBlock ≠ some b → dv'.ownBlock ≠ some b := fun b hb h1 e2 => by
    rcases hat with h2 | h2
    · exact h1 (h2.symm.trans e2)
    · rw [e2] at h2; have := Option.some.inj h2; omega
  refine ⟨grown_blk hg h.xb (Ne.symm h.xd), h.xg, own_keepR h.ht hg (fun g h1 e2 => h.td g h1 e2), ?_, h.xt, hne x (blk_lt h.xb) h.xd, fun g h1 h2 => ?_, fun e2 he2 => ?_, h.bel.grown hg h.bel.size (fun k hk => (World.ownsRow.lt h.hd k hk).1)⟩
  · rw [List.length_append, VD_append, show VD [e] = encD e by simp [VD]]; exact ho
  · exact hne g (World.ownsRow.lt h.ht g h1).2 (h.td g h1) h2
  · obtain ⟨h1, h2⟩ := h.txt e2 he2
    refine ⟨h1.grown hg (fun a ha => (h2 a ha).2.2.2.2.1), fun a ha => ?_⟩
    obtain ⟨q1, q2, q3, q4, q5, q6⟩ := h2 a ha
    exact ⟨q1, q2, Nat.lt_of_lt_of_le q3 hg.size, q4, hne _ q3 q5, q6⟩
theorem R9.store (h : R9 w0 w x cv gv tv ts dv ds ps) (v : Value) : R9 w0 (w.setCell ⟨x, 0, none⟩ v) x v gv tv ts dv ds ps := by
  have hg := grown_set w x 0 v
  refine ⟨blk_set h.xb 0 v, h.xg, own_keepR h.ht hg (fun g h1 e => ?_), own_keepR h.hd hg (fun g h1 e => ?_), h.xt, h.xd, h.td, fun e2 he2 => ?_, h.bel.grown hg h.bel.size (fun k hk => by have := Option.some.inj hk; have := h.xg; omega)⟩
  · have := Option.some.inj e; subst this; exact h.xt h1
  · have := Option.some.inj e; subst this; exact h.xd h1
  · obtain ⟨h1, h2⟩ := h.txt e2 he2
    refine ⟨h1.grown hg (fun a ha e3 => (h2 a ha).2.2.2.2.2 (Option.some.inj e3).symm), fun a ha => ?_⟩
    obtain ⟨q1, q2, q3, q4, q5, q6⟩ := h2 a ha
    exact ⟨q1, q2, Nat.lt_of_lt_of_le q3 hg.size, q4, q5, q6⟩
/-- the append of a document, at a step of a region that draws -/
theorem stepDc {o : Oper} {a : Act} {K : Act → World → Prop} {Q : Exit → Act → World → Prop} {E : Prop} {ys : Nat → Option Bool} (hgd : o.guard = none) (s xx : Operand)
    (ho : o.op = .call { callee := .builtin .append, args := #[s, xx], argTypes := #[22, 22] })
    (h : R9 w0 w x cv gv tv ts dv ds ps) (hs : a.eval s = dv) {b c : Nat} (hx : a.eval xx = .slice (some ⟨b, 0, none⟩) 1 c) {e : De}
    (hb : w.heap[b]? = some (.cells #[.string (ba e.k), .slice e.a e.n e.c] 36 (0, 0))) {n : Nat} (hn : ds.length = n) (hl : n ≤ 1099511627)
    (hk : ∀ A c' w', R9 w0 w' x cv gv tv ts (.slice A (n + 1) c') (ds ++ [e]) ps → w.grownBy w' dv.ownBlock → K (a.put o.dst (.slice A (n + 1) c')) w') : if Region.wanted o ys = true then Oper.wp Tryz.prog o a w K Q else E := by
  subst hn
  refine stepE el_doc hgd s xx ho w0.heap.size dv ds.length (VD ds) hs h.hd (some ⟨b, 0, none⟩) 1 c (encD e) hx (fun e => by cases e) rfl (sl_blk (xs := encD e) hb) (encD_one e) (by omega) h.bel.size ?_
  intro v' w' h3 h4 _ h5
  obtain ⟨A, c', rfl, -, -, -, -, -, -⟩ := own_form h3
  exact hk A c' w' (h.appD h3 h4 h5) h4
end
end Go.Proofs.YtphccomhggnccaaGreat
/- What stands at the end of the reference's New. -/
namespace Go.Proofs.YtphccomhggnccaaGreat
set_option maxRecDepth 100000
set_option linter.unusedVariables false
set_option linter.unusedSimpArgs false
set_option maxRecDepth 100000
open Go.RowKit Sg Fm
theorem es_sorted {es es' : List De} (hn : (es.map (·.k)).Nodup) (hk : es'.map (·.k) = srt (es.map (·.k))) (he : ∀ e ∈ es', ∃ e0 ∈ es, e.k = e0.k ∧ e.t = e0.t ∧ e.n = e0.n) : es'.map De.dc = sortD (es.map De.dc) := by
  have hkd : keysD (es.map De.dc) = es.map (·.k) := by simp [keysD, De.dc]
  have hnd : (keysD (es.map De.dc)).Nodup := by rw [hkd]; exact hn
  rw [← byKeys_eq hnd]
  unfold byKeys
  rw [hkd, ← hk, List.map_map]
  refine List.map_congr_left fun e hm => ?_
  obtain ⟨e0, h0, h1, h2, _⟩ := he e hm
  have h3 := txtOf_mem hnd (List.mem_map_of_mem (f := De.dc) h0)
  show (e.k, e.t) = (e.k, (txtOf (es.map De.dc) e.k).getD [])
  rw [h1, h2]
  have h4 : txtOf (es.map De.dc) e0.k = some e0.t := h3
  rw [h4]
  rfl
theorem refm_of_R9 {w0 w : World} {base x : Nat} {Ad A3 : Option Addr} {i cd ng c3 : Nat} {tv : Value} {es' : List De} {gs : List Key} (h : R9 w0 w x (.slice Ad i cd) (.slice A3 ng c3) tv es' (.slice Ad i cd) es' es') (hl : es'.length = i) (hb : base ≤ w0.heap.size)
    (hG : GArg w A3 ng c3 gs) (hge : ∀ a, A3 = some a → base ≤ a.block ∧ a.block < w.heap.size ∧ a.spot = none) : RefM w base x es' gs := by
  obtain ⟨A', c', hv, hS, hnc, hnil, -, ha, -⟩ := own_form h.hd
  injection hv with h1 h2 h3
  subst h1 h3
  refine ⟨Nat.le_trans hb h.xg, Ad, A3, cd, c3, ?_, ⟨rfl, hnc, hnil, hS, fun e he => (h.txt e he).1⟩, ?_, ⟨fun a e => by rw [(ha a e).2.2.1], fun a e => ⟨Nat.le_trans hb (ha a e).1, (ha a e).2.1⟩⟩, ⟨fun a e => (hge a e).2.2, fun a e => ⟨(hge a e).1, (hge a e).2.1⟩⟩, fun e he => ⟨fun a e2 => ((h.txt e he).2 a e2).1, fun a e2 => ⟨Nat.le_trans hb ((h.txt e he).2 a e2).2.1, ((h.txt e he).2 a e2).2.2.1⟩⟩⟩
  · rw [hl, hG.len]; exact h.xb
  · rw [hG.len]; exact hG
theorem rarg_of_R9 {w0 w : World} {x : Nat} {cv gv : Value} {At : Option Addr} {ct i : Nat} {es' ps : List De} {dv : Value} {ds : List De} (h : R9 w0 w x cv gv (.slice At i ct) es' dv ds ps) (hl : es'.length = i) (hi : i ≤ 1099511627) (hp : ∀ e ∈ es', e ∈ ps) (hn : ∀ e ∈ es', e.t.length ≤ 1099511627) : RArg w At i ct (es'.map (·.t)) := by
  obtain ⟨A', c', hv, hS, hnc, hnil, -, ha, -⟩ := own_form h.ht
  injection hv with h1 h2 h3
  subst h1 h3
  exact rarg_of_row hS hl (by omega) (fun e he => (h.txt e (hp e he)).1) (fun e he => by have h1 := (h.txt e (hp e he)).1.len; have h2 := hn e he; omega)
theorem bodyS_len {ds : List Dc} {gs : List Key} {l : List Nat} (h : Lite ds gs) (hl : l.length ≤ 65536) (hv : ∀ v ∈ l, v < 512) : (bodyS (keysD ds) gs l).length ≤ 1000000 := by
  have h1 := h.w
  have h2 := wtG_keysD ds
  have h3 := keysB_wt (keysD ds) (by omega)
  have h4 := keysB_wt gs (by omega)
  have h5 := wtD_len ds
  have h6 := wtG_len gs
  have h7 := num_len10 (v := (keysD ds).length) (by rw [keysD_length]; omega)
  have h8 := num_len10 (v := gs.length) (by omega)
  have h9 := num_len10 (v := l.length) (by omega)
  have h10 := nums_len 1 l (fun v hm => by have := hv v hm; omega)
  unfold bodyS
  simp only [List.length_append, List.length_cons, List.length_nil]
  omega
end Go.Proofs.YtphccomhggnccaaGreat
/- haystackref9.New. -/
namespace Go.Proofs.YtphccomhggnccaaGreat
set_option maxRecDepth 100000
set_option linter.unusedVariables false
set_option linter.unusedSimpArgs false
set_option maxRecDepth 100000
set_option pp.deepTerms true
set_option pp.maxSteps 100000
open Go.RowKit Go.Maps Sg Fm
/-- the value that stands last at each key -/
def txF (f : Key → Value) : List De → Key → Value
  | [] => f
  | e :: r => txF (fun x => if x = e.k then .slice e.a e.n e.c else f x) r
theorem txF_snoc (e : De) : ∀ (l : List De) (f : Key → Value), txF f (l ++ [e]) = fun x => if x = e.k then .slice e.a e.n e.c else txF f l x
  | [], f => rfl
  | a :: r, f => by rw [List.cons_append, txF, txF_snoc e r]; rfl
theorem txF_miss : ∀ (l : List De) (f : Key → Value) (k : Key), k ∉ l.map (·.k) → txF f l k = f k
  | [], f, k, _ => rfl
  | a :: r, f, k, h => by
    rw [List.map_cons, List.mem_cons, not_or] at h
    rw [txF, txF_miss r _ k h.2]
    exact if_neg h.1
theorem txF_hit : ∀ (l : List De) (f : Key → Value), (l.map (·.k)).Nodup → ∀ e ∈ l, txF f l e.k = .slice e.a e.n e.c
  | [], f, _, e, he => by cases he
  | a :: r, f, hn, e, he => by
    rw [List.map_cons, List.nodup_cons] at hn
    rcases List.mem_cons.1 he with rfl | he
    · rw [txF, txF_miss r _ _ hn.1]; exact if_pos rfl
    · rw [txF]; exact txF_hit r _ hn.2 e he
/-- what the reference's New hands back: the documents lie anew -/
def New9P (w : World) (ds : List Dc) (gs : List Key) (e : Ending) (w' : World) : Prop :=
  (Rise (keysD ds ++ gs) ∧ ∃ (x : Nat) (es : List De), e = .returned (.tuple #[.pointer (some ⟨x, 0, none⟩), .int .i64 0]) ∧ es.map De.dc = sortD ds ∧ RefM w' w.heap.size x es (srt gs) ∧ Below w.heap.size w w') ∨
  (¬ Rise (keysD ds ++ gs) ∧ e = .returned (.tuple #[.pointer none, .int .i64 1]) ∧ Below w.heap.size w w')
set_option maxHeartbeats 20000000 in
theorem new9_any (w : World) (A Ag : Option Addr) (n c ng cg : Nat) (es : List De) (gs : List Key) (hD : DArg w A n c es) (hG : GArg w Ag ng cg gs) (hL : Lite (es.map De.dc) gs) :
    Calls Tryz.prog 13 #[.slice A n c, .slice Ag ng cg] w (New9P w (es.map De.dc) gs) := by
  have hn : n ≤ 4000 := by have h1 := hL.w; have h2 := wtD_len (es.map De.dc); rw [List.length_map, hD.len] at h2; omega
  have hng : ng ≤ 4000 := by have h1 := hL.w; have h2 := wtG_len gs; rw [hG.len] at h2; omega
  have HD := Lib.hid hD
  have HG := Lib.hid hG
  have HL := Lib.hid hL
  have Hn := Lib.hid hD.len
  have Hkl : Hid (∀ e ∈ es, e.k.length ≤ 20000) := Lib.hid (fun e he => by have h1 := wtD_mem (List.mem_map_of_mem (f := De.dc) he); have h2 := hL.w; have h3 : e.dc.1 = e.k := rfl; rw [h3] at h1; omega)
  have hmm := @run_makeMap Tryz.prog
  have hC1 := below_new w (.map #[] 0)
  have HM0 := Lib.hid (MpS.made w (.slice none 0 0))
  have HB0 := Lib.hid hC1
  have hzv : ∀ W, (zeroValue 34).run Tryz.prog W = .ok (.slice none 0 0) W := fun W => by kernel_rfl
  have Hzv := Lib.hid hzv
  clear hD hG hL hC1 hzv
  go_enter Tryz.func13, Tryz.ntmps13
  go_wp2_with fail
  clear hmm
  obtain ⟨M, hM⟩ : ∃ M, w.heap.size = M := ⟨_, rfl⟩
  have HM := Lib.hid hM
  rw [hM] at HM0 ⊢
  clear hM
  generalize w.alloc (.map #[] 0) = w1 at *
  go_loopw [6, 9] (fun t q wr => ∃ j : Nat, j ≤ n ∧ q = .int .i64 (j : Int) ∧ Hid (wr.ownsRow w1.heap.size 9 1 t j (VS ((es.take j).map (·.k)))) ∧ Hid (MpS wr (.slice none 0 0) M j (txF (fun _ => .slice none 0 0) (es.take j))) ∧ Hid (Below w.heap.size w wr) ∧ Hid (w1.heap.size ≤ wr.heap.size)) (fun _ q _ => n - (intOf q).toNat)
  case atStart => exact ⟨0, Nat.zero_le _, rfl, Lib.hid (World.ownsRow_nil _ _ _ _), HM0, HB0, Lib.hid (Nat.le_refl _)⟩
  case round =>
    obtain ⟨j, hj, rfl, HO, HMp, HB, HS⟩ := hrel
    obtain ⟨At, ct, hvt, -, -, -, -, -, -⟩ := own_form HO.out
    subst hvt
    by_cases hjn : j < n
    · obtain ⟨bd, od, rfl, hc0, hc1⟩ := garg_docs0 (HD.out.below HB.out) hjn
      have hje : j < es.length := by rw [Hn.out]; exact hjn
      have Htk := Lib.hid (show (es.take (j + 1)).map (·.k) = (es.take j).map (·.k) ++ [(es[j]?.getD default).k] by
        rw [List.take_succ_eq_append_getElem hje, List.map_append]; simp [hje])
      have Htf := Lib.hid (show es.take (j + 1) = es.take j ++ [es[j]?.getD default] by
        rw [List.take_succ_eq_append_getElem hje]; simp [hje])
      have hkl := Hkl.out (es[j]?.getD default) (by simp [hje])
      have hbd : bd < w.heap.size := (HD.out.lt (Nat.lt_of_le_of_lt (Nat.zero_le _) hjn) _ rfl).1
      generalize hej : es[j]?.getD default = ej at *
      have hsw := HS.out
      clear hje
      go_upto_region 7 with (at_builtin; refine appE el_str rfl _ _ rfl w1.heap.size _ j (VS ((es.take j).map (·.k))) rfl (World.ownsRow.alloc HO.out _) (some ⟨wr.heap.size, 0, none⟩) 1 1 [encStr ej.k] rfl (fun h => by cases h) rfl (sl_blk (heap_alloc_new wr _)) (fun u hu => by simp at hu; subst hu; rfl) (by omega) (by simp; omega) ?_; intro v' w2 hown hg hnn0 hat0; obtain ⟨A7, c7, hv7, -, -, -, -, -, -⟩ := own_form hown; subst hv7; have H7 := Lib.hid hown; have HG7 := Lib.hid hg; clear hown hg hnn0 hat0)
      have hB2 := (HB.out.alloc HB.out.size (.cells #[.string (ba ej.k)] 9)).grown HG7.out (by have := HB.out.size; simp; omega) (fun k hk => by have h1 := (World.ownsRow.lt HO.out k hk).1; have h2 := HB0.out.size; omega)
      have hS2 : w1.heap.size ≤ w2.heap.size := by have := HG7.out.size; simp at this; omega
      have hMo : some M ≠ (Value.slice At j ct).ownBlock := fun e => by
        have h1 := (World.ownsRow.lt HO.out M e.symm).1
        have h2 := HM0.out.lt
        omega
      have hM2 := (HMp.out.below (below_new wr (.cells #[.string (ba ej.k)] 9))).kept HG7.out hMo
      have hc0' : w2.cell? ⟨bd, od + j * 2, none⟩ = some (.string (ba ej.k)) := by
        have := (garg_docs0 (HD.out.below hB2) hjn)
        obtain ⟨b', o', hbo, h1, _⟩ := this
        injection hbo with hbo
        injection hbo with e1 e2
        subst e1 e2
        rw [hej] at h1
        exact h1
      have hc1' : w2.cell? ⟨bd, od + j * 2 + 1, none⟩ = some (.slice ej.a ej.n ej.c) := by
        have := (garg_docs0 (HD.out.below hB2) hjn)
        obtain ⟨b', o', hbo, _, h1⟩ := this
        injection hbo with hbo
        injection hbo with e1 e2
        subst e1 e2
        rw [hej] at h1
        exact h1
      have HB2 := Lib.hid hB2.drew
      have HS2 := Lib.hid hS2
      have HM2 := hM2.below (below_drewN w2.heap.size w2 1)
      have HO2 := Lib.hid (own_below H7.out (below_drewN w2.heap.size w2 1))
      clear hB2 hS2 hMo hM2 hc0 hc1 H7 HG7 HO HMp HB
      go_still_tail 11, (by kernel_rfl)
      change wpList _ _ _ _ _ w2.drew
      change MpS w2.drew _ _ _ _ at HM2
      change Hid (w2.drew.ownsRow _ _ _ _ _ _) at HO2
      obtain ⟨w3, hrun, hM3, hg3⟩ := HM2.put Tryz.underlying80 (by omega) ej.k (by omega) (.slice ej.a ej.n ej.c)
      have HM3 := Lib.hid hM3
      have HB3 := Lib.hid (HB2.out.grown hg3 (by have := HB2.out.size; exact this) (fun k hk => by have := Option.some.inj hk; have := HM.out; omega))
      have HS3 := Lib.hid (Nat.le_trans HS2.out hg3.size)
      have HO3 := Lib.hid (own_keepR HO2.out hg3 (fun g hg e => by have h1 := (World.ownsRow.lt HO2.out g hg).1; have h2 := HM0.out.lt; have := Option.some.inj e; omega))
      clear HM2 hM3 hg3 HB2 HS2 HO2 hc0' hc1'
      generalize w2.drew = wd at *
      go_wp2_with fail
      go_roundw
      case rel => exact ⟨j + 1, by omega, by go_num, Lib.hid (by rw [Htk.out, VS_append]; exact HO3.out), Lib.hid (by rw [Htf.out, txF_snoc]; exact HM3.out), HB3, HS3⟩
      case measure => simp [intOf]; omega
    · obtain rfl : j = n := by omega
      have hO := HO.out
      have hMp := HMp.out
      rw [List.take_of_length_le (by rw [Hn.out]; exact Nat.le_refl _)] at hO hMp
      have hGk := garg_own hO
      have HMp' := Lib.hid hMp
      have HSk := Lib.hid (fun (W : World) (k : Below wr.heap.size wr W) => sorted9_any _ _ _ _ W (hGk.below k) (by omega))
      clear HO HMp HM0 hO hMp
      have HBr := HB
      have HKL : Hid ((es.map (·.k)).length = j) := Lib.hid (by rw [List.length_map, Hn.out])
      clear HB hGk
      go_wp2_with fail
      go_at_call 39
      refine (HSk.out wr (Below.refl _ _)).mono ?_
      rintro e w2 ⟨A2, c2, rfl, hG2, -, hB2⟩
      have HG2 := Lib.hid hG2
      have HM2 := Lib.hid (HMp'.out.below hB2)
      have HB2 := Lib.hid (below_step HBr.out hB2)
      have HS2 := Lib.hid (Nat.le_trans HS.out hB2.size)
      have HSg := Lib.hid (sorted9_any ng gs Ag cg w2 (HG.out.below HB2.out) (by omega))
      clear hG2 hB2 HSk HMp' HBr HS
      go_wp2_with fail
      go_at_call 39
      refine HSg.out.mono ?_
      rintro e w3 ⟨A3, c3, rfl, hG3, hge3, hB3⟩
      have HGe3 := Lib.hid (fun a ha => (⟨Nat.le_trans HB2.out.size (hge3 a ha).1, (hge3 a ha).2⟩ : w.heap.size ≤ a.block ∧ a.block < w3.heap.size ∧ a.spot = none))

      have HG3 := Lib.hid hG3
      have HG2' := Lib.hid (HG2.out.below hB3)
      have HM3 := Lib.hid (HM2.out.below hB3)
      have HB3 := Lib.hid (below_step HB2.out hB3)
      have HS3 := Lib.hid (Nat.le_trans HS2.out hB3.size)
      have hO0 : (w3.alloc (.cells #[] 9)).ownsRow w3.heap.size 9 1 (.slice (some ⟨w3.heap.size, 0, none⟩) 0 0) 0 [] := World.ownsRow_made w3 #[] 0 (Nat.le_refl _) (by decide) (by simp)
      have hC4 := below_new w3 (.cells #[] 9)
      have HO0 := Lib.hid hO0
      have HC4 := Lib.hid hC4
      have HGa := Lib.hid (HG2'.out.below hC4)
      clear hG3 hge3 hB3 HSg HG2 HM2 HB2 HS2 hO0 hC4
      go_wp2_with (at_builtin; first | (refine appE el_str rfl _ _ rfl w3.heap.size _ 0 [] rfl HO0.out A2 j c2 (VS (srt (es.map De.k))) rfl HGa.out.nil (by rw [VS_length, srt_length, HKL.out, Nat.mul_one]) HGa.out.sl (VS_one _) (by omega) HC4.out.size ?_; intro v1 w4 hown1 hg1 hz1 hz2; rw [Nat.zero_add, List.nil_append] at hown1; obtain ⟨A4, c4, hv4, -, -, -, -, -, -⟩ := own_form hown1; subst hv4; have HO4 := Lib.hid hown1; have HB4 := Lib.hid (HC4.out.grown hg1 HC4.out.size (fun k hk => (World.ownsRow.lt HO0.out k hk).1)); clear hown1 hg1 hz1 hz2) | (refine appE el_str rfl _ _ rfl w3.heap.size _ j (VS (srt (es.map De.k))) rfl HO4.out A3 ng c3 (VS (srt gs)) rfl HG3.out.nil (by rw [VS_length, srt_length, HG.out.len, Nat.mul_one]) (HG3.out.sl.below HB4.out) (VS_one _) (by omega) HB4.out.size ?_; intro v1 w5 hown1 hg1 hz1 hz2; obtain ⟨A5, c5, hv5, -, -, -, -, -, -⟩ := own_form hown1; subst hv5; rw [← VS_append] at hown1; have HO5 := Lib.hid hown1; have HB5 := Lib.hid (HB4.out.grown hg1 HB4.out.size (fun k hk => (World.ownsRow.lt HO4.out k hk).1)); clear hown1 hg1 hz1 hz2))
      go_at_call 39
      have e5 : srt (srt (es.map (·.k)) ++ srt gs) = srt (keysD (es.map De.dc) ++ gs) := by
        have e1 : keysD (es.map De.dc) = es.map (·.k) := by simp [keysD, De.dc]
        rw [e1]
        exact srt_same ((srt_perm _).append (srt_perm _))
      have hG5 := garg_own HO5.out
      have HSa := Lib.hid (sorted9_any _ _ _ _ w5 hG5 (by omega))
      refine HSa.out.mono ?_
      rintro e w6 ⟨A6, c6, rfl, hG6, -, hB6⟩
      rw [e5] at hG6
      have HG6 := Lib.hid hG6
      have HB56 := below_next HB5.out hB6
      have HGk := Lib.hid (HG2'.out.below HB56)
      have HGg := Lib.hid (HG3.out.below HB56)
      have H36 := Lib.hid HB56.size
      have HM6 := Lib.hid (HM3.out.below HB56)
      have HB6 := Lib.hid (below_step HB3.out HB56)
      have HS6 := Lib.hid (Nat.le_trans HS3.out HB56.size)
      obtain ⟨N, hN⟩ : ∃ N, j + ng = N := ⟨_, rfl⟩
      have hNb : N ≤ 8000 := by omega
      have Hkk : Hid (∀ k ∈ srt (keysD (es.map De.dc) ++ gs), k.length ≤ 20000) := Lib.hid (fun k hk => by
        have h1 := ((srt_perm _).mem_iff.1 hk)
        have h2 := HL.out.w
        rcases List.mem_append.1 h1 with h1 | h1
        · have := wtG_mem h1; have := wtG_keysD (es.map De.dc); omega
        · have := wtG_mem h1; omega)
      rw [hN] at HG6 ⊢
      clear hG6 hB6 HSa hG5 HO5 HB5 e5 HB56 HG2' HG3 HM3 HB3 HS3 HO0 HC4 HGa HO4 HB4 hN
      have HRp : Hid (Rise (srt (keysD (es.map De.dc) ++ gs)) ↔ Rise (keysD (es.map De.dc) ++ gs)) := Lib.hid (rise_perm (srt_perm _))
      have Hsr := Lib.hid (srt_sorted (keysD (es.map De.dc) ++ gs))
      obtain ⟨LL, hLL⟩ : ∃ L, srt (keysD (es.map De.dc) ++ gs) = L := ⟨_, rfl⟩
      rw [hLL] at HG6 Hkk HRp Hsr
      have HR := Lib.hid (rise_iff Hsr.out)
      rw [HG6.out.len] at HR
      clear hLL
      go_wp2_with fail
      go_loopw [10] (fun q wr => ∃ i : Nat, i ≤ N ∧ q = .int .i64 (i : Int) ∧ Hid (riseN LL i) ∧ Hid (Below w6.heap.size w6 wr)) (fun q _ => N - (intOf q).toNat)
      case atStart => exact ⟨0, Nat.zero_le _, rfl, Lib.hid (riseN_zero _), Lib.hid (Below.refl _ _)⟩
      case round =>
        obtain ⟨i, hi, rfl, HN, HW⟩ := hrel
        by_cases hin : i < N
        · obtain ⟨b6, o6, hA6⟩ := garg_lit HG6.out (by omega)
          subst hA6
          have hcell : wr.cell? ⟨b6, o6 + i, none⟩ = some (.string (ba (LL.getD i []))) := garg_cell (HG6.out.below HW.out) hin
          have hmem := getD_memK (l := LL) (i := i) (by rw [HG6.out.len]; exact hin)
          have hkl6 := Hkk.out _ hmem
          have HI : Hid (∀ W, Calls Tryz.prog 40 #[.string (ba (LL.getD i []))] W fun e w' => e = .returned (.bool (decide (1 ≤ (LL.getD i []).length ∧ (LL.getD i []).length ≤ 64))) ∧ ∃ q, w' = W.drewN q) := Lib.hid (fun W => (key9_any W _ (by omega)).mono (by rintro e w' ⟨rfl, rfl⟩; exact ⟨rfl, 0, rfl⟩))
          have HNs := Lib.hid (riseN_succ (l := LL) (n := i))
          have Hno : Hid (¬ riseN LL (i + 1) → ¬ Rise (keysD (es.map De.dc) ++ gs)) := Lib.hid (fun h hr => h (fun j hj => HR.out.2 (HRp.out.2 hr) j (by omega)))
          have hci : 0 < i → wr.cell? ⟨b6, o6 + (i - 1), none⟩ = some (.string (ba (LL.getD (i - 1) []))) := fun h => garg_cell (HG6.out.below HW.out) (by omega)
          have Hci := Lib.hid hci
          obtain ⟨k, hk⟩ : ∃ k, LL.getD i [] = k := ⟨_, rfl⟩
          obtain ⟨k0, hk0⟩ : ∃ k, LL.getD (i - 1) [] = k := ⟨_, rfl⟩
          rw [hk] at hcell HI HNs
          rw [hk0] at Hci HNs
          have g0 : (0 : Int) ≤ (i : Int) := by omega
          have g1 : (i : Int) < (N : Int) := by omega
          clear hmem hci hk hk0 hkl6
          by_cases hkey : 1 ≤ k.length ∧ k.length ≤ 64
          · rw [decide_eq_true hkey] at HI
            rcases Nat.eq_zero_or_pos i with h0 | h0
            · subst h0
              have HN2 : Hid (riseN LL (0 + 1)) := Lib.hid (HNs.out.2 ⟨HN.out, hkey, fun h => absurd h (Nat.lt_irrefl 0)⟩)
              rw [Nat.add_zero] at hcell
              clear hkey
              go_wp2_with fail
              go_quiet ((go_at_call 40; exact Calls.quiet_of (HI.out _)))
              go_wp2_with fail
              go_roundw
              case rel => exact ⟨1, by omega, rfl, HN2, Lib.hid (HW.out.trans (below_drewN _ _ _))⟩
              case measure => simp [intOf]; omega
            · have hc2 := Hci.out h0
              have h0i : (0 : Int) < (i : Int) := by omega
              have h0d : decide ((0 : Int) < (i : Int)) = true := decide_eq_true h0i
              have h0n : decide (0 < i) = true := decide_eq_true h0
              obtain ⟨i1, hi1⟩ : ∃ i1, i - 1 = i1 := ⟨_, rfl⟩
              rw [hi1] at hc2
              have ei1 : (i : Int) - 1 = (i1 : Int) := by omega
              have ei2 : (i1 : Int) < (N : Int) := by omega
              have ei3 : (0 : Int) ≤ (i1 : Int) := by omega
              have ei4 : IntKind.i64.wrap ((i : Int) - 1) = (i1 : Int) := by rw [ei1]; exact IntWalk.i64_in _ (by omega)
              have heq := beq_key (a := k) (b := k0)
              by_cases hkk : k = k0
              · have Hno2 := Lib.hid (Hno.out fun h => (HNs.out.1 h).2.2 h0 hkk)
                rw [decide_eq_true hkk] at heq
                clear hkey hkk hi1
                go_wp2_with fail
                go_quiet ((go_at_call 40; exact Calls.quiet_of (HI.out _)))
                go_wp2_with fail
                go_ret2
                exact .inr ⟨Hno2.out, rfl, HB6.out.trans ((HW.out.trans (below_drewN _ _ _)).mono HB6.out.size)⟩
              · have HN2 : Hid (riseN LL (i + 1)) := Lib.hid (HNs.out.2 ⟨HN.out, hkey, fun _ => hkk⟩)
                rw [decide_eq_false hkk] at heq
                clear hkey hkk hi1
                go_wp2_with fail
                go_quiet ((go_at_call 40; exact Calls.quiet_of (HI.out _)))
                go_wp2_with fail
                go_roundw
                case rel => exact ⟨i + 1, by omega, by go_num, HN2, Lib.hid (HW.out.trans (below_drewN _ _ _))⟩
                case measure => simp [intOf]; omega
          · rw [decide_eq_false hkey] at HI
            have Hno2 := Lib.hid (Hno.out fun h => hkey (HNs.out.1 h).2.1)
            clear hkey
            rcases Nat.eq_zero_or_pos i with h0 | h0
            · subst h0
              rw [Nat.add_zero] at hcell
              go_wp2_with fail
              go_quiet ((go_at_call 40; exact Calls.quiet_of (HI.out _)))
              go_wp2_with fail
              go_ret2
              exact .inr ⟨Hno2.out, rfl, HB6.out.trans ((HW.out.trans (below_drewN _ _ _)).mono HB6.out.size)⟩
            · have h0i : (0 : Int) < (i : Int) := by omega
              go_wp2_with fail
              go_quiet ((go_at_call 40; exact Calls.quiet_of (HI.out _)))
              go_wp2_with fail
              go_ret2
              exact .inr ⟨Hno2.out, rfl, HB6.out.trans ((HW.out.trans (below_drewN _ _ _)).mono HB6.out.size)⟩
        · obtain rfl : i = N := by omega
          obtain ⟨wo, rfl⟩ : ∃ wo : World, wo = wr := ⟨_, rfl⟩
          have HRr := Lib.hid (HRp.out.1 (HR.out.1 HN.out))
          clear HG6 Hkk Hsr
          have hGk := HGk.out.below HW.out
          have hGg := HGg.out.below HW.out
          have HM7 := Lib.hid (HM6.out.below HW.out)
          have HB7 := Lib.hid (HB6.out.trans (HW.out.mono HB6.out.size))
          have H37 := Lib.hid (Nat.le_trans H36.out HW.out.size)
          have HGk7 := Lib.hid hGk
          have HGg7 := Lib.hid hGg
          have hMlt := HM7.out.lt
          clear hGk hGg HW HN HGk HGg HM6 HB6 HS6 HR HRp
          go_wp2_with fail
          obtain ⟨x, hx⟩ : ∃ x, wo.heap.size = x := ⟨_, rfl⟩
          have hR0 : R9 wo (wo.alloc (.cells #[.slice none 0 0, .slice A3 ng c3] 63)) x (.slice none 0 0) (.slice A3 ng c3) (.slice none 0 0) [] (.slice none 0 0) [] [] := by
            subst hx
            exact ⟨heap_alloc_new wo _, Nat.le_refl _, World.ownsRow_nil _ _ _ _, World.ownsRow_nil _ _ _ _, nofun, nofun, (fun g hg => by cases hg), (fun e he => by cases he), below_new wo _⟩
          have HR0 := Lib.hid hR0
          have Hx := Lib.hid hx
          rw [hx]
          clear hR0 hx
          generalize wo.alloc (.cells #[.slice none 0 0, .slice A3 ng c3] 63) = wL at *
          go_loopw [12, 13] (fun t q wr => ∃ (i : Nat) (es' : List De) (Ad : Option Addr) (cd : Nat), i ≤ j ∧ q = .int .i64 (i : Int) ∧ Hid (es'.length = i) ∧ Hid (es'.map (·.k) = (srt (es.map (·.k))).take i) ∧ Hid (∀ e ∈ es', ∃ e0 ∈ es, e.k = e0.k ∧ e.t = e0.t ∧ e.n = e0.n) ∧ Hid (R9 wo wr x (.slice Ad i cd) (.slice A3 ng c3) t es' (.slice Ad i cd) es' es')) (fun _ q _ => j - (intOf q).toNat)
          case atStart => exact ⟨0, [], none, 0, Nat.zero_le _, rfl, Lib.hid rfl, Lib.hid (by simp), Lib.hid (fun e he => by cases he), HR0⟩
          case round =>
            clear HR0
            obtain ⟨i, es', Ad, cd, hi, rfl, Hel, Hek, Hes, HR9⟩ := hrel
            have hxc : wr.cell? ⟨x, 0, none⟩ = some (.slice Ad i cd) := cell_blk HR9.out.xb 0
            obtain ⟨At, ct, hvt, -, -, -, -, -, -⟩ := own_form HR9.out.ht
            rw [Hel.out] at hvt
            by_cases hij : i < j
            · have hks : i < (srt (es.map (·.k))).length := by rw [srt_length, HKL.out]; exact hij
              obtain ⟨e0, he0, hke⟩ : ∃ e ∈ es, e.k = (srt (es.map (·.k))).getD i [] := by
                have h1 := (srt_perm _).mem_iff.1 (getD_memK hks)
                obtain ⟨e, he, h2⟩ := List.mem_map.1 h1
                exact ⟨e, he, h2⟩
              obtain ⟨bk, ok, hA2⟩ := garg_lit HGk7.out (by omega)
              subst hA2
              have hkc := garg_cell (HGk7.out.below HR9.out.bel) hij
              rw [← hke] at hkc
              have hkl0 := Hkl.out e0 he0
              have htx0 := ((HD.out.txt e0 he0).below (HB7.out.trans (HR9.out.bel.mono HB7.out.size)))
              have hlen0 : e0.t.length ≤ 4096 := HL.out.t _ (List.mem_map_of_mem (f := De.dc) he0)
              have hnd : (es.map (·.k)).Nodup := by
                have h1 := HRr.out.2
                have h2 : keysD (es.map De.dc) = es.map (·.k) := by simp [keysD, De.dc]
                rw [h2] at h1
                exact h1.sublist (List.sublist_append_left _ _)
              have hC := below_new wr (.cells #[] 5)
              have hkc2 := (World.cell?_of_block (hC.block bk (World.block_lt_of_cell? wr _ hkc))).trans hkc
              have hlook := ((HM7.out.below HR9.out.bel).below hC).look Tryz.underlying80 (Hzv.out _) e0.k (by omega)
              rw [txF_hit es _ hnd e0 he0] at hlook
              have hO0 : (wr.alloc (.cells #[] 5)).ownsRow wr.heap.size 5 1 (.slice (some ⟨wr.heap.size, 0, none⟩) 0 0) 0 [] := World.ownsRow_made wr #[] 0 (Nat.le_refl _) (by decide) (by simp)
              have HO0 := Lib.hid hO0
              have HC := Lib.hid hC
              have Htx0 := Lib.hid htx0
              have Hsu := Lib.hid (show (srt (es.map (·.k))).take (i + 1) = (srt (es.map (·.k))).take i ++ [e0.k] by
                rw [List.take_succ_eq_append_getElem hks, hke]; simp [List.getD, List.getElem?_eq_getElem hks])
              have Hke0 := Lib.hid he0
              have hle0 : ¬ (4096 : Int) < (e0.n : Int) := by have := htx0.len; omega
              have hn0 : e0.n ≤ 4096 := by have := htx0.len; omega
              have HSt := Lib.hid (htx0.sl.below hC)
              subst hvt
              have Hke2 := Lib.hid hke
              clear hks hke he0 hkl0 htx0 hlen0 hnd hC hO0
              obtain ⟨ek, ea, en, ec, et⟩ := e0
              dsimp only at *
              go_wp2_with (at_builtin; first | (refine appE el_u8 rfl _ _ rfl wr.heap.size _ 0 [] rfl HO0.out ea en ec (VY et) rfl Htx0.out.nil (by rw [VY_length, Nat.mul_one]; exact Htx0.out.len) HSt.out (VY_one _) (by omega) HC.out.size ?_; intro v1 w4 hown1 hg1 hz1 hz2; rw [Nat.zero_add, List.nil_append] at hown1; obtain ⟨A4, c4, hv4, -, -, -, -, -, -⟩ := own_form hown1; subst hv4; have HO4 := Lib.hid hown1; have HB4 := Lib.hid (HC.out.grown hg1 HC.out.size (fun k hk => (World.ownsRow.lt HO0.out k hk).1)); have HR4 := Lib.hid (HR9.out.add (HC.out.grown hg1 HC.out.size (fun k hk => (World.ownsRow.lt HO0.out k hk).1)) ⟨ek, A4, en, c4, et⟩ (txt_own hown1 Htx0.out.lt).1 (txt_own (k := ek) hown1 Htx0.out.lt).2); have HT4 := Lib.hid (own_len HR4.out.ht Hel.out); have hs4 := HR4.out.bel.size; clear hown1 hg1 hz1 hz2) | (refine appE el_row rfl _ _ rfl wo.heap.size _ i (VT es') rfl (World.ownsRow.alloc HT4.out _) (some ⟨w4.heap.size, 0, none⟩) 1 1 [.slice A4 en c4] rfl (fun h => by cases h) rfl (sl_blk (heap_alloc_new w4 _)) (fun u hu => by simp at hu; subst hu; rfl) (by omega) (by simp; omega) ?_; intro v5 w5 hown5 hg5 hz1 hz2; obtain ⟨A5, c5, hv5, -, -, -, -, -, -⟩ := own_form hown5; subst hv5; have HR5 := Lib.hid ((HR4.out.below (below_new w4 (.cells #[.slice A4 en c4] 34))).appT (e := ⟨ek, A4, en, c4, et⟩) (own_len hown5 (congrArg (· + 1) Hel.out.symm)) hg5 hz2); clear hown5 hg5 hz1 hz2))
              have hx5 : w5.cell? ⟨x, 0, none⟩ = some (.slice Ad i cd) := cell_blk HR5.out.xb 0
              have hk5 : w5.cell? ⟨bk, ok + i, none⟩ = some (.string (ba ek)) := by
                have h := garg_cell (HGk7.out.below HR5.out.bel) hij
                rw [← Hke2.out] at h
                exact h
              have Xa : ∀ o, (w5.alloc o).cell? ⟨x, 0, none⟩ = some (.slice Ad i cd) := fun o => (World.cell?_of_block ((below_new w5 o).block x (World.block_lt_of_cell? _ _ hx5))).trans hx5
              have Xb : ∀ o, (w5.alloc o).drew.cell? ⟨x, 0, none⟩ = some (.slice Ad i cd) := fun o => Xa o
              have Xc : ∀ o, (w5.drew.alloc o).cell? ⟨x, 0, none⟩ = some (.slice Ad i cd) := fun o => Xa o
              have Xd : w5.drew.cell? ⟨x, 0, none⟩ = some (.slice Ad i cd) := hx5
              have Ka : ∀ o, (w5.alloc o).cell? ⟨bk, ok + i, none⟩ = some (.string (ba ek)) := fun o => (World.cell?_of_block ((below_new w5 o).block bk (World.block_lt_of_cell? _ _ hk5))).trans hk5
              have Kb : ∀ o, (w5.alloc o).drew.cell? ⟨bk, ok + i, none⟩ = some (.string (ba ek)) := fun o => Ka o
              have Kc : ∀ o, (w5.drew.alloc o).cell? ⟨bk, ok + i, none⟩ = some (.string (ba ek)) := fun o => Ka o
              have Kd : w5.drew.cell? ⟨bk, ok + i, none⟩ = some (.string (ba ek)) := hk5
              have hi9 : i ≤ 1099511627 := by omega
              have HRa : R9 wo (w5.alloc (.cells #[.string (ba ek), .slice A4 en c4] 36)).drew x (.slice Ad i cd) (.slice A3 ng c3) (.slice A5 (i + 1) c5) (es' ++ [⟨ek, A4, en, c4, et⟩]) (.slice Ad i cd) es' (es' ++ [⟨ek, A4, en, c4, et⟩]) := HR5.out.below (below_new w5 (.cells #[.string (ba ek), .slice A4 en c4] 36)).drew
              have HRb : R9 wo (w5.drew.alloc (.cells #[.string (ba ek), .slice A4 en c4] 36)) x (.slice Ad i cd) (.slice A3 ng c3) (.slice A5 (i + 1) c5) (es' ++ [⟨ek, A4, en, c4, et⟩]) (.slice Ad i cd) es' (es' ++ [⟨ek, A4, en, c4, et⟩]) := HR5.out.below ((below_drewN w5.heap.size w5 1).alloc (Nat.le_refl _) (.cells #[.string (ba ek), .slice A4 en c4] 36))
              have hba : (w5.alloc (.cells #[.string (ba ek), .slice A4 en c4] 36)).drew.heap[w5.heap.size]? = some (.cells #[.string (ba ek), .slice A4 en c4] 36 (0, 0)) := heap_alloc_new w5 _
              have hbb : (w5.drew.alloc (.cells #[.string (ba ek), .slice A4 en c4] 36)).heap[w5.heap.size]? = some (.cells #[.string (ba ek), .slice A4 en c4] 36 (0, 0)) := heap_alloc_new w5 _
              go_region_law (first
                | (refine stepDc (e := ⟨ek, A4, en, c4, et⟩) rfl _ _ rfl HRa rfl rfl hba Hel.out hi9 ?_; intro A7 c7 w7 hR7 hg7; have y0 : w7.cell? ⟨x, 0, none⟩ = some (.slice Ad i cd) := cell_blk hR7.xb 0; have y1 : w7.frozen? ⟨x, 0, none⟩ = false := frozen_blk hR7.xb 0)
                | (refine stepDc (e := ⟨ek, A4, en, c4, et⟩) rfl _ _ rfl HRb rfl rfl hbb Hel.out hi9 ?_; intro A7 c7 w7 hR7 hg7; have y0 : w7.cell? ⟨x, 0, none⟩ = some (.slice Ad i cd) := cell_blk hR7.xb 0; have y1 : w7.frozen? ⟨x, 0, none⟩ = false := frozen_blk hR7.xb 0))
              all_goals go_wp2_with fail
              all_goals go_roundw
              all_goals first | (exact ⟨i + 1, es' ++ [⟨ek, A4, en, c4, et⟩], A7, c7, by omega, by go_num, Lib.hid (by rw [List.length_append, Hel.out]; rfl), Lib.hid (by rw [List.map_append, Hek.out, Hsu.out]; rfl), Lib.hid (fun e he => by
                  rcases List.mem_append.1 he with he | he
                  · exact Hes.out e he
                  · have he : e = ⟨ek, A4, en, c4, et⟩ := by simpa using he
                    subst he
                    exact ⟨⟨ek, ea, en, ec, et⟩, Hke0.out, rfl, rfl, rfl⟩), Lib.hid (hR7.store _)⟩) | (simp [intOf]; omega)
            · obtain rfl : i = j := by omega
              clear HM7
              subst hvt
              have hekk := Hek.out
              rw [List.take_of_length_le (by rw [srt_length, HKL.out]; exact Nat.le_refl _)] at hekk
              have hnd : (es.map (·.k)).Nodup := by
                have h1 := HRr.out.2
                have h2 : keysD (es.map De.dc) = es.map (·.k) := by simp [keysD, De.dc]
                rw [h2] at h1
                exact h1.sublist (List.sublist_append_left _ _)
              have hsort := es_sorted hnd hekk Hes.out
              have hLs : Lite (es'.map De.dc) (srt gs) := by rw [hsort]; exact HL.out.perm (sortD_perm _) (srt_perm _)
              have hts : es'.map (·.t) = textsD (es'.map De.dc) := by simp [textsD, De.dc]
              have hfits := hLs.fits.t
              rw [← hts] at hfits
              have hRA := rarg_of_R9 HR9.out Hel.out (by omega) (fun e he => he) (fun e he => by have := hLs.t _ (List.mem_map_of_mem (f := De.dc) he); have h2 : e.t.length ≤ 4096 := this; omega)
              have HLo := Lib.hid (long7_any wr At _ ct _ hRA hfits)
              have HRM := Lib.hid (refm_of_R9 HR9.out Hel.out HB7.out.size (HGg7.out.below HR9.out.bel) (fun a ha => ⟨(HGe3.out a ha).1, Nat.lt_of_lt_of_le (HGe3.out a ha).2.1 (Nat.le_trans H37.out HR9.out.bel.size), (HGe3.out a ha).2.2⟩))
              have HBo := Lib.hid (body9_any HRM.out hLs)
              have Hsort := Lib.hid hsort
              have HLs := Lib.hid hLs
              have HBf := Lib.hid (HB7.out.trans (HR9.out.bel.mono HB7.out.size))
              have Htlt : Hid (∀ t ∈ textsD (es'.map De.dc), ∀ b ∈ t, b < 256) := Lib.hid (fun t ht => by
                rw [← hts] at ht
                obtain ⟨e, he, rfl⟩ := List.mem_map.1 ht
                exact (HR9.out.txt e he).1.lt)
              have Hrf := Lib.hid hLs.fits.t
              clear hnd hsort hLs hts hfits hRA hekk
              go_wp2_with fail
              go_at_call 41
              refine HLo.out.mono ?_
              rintro e w8 ⟨rfl, hw8⟩
              subst hw8
              clear HLo
              go_wp2_with fail
              go_at_call 42
              refine HBo.out.mono ?_
              rintro e w9 ⟨sa, hIs, v9, rfl, hO9, hB9⟩
              obtain ⟨A9, c9, hv9, -, -, -, -, -, -⟩ := own_form hO9
              subst hv9
              have hbl := bodyS_len (l := trn (rowT (textsD (es'.map De.dc))) sa) HLs.out (by rw [trn_length hIs]; exact Hrf.out) (fun v hv => rowT_lt _ Htlt.out v ((trn_perm (rowT_closed _) hIs).mem_iff.1 hv))
              obtain ⟨bl, hble⟩ : ∃ b, (bodyS (keysD (es'.map De.dc)) (srt gs) (trn (rowT (textsD (es'.map De.dc))) sa)).length = b := ⟨_, rfl⟩
              rw [hble] at hbl ⊢
              have hbl2 : ¬ (1048512 : Int) < (bl : Int) := by omega
              have HB9 := Lib.hid (below_step HBf.out hB9)
              have HRM9 := Lib.hid (HRM.out.below hB9)
              clear hble hO9 hB9 hIs HBo
              go_wp2_with fail
              go_ret2
              exact .inl ⟨HRr.out, x, es', rfl, Hsort.out, HRM9.out, HB9.out⟩
end Go.Proofs.YtphccomhggnccaaGreat
