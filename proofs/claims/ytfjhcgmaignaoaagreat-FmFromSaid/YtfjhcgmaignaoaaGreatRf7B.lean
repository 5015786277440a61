/- haystackref7: Locate. -/
import Derived.Test.YtfjhcgmaignaoaaGreatRf7
namespace Go.Proofs.YtfjhcgmaignaoaaGreat
set_option linter.unusedVariables false
set_option linter.unusedSimpArgs false
set_option maxRecDepth 100000
open Go.RowKit Fm Rank

theorem locF_append (P : List Nat) (a b : List (List Nat)) : ∀ d0, locF d0 P (a ++ b) = locF d0 P a ++ locF (d0 + a.length) P b := by
  induction a with
  | nil => intro d0; simp [locF]
  | cons t a ih => intro d0; simp only [List.cons_append, locF, ih, List.length_cons, List.append_assoc]; rw [show d0 + 1 + a.length = d0 + (a.length + 1) by omega]
theorem locF_length (P : List Nat) (ts : List (List Nat)) : ∀ d0, (locF d0 P ts).length ≤ (body ts).length := by
  induction ts with
  | nil => intro d0; simp [locF]
  | cons t a ih =>
    intro d0
    rw [locF, List.length_append, List.length_map, body_cons, List.length_append, txt_length]
    have h1 := List.length_filter_le (fun f => P.isPrefixOf (t.drop f)) (List.range t.length)
    rw [List.length_range] at h1
    have := ih (d0 + 1)
    omega
/-- what is found in the first d texts -/
def fnd7 (ts : List (List Nat)) (p : List Nat) (d : Nat) : List (Nat × Nat) := if p = [] then [] else locF 0 p (ts.take d)
theorem fnd7_succ (ts : List (List Nat)) (p : List Nat) (d : Nat) (hd : d < ts.length) : fnd7 ts p (d + 1) = fnd7 ts p d ++ (atL (ts.getD d []) p).map fun f => (d, f) := by
  unfold fnd7 atL
  by_cases hp : p = []
  · simp [hp]
  · rw [if_neg hp, if_neg hp, if_neg hp, List.take_succ_eq_append_getElem hd, locF_append]
    have e : ts.getD d [] = ts[d] := by simp [List.getD, List.getElem?_eq_getElem hd]
    rw [e, List.length_take, Nat.min_eq_left (by omega), Nat.zero_add]
    simp [locF]
theorem fnd7_all (ts : List (List Nat)) (p : List Nat) : fnd7 ts p ts.length = found ts p := by
  unfold fnd7 found
  rw [List.take_length]
theorem fnd7_length (ts : List (List Nat)) (p : List Nat) (d : Nat) : (fnd7 ts p d).length ≤ (body (ts.take d)).length := by
  unfold fnd7
  split
  · simp
  · exact locF_length p _ 0
theorem IH_append (a b : List (Nat × Nat)) : IH (a ++ b) = IH a ++ IH b := by simp [IH]
theorem rarg_lt {w : World} {A : Option Addr} {n c : Nat} {ts : List (List Nat)} (h : RArg w A n c ts) (d : Nat) : ∀ x ∈ ts.getD d [], x < 256 := by
  intro x hx
  rcases Nat.lt_or_ge d ts.length with hd | hd
  · have e : ts.getD d [] = ts[d] := by simp [List.getD, List.getElem?_eq_getElem hd]
    rw [e] at hx
    exact h.lt _ (List.getElem_mem hd) x hx
  · simp [List.getD, List.getElem?_eq_none hd] at hx
theorem app_hit_mv {w : World} {ops : Array Oper} {rest : List Oper} {o : Oper} {a : Act} {Q : Exit → Act → World → Prop} (hgd : o.guard = none) (s x : Operand)
    (ho : o.op = .call { callee := .builtin .append, args := #[s, x], argTypes := #[46, 46] })
    (base : Nat) (v : Value) (xs : List (Int × Int)) (hs : a.eval s = v) (hown : w.ownsRow base 54 2 v xs.length (VH xs))
    (ad : Addr) (m c : Nat) (news : List (Int × Int)) (hx : a.eval x = .slice (some ad) m c) (hl : news.length = m) (hnews : Sl w (some ad) (VH news))
    (h63 : xs.length + m ≤ 1099511627776) (hbase : base ≤ w.heap.size)
    (h : ∀ v' w', w'.ownsRow base 54 2 v' (xs ++ news).length (VH (xs ++ news)) → w.grownBy w' v.ownBlock → (v'.ownBlock = v.ownBlock ∨ v'.ownBlock = some w.heap.size) → wpList Tryz.prog ops Q rest (a.put o.dst v') w') : wpList Tryz.prog ops Q (o :: rest) a w := by
  obtain ⟨i0, hi, hz0, hz1, hz2⟩ := info_parts info_hit
  refine wpList_append_own_at w hgd s x 46 ho base 54 i0 (.agg #[.int .i64 0, .int .i64 0]) 2 16 Tryz.underlying46 hi hz0 hz1 hz2 rfl (by decide) v xs.length (VH xs) hs hown ad m c (VH news) hx (by rw [VH_length]; omega) (hnews.cell ad rfl) (VH_one _) (by unfold maxLen; omega) (by omega) hbase ?_
  intro v' w' h1 h2 _ h4
  refine h v' w' ?_ h2 h4
  rw [List.length_append, hl, VH_append]
  exact h1
/-- an own row lies apart from a slice that is read -/
def ApartB (v : Value) (X : Option Addr) : Prop := ∀ k, v.ownBlock = some k → ∀ a, X = some a → a.block ≠ k
theorem ApartB.next {v v' : Value} {X : Option Addr} {s : Nat} (h : ApartB v X) (hv : v'.ownBlock = v.ownBlock ∨ v'.ownBlock = some s) (hX : ∀ a, X = some a → a.block < s) : ApartB v' X := fun k hk a ha => by
  rcases hv with e | e
  · exact h k (e ▸ hk) a ha
  · rw [hk] at e
    injection e with e
    have := hX a ha
    omega
theorem Sl.apart {w w' : World} {X : Option Addr} {xs : List Value} {v : Value} (h : Sl w X xs) (hg : w.grownBy w' v.ownBlock) (hn : ApartB v X) : Sl w' X xs :=
  h.grown hg fun a ha _ e => hn a.block e.symm a ha rfl
set_option maxHeartbeats 8000000 in
theorem locate7_any (w : World) (A B : Option Addr) (n c m cp : Nat) (ts : List (List Nat)) (p : List Nat) (hA : RArg w A n c ts) (hB : Sl w B (VY p)) (hm : p.length = m) (hm2 : m ≤ 65536) (hp : ∀ x ∈ p, x < 256) (hb : (body ts).length ≤ 65535) :
    Calls Tryz.prog 21 #[.slice A n c, .slice B m cp] w (Hits w (IH (found ts p))) := by
  have HA := Lib.hid hA
  have Hl := Lib.hid hA.len
  have HBp := Lib.hid hB
  have Hm := Lib.hid hm
  have Hp := Lib.hid hp
  have Hb := Lib.hid hb
  have hn : n ≤ 65535 := by have := len_le_body ts; have := hA.len; omega
  have hall := fnd7_all ts p
  rw [hA.len] at hall
  have Hall := Lib.hid hall
  clear hA hB hm hp hb hall
  go_enter Tryz.func21, Tryz.ntmps21
  go_wp2_with fail
  go_loopw [5, 6] (fun v q wr => ∃ (d : Nat) (acc : List (Nat × Nat)), d ≤ n ∧ q = .int .i64 (d : Int) ∧ Hid (acc = fnd7 ts p d) ∧ wr.ownsRow w.heap.size 54 2 v (IH acc).length (VH (IH acc)) ∧ Below w.heap.size w wr) (fun _ q _ => n - (intOf q).toNat)
  case atStart => exact ⟨0, [], Nat.zero_le _, rfl, Lib.hid (by simp [fnd7, locF]), World.ownsRow_nil _ _ _ _, Below.refl _ _⟩
  case round =>
    obtain ⟨d, acc, hd, rfl, Hacc, hown, hB⟩ := hrel
    obtain ⟨A9, c9, hv9⟩ := own_form2 hown
    subst hv9
    by_cases hdn : d < n
    · have hdl : d < ts.length := by rw [Hl.out]; exact hdn
      obtain ⟨a, Ad, L, C, rfl, hcell0, hL, hLC, hnil, hS⟩ := HA.out.row d hdn
      have hcw := (World.cell?_of_block (hB.block _ (World.block_lt_of_cell? w _ hcell0))).trans hcell0
      have hsu := body_take_succ ts d hdl
      have hle := body_take_le ts (d + 1)
      have hlen := congrArg List.length hsu
      rw [List.length_append, txt_length, hL] at hlen
      have hfl := fnd7_length ts p d
      have Hlim := Lib.hid (show acc.length + L + 1 ≤ 65535 by have := Hb.out; rw [Hacc.out]; omega)
      have HAt := Lib.hid (at7_any wr Ad B L m C cp (ts.getD d []) p (hS.below hB) (HBp.out.below hB) hL Hm.out (by have := Hlim.out; omega) hm2 hLC (rarg_lt HA.out d) Hp.out)
      have Hsucc := Lib.hid (fnd7_succ ts p d hdl)
      have hatl : (atL (ts.getD d []) p).length ≤ L := by
        unfold atL
        split
        · simp
        · have := List.length_filter_le (fun f => p.isPrefixOf ((ts.getD d []).drop f)) (List.range (ts.getD d []).length)
          rw [List.length_range] at this
          rw [← hL]; exact this
      have Hatl := Lib.hid hatl
      have Hown := Lib.hid hown
      have HB := Lib.hid hB
      clear hsu hle hlen hfl hL hnil hS hatl hown hB hcell0
      generalize atL (ts.getD d []) p = xs at *
      go_wp2_with fail
      go_at_call 40
      refine HAt.out.mono ?_
      rintro e w1 ⟨X, cx, rfl, hSx, hge, hB1⟩
      have HSx := Lib.hid hSx
      have HB1 := Lib.hid (below_step HB.out hB1)
      have hown1 := own_below Hown.out hB1
      have hxl : xs.length ≤ 65535 := by have := Hatl.out; have := Hlim.out; omega
      have hap : ApartB (.slice A9 (IH acc).length c9) X := fun k hk a ha e => by
        have h1 := World.ownsRow.lt Hown.out k hk
        have h2 := hge a ha
        omega
      have HXb := Lib.hid (show ∀ a, X = some a → xs ≠ [] → a.block < w1.heap.size from fun a ha hne => HSx.out.lt a ha (fun e => hne (by cases xs with | nil => rfl | cons => simp [VI, NI] at e)))
      clear HAt hSx hB1 hge
      go_wp2_with fail
      go_loopw [5, 8] (fun v q wr => ∃ i : Nat, i ≤ xs.length ∧ q = .int .i64 (i : Int) ∧ wr.ownsRow w.heap.size 54 2 v (IH (acc ++ (xs.take i).map fun f => (d, f))).length (VH (IH (acc ++ (xs.take i).map fun f => (d, f)))) ∧ Sl wr X (VI (NI xs)) ∧ ApartB v X ∧ w1.heap.size ≤ wr.heap.size ∧ Below w.heap.size w wr) (fun _ q _ => xs.length - (intOf q).toNat)
      case atStart => exact ⟨0, Nat.zero_le _, rfl, by simpa using hown1, HSx.out, by simpa using hap, Nat.le_refl _, HB1.out⟩
      case round =>
        clear hown1 hap
        obtain ⟨i, hi, rfl, hown, hSX, hap, hsz, hB⟩ := hrel
        obtain ⟨A8, c8, hv8⟩ := own_form2 hown
        subst hv8
        by_cases hil : i < xs.length
        · obtain ⟨bx, ox, hX, _⟩ := hSX.lit (j := 0) (by rw [VI_length, NI_length]; omega)
          subst hX
          have hcx := sl_cellN hSX (i := i) hil
          have hxb : bx < w1.heap.size := HXb.out _ rfl (fun e => by rw [e] at hil; exact absurd hil (Nat.not_lt_zero _))
          have Htk := Lib.hid (show IH (acc ++ (xs.take (i + 1)).map fun f => (d, f)) = IH (acc ++ (xs.take i).map fun f => (d, f)) ++ [((d : Int), ((xs.getD i 0 : Nat) : Int))] by
            rw [List.take_succ_eq_append_getElem hil, List.map_append, ← List.append_assoc, getD_at hil, IH_append]
            rfl)
          have hal : (IH (acc ++ (xs.take i).map fun f => (d, f))).length + 1 ≤ 1099511627776 := by
            rw [IH_length, List.length_append, List.length_map, List.length_take]
            have := Hlim.out
            omega
          have j1 : (i : Int) < (xs.length : Int) := by omega
          have j2 : (0 : Int) ≤ (i : Int) := by omega
          have hbs := hB.size
          clear hil
          generalize xs.getD i 0 = f at *
          generalize IH (acc ++ (xs.take i).map fun f => (d, f)) = ys at *
          go_wp2_with (at_builtin; refine app_hit_mv rfl _ _ rfl w.heap.size _ ys rfl (World.ownsRow.alloc hown _) ⟨wr.heap.size, 0, none⟩ 1 1 [((d : Int), (f : Int))] rfl rfl (sl_blk (heap_alloc_new wr _)) hal (by simp; omega) ?_; intro v6 w6 hown6 hg6 hmv6)
          have hB6 : Below w.heap.size w w6 := (hB.alloc hB.size _).grown hg6 (by simp; omega) (fun k hk => (World.ownsRow.lt hown k hk).1)
          have hSX6 : Sl w6 (some ⟨bx, ox, none⟩) (VI (NI xs)) := (hSX.below ((Below.refl _ wr).alloc (Nat.le_refl _) _)).apart hg6 hap
          have hap6 : ApartB v6 (some ⟨bx, ox, none⟩) := hap.next hmv6 (fun a ha => by cases ha; simp; omega)
          have hsz6 := hg6.size
          simp at hsz6
          rw [← Htk.out] at hown6
          go_roundw
          case rel => exact ⟨i + 1, by omega, by go_num, hown6, hSX6, hap6, by omega, hB6⟩
          case measure => simp [intOf]; omega
        · obtain rfl : xs.length = i := by omega
          rw [List.take_length] at hown
          have Hac := Lib.hid (show acc ++ (xs.map fun f => (d, f)) = fnd7 ts p (d + 1) by rw [Hsucc.out, Hacc.out])
          rw [Hac.out] at hown
          rw [List.take_length, Hac.out]
          go_wp2_with fail
          go_roundw
          case rel => exact ⟨d + 1, fnd7 ts p (d + 1), by omega, by go_num, Lib.hid rfl, hown, hB⟩
          case measure => simp [intOf]; omega
    · obtain rfl : n = d := by omega
      have HE := Lib.hid (show acc = found ts p by rw [Hacc.out, Hall.out])
      have hSl : Sl wr A9 (VH (IH acc)) := by
        rcases hown.2 with ⟨e1, e2⟩ | ⟨g, cap, cur, e1, _, _⟩
        · injection e1 with q1 q2 q3
          subst q1
          have h0 : (IH acc) = [] := List.eq_nil_of_length_eq_zero q2
          rw [h0]; exact sl_nil _
        · injection e1 with q1 q2 q3
          subst q1
          exact ⟨fun h => (by cases h), fun a ha j u hu => by cases ha; exact hown.cells (g := g) rfl j u hu⟩
      go_wp2_with fail
      go_ret
      rw [← HE.out]
      exact ⟨_, _, rfl, hSl, hB⟩
end Go.Proofs.YtfjhcgmaignaoaaGreat
