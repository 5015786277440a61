/- packed: Words; rows of numbers that the call owns. -/
import Derived.Test.YtbpnidmhbflgfaaPkNew
namespace Go.Proofs.Ytbpnidmhbflgfaa
set_option linter.unusedVariables false
set_option linter.unusedSimpArgs false
open Go.RowKit PkMath

/-- numbers of the kind uint64, as values -/
def V (xs : List Nat) : List Value := xs.map fun x : Nat => Value.int .u64 (x : Int)
theorem V_length (xs : List Nat) : (V xs).length = xs.length := by simp [V]
theorem V_get (xs : List Nat) (j : Nat) (h : j < xs.length) : (V xs)[j]? = some (.int .u64 ((xs.getD j 0 : Nat) : Int)) := by
  simp [V, List.getElem?_eq_getElem h]
theorem V_one (xs : List Nat) : ∀ u ∈ V xs, u.oneCell' = true := by
  intro u hu
  obtain ⟨x, _, rfl⟩ := List.mem_map.1 hu
  rfl
/-- the call hands back a row of its own, and nothing that was there has turned -/
def OwnRes (w : World) (xs : List Nat) (e : Ending) (w' : World) : Prop :=
  ∃ v, e = .returned v ∧ w'.ownsRow w.heap.size 25 1 v xs.length (V xs) ∧ Below w.heap.size w w'

theorem app_u64 {w : World} {ops : Array Oper} {rest : List Oper} {o : Oper} {a : Act} {Q : Exit → Act → World → Prop} (hgd : o.guard = none) (s x : Operand)
    (ho : o.op = .call { callee := .builtin .append, args := #[s, x], argTypes := #[22, 22] })
    (base : Nat) (v : Value) (xs : List Nat) (hs : a.eval s = v) (hown : w.ownsRow base 25 1 v xs.length (V xs))
    (A : Option Addr) (m c : Nat) (news : List Nat) (hx : a.eval x = .slice A m c) (hc : A = none → c = 0) (hl : news.length = m) (hnews : Sl w A (V news))
    (h63 : xs.length + m ≤ 1099511627776) (hbase : base ≤ w.heap.size)
    (h : ∀ v' w', w'.ownsRow base 25 1 v' (xs ++ news).length (V (xs ++ news)) → w.grownBy w' v.ownBlock → (v' = .slice none 0 0 ↔ v = .slice none 0 0 ∧ m = 0) → wpList Try.prog ops Q rest (a.put o.dst v') w') : wpList Try.prog ops Q (o :: rest) a w := by
  obtain ⟨i0, hi, hz0, hz1, hz2⟩ := info_parts info_u64
  refine wpList_append_sl hgd s x 22 ho base 25 i0 (.int .u64 0) 8 Try.underlying22 hi hz0 hz1 hz2 rfl v xs.length (V xs) hs hown A m c (V news) hx hc (by rw [V_length]; exact hl) hnews (V_one _) (by unfold maxLen; omega) (by omega) hbase ?_
  intro v' w' h1 h2 h3
  refine h v' w' ?_ h2 h3
  rw [List.length_append, hl]
  simpa [V] using h1

theorem clone_some (a : Addr) (xs : List Nat) (n c : Nat) (w : World) (hn : xs.length = n) (hs : Sl w (some a) (V xs)) (hlen : n ≤ 1099511627776) :
    Calls Try.prog 29 #[.slice (some a) n c] w (OwnRes w xs) := by
  have heq := fun wx : World => Lib.run_eql_slice_nil (P := Try.prog) wx 22 25 (some a) n c 0 0 Try.underlying22
  simp only [Option.isNone_some] at heq
  go_enter Try.func29, Try.ntmps29
  go_wp2_with (at_builtin; refine app_u64 rfl _ _ rfl w.heap.size _ [] rfl (World.ownsRow_made w #[] 0 (Nat.le_refl _) (by decide) (by simp)) (some a) n c xs rfl (fun h => by cases h) hn (hs.below ((Below.refl _ w).alloc (Nat.le_refl _) _)) (by simpa using hlen) (by simp) ?_; intro v' w1 hown1 hgrow _)
  go_ret
  refine ⟨v', rfl, by simpa using hown1, ?_⟩
  exact ((Below.refl _ w).alloc (Nat.le_refl _) _).grown hgrow (by simp) (fun k hk => by have hk' : some w.heap.size = some k := hk; injection hk' with hk'; omega)

theorem words_nil (w : World) : Calls Try.prog 17 #[.pointer none] w fun e w' => e = .returned (.slice none 0 0) ∧ w = w' := by
  go_enter Try.func17, Try.ntmps17
  go_wp2
  go_ret
  exact ⟨rfl, rfl⟩
/-- Words: the digits, in a row of its own -/
theorem words_in {w : World} {b g k : Nat} {l : List Nat} (h : PArr w b g k l) :
    Calls Try.prog 17 #[.pointer (some ⟨b, 0, none⟩)] w (OwnRes w (canon k l)) := by
  have h2 := h.c2
  have hsl : Sl w (some ⟨g, 0, none⟩) (V (canon k l)) := sl_blk h.ws
  have hlen : (canon k l).length ≤ 1099511627776 := by
    have hkl : k * l.length ≤ 64 * 1048576 := Nat.mul_le_mul h.k64 h.len
    rw [canon_length]; omega
  have Hl := Lib.hid hlen
  clear hlen
  go_enter Try.func17, Try.ntmps17
  go_wp2_with fail
  refine (clone_some _ (canon k l) _ _ _ rfl hsl Hl.out).mono ?_
  rintro e w' ⟨v, rfl, hown, hb⟩
  go_wp2_with fail
  go_ret
  exact ⟨v, rfl, hown, hb⟩

end Go.Proofs.Ytbpnidmhbflgfaa
