/- A region that draws its order, in a round of a range over a function: by the plain calculus' words. -/
import Derived.Test.YtphccomhggnccaaGreatGen
import Derived.Deep.RegionHeld3
import Derived.OrdersIn
import Derived.RangeFuncCalls
namespace Go.Proofs.YtphccomhggnccaaGreat
set_option linter.unusedVariables false
set_option linter.unusedSimpArgs false

/-- Q, and no outgrowing -/
def NoOut (Q : Exit → Act → World → Prop) : Exit → Act → World → Prop
  | .outgrown, _, _ => False
  | e, a, w => Q e a w
theorem NoOut.imp {Q : Exit → Act → World → Prop} : ∀ (e : Exit) (a : Act) (w : World), NoOut Q e a w → Q e a w := fun e a w h => by
  cases e <;> first | exact h | exact (h : False).elim
theorem noOut_lets (Q : Exit → Act → World → Prop) : ¬ LetsOut (NoOut Q) := fun ⟨_, _, h⟩ => h
theorem rowsIn_wide {l n : Nat} {P : Program} {row : String} {args : Array Value} {w : World} {R : Value → World → Prop} (h : Rows P row args w R) : RowsIn (Fence.wide.inRound l) n P row args w R := fun c cs _ =>
  let ⟨v, w', r, s⟩ := h c cs
  ⟨v, w', r, stepsIn_wide.2 s⟩
theorem operIn_of {l n : Nat} {P : Program} {o : Oper} {a : Act} {w : World} {K : Act → World → Prop} {Q : Exit → Act → World → Prop} (hd : ∀ c, o.op ≠ .defer c) (h : o.wp P a w K (NoOut Q)) : o.wpIn (Fence.wide.inRound l) n P a w K Q := by
  refine ⟨fun _ _ => trivial, ?_⟩
  rw [Oper.semAt_eq _ _ _ hd]
  unfold Oper.wp at h
  generalize (execOp a.eval o).run P w = r at *
  have hdep : ∀ b : Prop, ((Fence.wide.inRound l).depth.isSome = true → b) := fun b e => by simp [Fence.wide] at e
  cases r with
  | ok x w' =>
    cases x
    case value v => exact h
    case skip => exact h
    case defer d => exact h
    case enter f args =>
      refine ⟨hdep _, (CallsIn.inRound l (callsIn_wide.2 h)).mono ?_⟩
      intro e w'' he
      cases e with
      | returned v => exact he
      | panicked c => exact he
      | outgrown => exact absurd he (noOut_lets Q)
    case row row args => exact ⟨hdep _, rowsIn_wide h⟩
    all_goals exact (h : False).elim
  | halt x w' =>
    cases x
    case panic v => exact h
    all_goals exact (h : False).elim
theorem anyIn_of {l n : Nat} {P : Program} {md : Region.Mode} {ops : Array Oper} {Q : Exit → Act → World → Prop} (hd : ∀ o ∈ ops, ∀ c, o.op ≠ .defer c) : ∀ (fuel : Nat) (listed : Array Bool) (a : Act) (w : World),
    wpAny P md ops (NoOut Q) fuel listed a w → wpAnyIn (Fence.wide.inRound l) n P md ops Q fuel listed a w
  | 0, _, _, _, h => h
  | fuel + 1, listed, a, w, h => ⟨h.1, fun i hi => by
      have h2 := h.2 i hi
      unfold wpOp at h2
      unfold wpOpIn
      cases ho : ops[i]? with
      | none =>
        rw [ho] at h2
        exact anyIn_of hd fuel _ _ _ h2
      | some o =>
        rw [ho] at h2
        simp only at h2 ⊢
        by_cases hw : Region.wanted o (yielded ops a.tmps) = true
        · rw [if_pos hw] at h2 ⊢
          rcases h2 with h2 | h2
          · exact Oper.wpIn_mono (fun a w h => anyIn_of hd fuel _ a w h) (operIn_of (hd o (Array.mem_of_getElem? ho)) h2)
          · exact absurd h2.2 (noOut_lets Q)
        · rw [if_neg hw] at h2 ⊢
          exact ⟨fun _ _ => trivial, anyIn_of hd fuel _ _ _ h2⟩⟩
/-- no operation is a defer statement -/
def noDefer (ops : Array Oper) : Bool := ops.all fun o => match o.op with | .defer _ => false | _ => true
theorem noDefer_spec {ops : Array Oper} (h : noDefer ops = true) : ∀ o ∈ ops, ∀ c, o.op ≠ .defer c := by
  intro o ho c e
  unfold noDefer at h
  rw [Array.all_eq_true'] at h
  have := h o ho
  rw [e] at this
  cases this
/-- the beginning -/
theorem round_held {l n : Nat} {P : Program} {id : Nat} {ops : Array Oper} {Q : Exit → Act → World → Prop} {a : Act} {w : World} (S : World → Prop) (hm : P.follows .mixedOrders = true) (hd : noDefer ops = true) (hS : S w.drew)
    (h : S w.drew → wpAnyH P .any ops (NoOut Q) S ops.size (Array.replicate ops.size false) a w.drew) : (Code.region id ops true).wpIn (Fence.wide.inRound l) n P Q a w :=
  wpIn_region_any hm (anyIn_of (noDefer_spec hd) _ _ _ _ (wpAny_of_held _ _ _ _ (h hS)))
end Go.Proofs.YtphccomhggnccaaGreat
