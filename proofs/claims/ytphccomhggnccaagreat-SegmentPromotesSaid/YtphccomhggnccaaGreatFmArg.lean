/- Arguments of the laws: rows of bytes, and rows of such rows. -/
import Derived.Test.YtphccomhggnccaaGreatFmBuild
import Derived.ChangeArms
import Derived.Deep.Matrix
namespace Go.Proofs.YtphccomhggnccaaGreat
set_option linter.unusedVariables false
set_option linter.unusedSimpArgs false
open Go.RowKit Fm Rank Go.ChangeShapes Go.WideShapes

theorem byte_wf {n : Int} (h : (Lit.int .u8 n).wf = true) : 0 ≤ n ∧ n < 256 := by
  simp [Lit.wf, IntKind.min, IntKind.max, IntKind.signed, IntKind.bits] at h
  omega
theorem rarg_of_trod {H : Type} {enc : TypeId × Value → H} {w : World} {base : Nat} {held : Bool} {A : Option Addr} {len cap : Nat} {d : DataW H} {ps : List MemPlace}
    (h : DataW.Trod enc Tryz.prog w base (fun _ => true) held 47 (.slice A len cap) d ps) : ∃ ts, RArg w A len cap ts := by
  obtain ⟨fuel, hf⟩ := h
  rcases Go.Deep.open_int_rows Tryz.underlying47 Tryz.underlying34 Tryz.underlying5 (by kernel_rfl) (by kernel_rfl) hf with ⟨hcs, _⟩ | ⟨a, l, c, Ad, L, C, Z, hcs, _, hlc, hcm, _, hr⟩
  · simp [Value.cells] at hcs
    obtain ⟨rfl, rfl, rfl⟩ := hcs
    exact ⟨[], rfl, by decide, fun t ht => (by cases ht), fun t ht => (by cases ht), fun d hd => absurd hd (Nat.not_lt_zero _)⟩
  · simp [Value.cells] at hcs
    obtain ⟨rfl, rfl, rfl⟩ := hcs
    have hb : ∀ r, r < cap → ∀ n ∈ Z r, 0 ≤ n ∧ n < 256 := fun r hrc n hn => byte_wf ((hr r hrc).2.2.2.2.1 n hn)
    refine ⟨(List.range len).map fun r => ((Z r).take (L r)).map Int.toNat, by simp, by unfold maxLen at hcm; omega, ?_, ?_, ?_⟩
    · intro t ht
      obtain ⟨r, hrl, rfl⟩ := List.mem_map.1 ht
      have h3 := (hr r (by have := List.mem_range.1 hrl; omega)).2.2
      have h4 := h3.1
      have h5 := h3.2.1
      unfold maxLen at h4
      simp only [List.length_map, List.length_take]
      omega
    · intro t ht b hbm
      obtain ⟨r, hrl, rfl⟩ := List.mem_map.1 ht
      obtain ⟨n, hn, rfl⟩ := List.mem_map.1 hbm
      have := hb r (by have := List.mem_range.1 hrl; omega) n (List.mem_of_mem_take hn)
      omega
    · intro dd hd
      obtain ⟨h1, h2, h3, h4, h5, h6, h7⟩ := hr dd (by omega)
      have e : ((List.range len).map fun r => ((Z r).take (L r)).map Int.toNat).getD dd [] = ((Z dd).take (L dd)).map Int.toNat := by
        simp [List.getD, hd]
      refine ⟨a, Ad dd, L dd, C dd, rfl, h1, ?_, h2, h6, ?_⟩
      · rw [e]; simp; omega
      · rw [e]
        refine ⟨fun hn => ?_, fun a' ha j u hu => ?_⟩
        · have := h6 hn
          have hz : (Z dd).length = 0 := by omega
          rw [List.eq_nil_of_length_eq_zero hz]; simp [VY]
        · simp only [VY, List.map_map] at hu
          rw [List.getElem?_map, List.getElem?_take] at hu
          split at hu
          · rename_i hj
            have hjz : j < (Z dd).length := by omega
            rw [List.getElem?_eq_getElem hjz] at hu
            simp only [Option.map_some, Option.some.injEq, Function.comp] at hu
            rw [(h7 a' ha).2 j (by omega), ← hu]
            simp only [List.getD, List.getElem?_eq_getElem hjz, Option.getD_some]
            rw [Int.toNat_of_nonneg (hb dd (by omega) _ (List.getElem_mem hjz)).1]
          · simp at hu
/-- a slice of bytes that came in -/
structure YArg (w : World) (A : Option Addr) (n c : Nat) (p : List Nat) : Prop where
  sl : Sl w A (VY p)
  len : p.length = n
  cap : n ≤ c
  nil : A = none → c = 0
  lt : ∀ b ∈ p, b < 256
theorem yarg_of_row {w : World} {a : Option Addr} {len cap : Nat} {zs : List Int}
    (h : (a = none ∧ len = 0 ∧ cap = 0 ∧ zs = []) ∨
      ∃ x, a = some x ∧ len ≤ cap ∧ cap ≤ maxLen ∧ zs.length = cap ∧ (∀ i, i < zs.length → w.cell? (x.add i) = some (.int .u8 (zs.getD i 0))) ∧ ∀ n ∈ zs, (Lit.int .u8 n).wf = true) :
    ∃ l, YArg w a len cap l := by
  rcases h with ⟨rfl, rfl, rfl, rfl⟩ | ⟨x, rfl, hlen, _, hz, hc, hw⟩
  · exact ⟨[], sl_nil w, rfl, Nat.le_refl _, fun _ => rfl, fun x hx => (by cases hx)⟩
  · have hb : ∀ n ∈ zs, 0 ≤ n ∧ n < 256 := fun n hn => byte_wf (hw n hn)
    refine ⟨(zs.take len).map Int.toNat, ⟨fun e => (by cases e), fun a ha j u hu => ?_⟩, by simp; omega, hlen, fun e => (by cases e), fun y hy => ?_⟩
    · cases ha
      simp only [VY, List.map_map] at hu
      rw [List.getElem?_map, List.getElem?_take] at hu
      split at hu
      · rename_i hj
        have hjz : j < zs.length := by omega
        rw [List.getElem?_eq_getElem hjz] at hu
        simp only [Option.map_some, Option.some.injEq, Function.comp] at hu
        rw [hc j hjz, ← hu]
        simp only [List.getD, List.getElem?_eq_getElem hjz, Option.getD_some]
        rw [Int.toNat_of_nonneg (hb _ (List.getElem_mem hjz)).1]
      · simp at hu
    · obtain ⟨n, hn, rfl⟩ := List.mem_map.1 hy
      have := hb n (List.mem_of_mem_take hn)
      omega
end Go.Proofs.YtphccomhggnccaaGreat
