/- The laws' helpers: hits, same, known. -/
import Derived.Test.YtphccomhggnccaaGreatFmRes
import Derived.Lib.SlBytesConst
namespace Go.Proofs.YtphccomhggnccaaGreat
set_option maxRecDepth 100000
set_option linter.unusedVariables false
set_option linter.unusedSimpArgs false
set_option maxRecDepth 100000
open Go.RowKit Fm Rank
theorem conv_bytes (W : World) (C : Array Value) (b n c : Nat) (hb : W.heap.size = b) :
    (convert 34 34 (.slice (some ⟨b, 0, none⟩) n c)).run Tryz.prog (W.alloc (.cells C 5)) = .ok (.slice (some ⟨b, 0, none⟩) n c) (W.alloc (.cells C 5 (C.size, C.size + 1))) := by
  subst hb
  exact Lib.run_convert_bytes_const W 34 5 C n c Tryz.underlying34 Tryz.underlying5
theorem getD_in2 {α : Type} {l : List (List α)} {i : Nat} (h : i < l.length) : l.getD i [] = l[i] := by simp [List.getD, List.getElem?_eq_getElem h]
theorem build_ok (w : World) (A : Option Addr) (n c : Nat) (ts : List (List Nat)) (hA : RArg w A n c ts) (hn : n ≤ 1099511627776) (hm : (rowT ts).length ≤ 65536) :
    Calls Tryz.prog 53 #[.slice A n c] w (BuiltX w ts) := by
  have hle : ∀ t ∈ ts, t.length ≤ 1099511627776 := by
    intro t ht
    obtain ⟨i, hi, rfl⟩ := List.getElem_of_mem ht
    have h1 := body_take_succ ts i hi
    have h2 := body_take_le ts (i + 1)
    rw [h1, List.length_append, txt_length, getD_in2 hi] at h2
    rw [rowT_length] at hm
    omega
  refine (build_fm w A n c ts hA hn hle).mono ?_
  rintro e w' (⟨_, h⟩ | ⟨h, _⟩)
  · exact h
  · omega
/-- the two texts that each law knows -/
def twoT : List (List Nat) := [[98, 97, 110, 97, 110, 97], [97, 110]]
theorem sl_blkf {w : World} {b : Nat} {xs : List Value} {cs : Array Value} {t : TypeId} {fr : Nat × Nat} (h : w.heap[b]? = some (.cells cs t fr)) (e : cs = xs.toArray) : Sl w (some ⟨b, 0, none⟩) xs := by
  subst e
  exact sl_blk h
end Go.Proofs.YtphccomhggnccaaGreat
