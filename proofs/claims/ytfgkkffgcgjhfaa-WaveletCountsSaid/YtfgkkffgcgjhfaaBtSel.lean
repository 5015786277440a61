/- bits: Select. -/
import Derived.Test.YtfgkkffgcgjhfaaBtWalkB
namespace Go.Proofs.Ytfgkkffgcgjhfaa
set_option linter.unusedVariables false
set_option linter.unusedSimpArgs false
open Go.RowKit PkMath Pop Rank BtMath

theorem slI_neg {l : List Bool} {c : Bool} {k : Int} (h : k < 0) : slI l c k = -1 := by unfold slI; rw [if_pos h]
theorem slI_none {l : List Bool} {c : Bool} {k : Nat} (h : rk l c l.length ≤ k) : slI l c (k : Int) = -1 := by
  unfold slI; rw [if_neg (by omega), Int.toNat_natCast, sl_none.2 h]
theorem slI_some {l : List Bool} {c : Bool} {k p : Nat} (h : sl l c k = some p) : slI l c (k : Int) = (p : Int) := by
  unfold slI; rw [if_neg (by omega), Int.toNat_natCast, h]
def IntBelow (r : Int) (w : World) (e : Ending) (w' : World) : Prop := e = .returned (.int .i64 r) ∧ Below w.heap.size w w'

theorem below3 (w : World) (o1 o2 o3 : Obj) (n : Nat) : Below w.heap.size w ((((w.alloc o1).alloc o2).alloc o3).drewN n) :=
  ((((Below.refl w.heap.size w).alloc (Nat.le_refl _) o1).alloc (by simp) o2).alloc (by simp; omega) o3).trans (below_drewN _ _ _)
theorem new1 (w : World) (o1 o2 o3 : Obj) : (((w.alloc o1).alloc o2).alloc o3).heap[w.heap.size]? = some o1 := blk_alloc (blk_alloc (heap_alloc_new w o1) o2) o3
theorem new2 (w : World) (o1 o2 o3 : Obj) : (((w.alloc o1).alloc o2).alloc o3).heap[w.heap.size + 1]? = some o2 := by
  have := heap_alloc_new (w.alloc o1) o2
  exact blk_alloc (by simpa using this) o3
theorem new3 (w : World) (o1 o2 o3 : Obj) : (((w.alloc o1).alloc o2).alloc o3).heap[w.heap.size + 2]? = some o3 := by
  have := heap_alloc_new ((w.alloc o1).alloc o2) o3
  simpa using this
theorem select_nil (c : Bool) (k : Int) (w : World) : Calls Try.prog 18 #[.pointer none, .bool c, .int .i64 k] w (IntBelow (-1) w) := by
  by_cases hk : k < 0
  · have hd : decide (k < 0) = true := by simpa using hk
    go_enter Try.func18, Try.ntmps18
    go_wp2_with fail
    go_quiet (fail)
    go_wp2_with fail
    go_ret
    exact ⟨rfl, below3 w _ _ _ _⟩
  · have hd : decide (k < 0) = false := by simpa using hk
    have hd2 : decide (0 ≤ k) = true := by simp; omega
    go_enter Try.func18, Try.ntmps18
    go_wp2_with fail
    go_quiet ((first | (go_at_call 24; exact Calls.quiet_of_same ((blen_nil _).mono fun _ _ ⟨h, h'⟩ => ⟨h, h'.symm⟩)) | (go_at_call 19; exact Calls.quiet_of_same ((rank_nil _ _ _).mono fun _ _ ⟨h, h'⟩ => ⟨h, h'.symm⟩))))
    go_wp2_with fail
    go_ret
    exact ⟨rfl, below3 w _ _ _ _⟩

theorem select_any {w : World} {base b : Nat} {l : List Bool} (h : BVec w base b l) (c : Bool) (k : Int) :
    Calls Try.prog 18 #[.pointer (some ⟨b, 0, none⟩), .bool c, .int .i64 k] w (IntBelow (slI l c k) w) := by
  by_cases hk : k < 0
  · have hd : decide (k < 0) = true := by simpa using hk
    rw [slI_neg hk]
    go_enter Try.func18, Try.ntmps18
    go_wp2_with fail
    go_quiet (fail)
    go_wp2_with fail
    go_ret
    exact ⟨rfl, below3 w _ _ _ _⟩
  · obtain ⟨q, rfl⟩ : ∃ q : Nat, k = (q : Int) := ⟨k.toNat, by omega⟩
    have hd : decide ((q : Int) < 0) = false := by simp
    have hB3 : ∀ n, Below w.heap.size w ((((w.alloc (.cells #[.pointer (some ⟨b, 0, none⟩)] 24)).alloc (.cells #[.bool c] 4)).alloc (.cells #[.int .i64 (q : Int)] 3)).drewN n) := fun n => below3 w _ _ _ n
    have hV : ∀ n, BVec ((((w.alloc (.cells #[.pointer (some ⟨b, 0, none⟩)] 24)).alloc (.cells #[.bool c] 4)).alloc (.cells #[.int .i64 (q : Int)] 3)).drewN n) base b l := fun n => h.below (hB3 n)
    have HL : ∀ n, Calls Try.prog 24 #[.pointer (some ⟨b, 0, none⟩)] ((((w.alloc (.cells #[.pointer (some ⟨b, 0, none⟩)] 24)).alloc (.cells #[.bool c] 4)).alloc (.cells #[.int .i64 (q : Int)] 3)).drewN n) fun e w' => e = .returned (.int .i64 (l.length : Int)) ∧ w' = ((((w.alloc (.cells #[.pointer (some ⟨b, 0, none⟩)] 24)).alloc (.cells #[.bool c] 4)).alloc (.cells #[.int .i64 (q : Int)] 3)).drewN n) := fun n =>
      (blen_cell _ _ _ (hV n).c0).mono fun _ _ ⟨h, h'⟩ => ⟨h, h'.symm⟩
    have hR : ∀ n, Calls Try.prog 19 #[.pointer (some ⟨b, 0, none⟩), .bool c, .int .i64 (l.length : Int)] ((((w.alloc (.cells #[.pointer (some ⟨b, 0, none⟩)] 24)).alloc (.cells #[.bool c] 4)).alloc (.cells #[.int .i64 (q : Int)] 3)).drewN n) fun e w' => e = .returned (.int .i64 ((rk l c l.length : Nat) : Int)) ∧ ∃ m, w' = (((((w.alloc (.cells #[.pointer (some ⟨b, 0, none⟩)] 24)).alloc (.cells #[.bool c] 4)).alloc (.cells #[.int .i64 (q : Int)] 3)).drewN n)).drewN m := fun n => by
      have := rank_any (hV n) c (l.length : Int)
      rw [Int.toNat_natCast] at this
      exact this
    have HR := Lib.hid hR
    have HLL := Lib.hid HL
    have HV := Lib.hid hV
    have HB := Lib.hid hB3
    clear hR HL hV hB3
    by_cases hq : rk l c l.length ≤ q
    · rw [slI_none hq]
      have hd2 : decide (((rk l c l.length : Nat) : Int) ≤ (q : Int)) = true := by simp; omega
      have hd3 : decide (rk l c l.length ≤ q) = true := by simpa using hq
      clear hq
      generalize rk l c l.length = r at *
      generalize hln : l.length = n at *
      clear hln
      go_enter Try.func18, Try.ntmps18
      go_wp2_with fail
      go_quiet ((first | (go_at_call 24; exact Calls.quiet_of_same (HLL.out _)) | (go_at_call 19; exact Calls.quiet_of (HR.out _))))
      go_wp2_with fail
      go_ret
      exact ⟨rfl, HB.out _⟩
    · have hlt : q < rk l c l.length := by omega
      have hd3 : decide (rk l c l.length ≤ q) = false := by simpa using hq
      have Hlt := Lib.hid hlt
      clear hq hlt
      go_enter Try.func18, Try.ntmps18
      go_wp2_with fail
      go_quiet ((first | (go_at_call 24; exact Calls.quiet_of_same (HLL.out _)) | (go_at_call 19; exact Calls.quiet_of (HR.out _))))
      have hc0 := (HV.out nq).c0
      go_wp2_with fail
      refine (search_any (HV.out _) c q w.heap.size l.length rfl ?_ ?_ ?_ Hlt.out).mono ?_
      · exact (cell_blk (new1 w _ _ _) 0).trans rfl
      · exact (cell_blk (new2 w _ _ _) 0).trans rfl
      · exact (cell_blk (new3 w _ _ _) 0).trans rfl
      rintro e w' ⟨⟨p, rfl, hp⟩, m, rfl⟩
      go_wp2_with fail
      go_ret
      exact ⟨by rw [slI_some hp]; rfl, HB.out (nq + m)⟩

end Go.Proofs.Ytfgkkffgcgjhfaa
