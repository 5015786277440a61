/- What is merged is what a segment may be. -/
import Derived.Test.YtphccomhggnccaaGreatSgM
set_option linter.unusedVariables false
set_option linter.unusedSimpArgs false
set_option maxRecDepth 100000
namespace Go.Proofs.YtphccomhggnccaaGreat
open Go.RowKit Go.Maps Sg Fm
theorem SegsOk.sgs {w : World} {l : List Sg1} (h : SegsOk w l) : SgsOk (l.map Sg1.sg) := ⟨fun s hs => by
  obtain ⟨s', h1, rfl⟩ := List.mem_map.1 hs
  exact h.ok s' h1, h.wt⟩
theorem SgsOk.lt {L : List Sgm} (h : SgsOk L) (last : Bool) : ∀ d ∈ (mrg last L).ds, ∀ b ∈ d.2, b < 256 := fun d hd => by
  obtain ⟨s, hs, ht⟩ := List.exists_of_findSome?_eq_some (((h.mg last).ds d).1 hd)
  exact (h.ok s hs).b d.2 (List.mem_map_of_mem (f := fun x : Dc => x.2) ((tellS_text (once_of (h.ok s hs)) d).1 ht))
theorem segOk_ds {ds : List Dc} {gs : List Key} (hr : Rise (keysD ds ++ gs)) (hl : Lite ds gs) (ht : ∀ d ∈ ds, ∀ b ∈ d.2, b < 256) : SegOk (sortD ds) (srt gs) := by
  have hp : (keysD (sortD ds) ++ srt gs).Perm (keysD ds ++ gs) := ((sortD_perm _).map _).append (srt_perm _)
  have hr2 := hr.perm hp
  obtain ⟨n1, n2, n3⟩ := List.nodup_append.1 hr2.2
  refine ⟨⟨?_, n1⟩, ⟨srt_sorted _, n2⟩, hr2, hl.perm (sortD_perm _) (srt_perm _), fun t hm => ?_⟩
  · rw [keysD_sortD]
    exact srt_sorted _
  · obtain ⟨d, hd, rfl⟩ := List.mem_map.1 hm
    exact ht d ((sortD_perm _).mem_iff.1 hd)
theorem SgsOk.seg {L : List Sgm} (h : SgsOk L) (last : Bool) : SegOk (sortD (mrg last L).ds) (srt (mrg last L).gs) := segOk_ds (h.rise last) (h.lite last) (h.lt last)
theorem wtSg_sort (ds : List Dc) (gs : List Key) : wtSg (sortD ds, srt gs) = wtD ds + wtG gs := by
  unfold wtSg
  rw [wtD_perm (sortD_perm ds), wtG_perm (srt_perm gs)]
end Go.Proofs.YtphccomhggnccaaGreat
