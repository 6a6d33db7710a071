/- Lemmas of this session: slices.Sort and slices.Compact at ints. -/
import Derived.Test.YtcgflahchpeakaaMineSort
namespace Go.Proofs.YtcgflahchpeakaaW.PrintMine
/-- The ints in order. -/
def sortInt (l : List Int) : List Int := (l.mergeSort fun x y => decide (x ≤ y))
theorem compact_len_i (l : List Int) : (Go.Lib.compact l).length ≤ l.length := by
  unfold Go.Lib.compact Go.Lib.compactUpTo
  rw [List.length_map]
  refine Nat.le_trans (List.length_filter_le _ _) ?_
  rw [List.length_range]
  exact Nat.le_refl _
end Go.Proofs.YtcgflahchpeakaaW.PrintMine
