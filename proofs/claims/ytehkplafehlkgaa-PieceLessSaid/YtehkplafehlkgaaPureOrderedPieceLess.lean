/- wrackkeep3.ordered: the best order of two is [1, 0]. (5: the text with ordered.) -/
import Derived.Test.YtehkplafehlkgaaPPieceLessx5
import Derived.Test.YtehkplafehlkgaaPureBestPieceLess
namespace Go.Proofs.Ytehkplafehlkgaa.Pure.BestPieceLess
set_option linter.unusedSimpArgs false
open Go.RowKit Go.Proofs.Ytehkplafehlkgaa.PPieceLess Go.Proofs.YtehkplafehlkgaaW.PrintWords Go.Proofs.YtehkplafehlkgaaW.PrintLast Go.Proofs.YtehkplafehlkgaaW.PrintMore Go.Proofs.YtehkplafehlkgaaW.Plib
theorem ordered_tab : TabOk 2 [0, 0] [0, 0] [[0, 0], [5, 0]] where
  n12 := by decide
  f := rfl
  l := rfl
  m := rfl
  row := by decide
  wf := by decide
  wl := by decide
  wn := fun i k hi hk => by
    have h : ∀ i, i < 2 → ∀ k, k < 2 → -1000000 ≤ (([[0, 0], [5, 0]] : List (List Int)).getD i []).getD k 0 ∧ (([[0, 0], [5, 0]] : List (List Int)).getD i []).getD k 0 ≤ 1000000 := by decide
    exact h i hi k hk
theorem ordered_f : Gets (fun k => wrackkeep3_ordered.f k) (· = true) := by
  unfold wrackkeep3_ordered.f
  refine (best_f ordered_tab).bind fun r hr => ?_
  obtain ⟨p, h1, h2, h3, h4, h5, -⟩ := hr
  obtain ⟨p', S, e⟩ := r
  simp only at h1 h2 h4 h5
  have c0 : Comp 2 0 [1, 0] := ⟨by decide, fun k => by
    rw [Nat.zero_testBit]
    simp
    omega⟩
  have h6 := h5 _ c0
  have h7 : tot [0, 0] [0, 0] [[0, 0], [5, 0]] [1, 0] = 5 := rfl
  rw [h7] at h6
  have h8 := h3.len
  have a0 := (h3.2 0).2 ⟨by decide, Nat.zero_testBit 0⟩
  have a1 := (h3.2 1).2 ⟨by decide, Nat.zero_testBit 1⟩
  have hp : p = [1, 0] := by
    match p, h8, a0, a1, h4 with
    | [], _, a0, _, _ => simp at a0
    | [a], _, a0, a1, _ => simp at a0 a1; omega
    | [a, b], _, a0, a1, h4 =>
      simp at a0 a1
      by_cases c : a = 0
      · obtain rfl := c
        obtain rfl : b = 1 := by omega
        have : tot [0, 0] [0, 0] [[0, 0], [5, 0]] [0, 1] = 0 := rfl
        omega
      · obtain rfl : a = 1 := by omega
        obtain rfl : b = 0 := by omega
        rfl
    | a :: b :: c :: t, h8, _, _, _ => simp at h8
  subst hp
  rw [h7] at h4
  subst h1 h2 h4
  simp only [if_true]
  exact ⟨true, rfl, 4, fun k hk => by obtain ⟨m, rfl⟩ : ∃ m, k = m + 4 := ⟨k - 4, by omega⟩; simp [slices_Equal_int_int.f, slices_Equal_int_int.l0, cs, rd, wrap64]⟩
end Go.Proofs.Ytehkplafehlkgaa.Pure.BestPieceLess
