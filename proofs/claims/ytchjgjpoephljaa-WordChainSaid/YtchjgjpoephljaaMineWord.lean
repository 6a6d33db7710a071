/- Lemmas of this session: slices.BinarySearch and slices.DeleteFunc at ints, from the shelf's contracts to the printed texts' form. -/
import Derived.Test.YtchjgjpoephljaaMineRow
import Derived.Shelf.SlicesE.DeleteFunc
import Derived.Shelf.SlicesG.SearchI
namespace Go.Proofs.YtchjgjpoephljaaW.PrintMine
open Go.RowKit Go.Proofs.YtchjgjpoephljaaW.PrintWords Go.Proofs.YtchjgjpoephljaaW.PrintLast Go.Proofs.YtchjgjpoephljaaW.PrintMore
theorem cell_sw {α : Type} [Inhabited α] (enc : α → Value) {w : World} {blk off n : Nat} {dk : Array α} {os : Array Obj} {a : Addr} {v : Value} (h1 : a.block ≠ blk) (h : w.cell? a = some v) : (sortWorld enc w blk off n dk os).cell? a = some v := by
  unfold sortWorld
  rw [Go.Sort.cell?_grow _ _ _ (by rw [Go.Sort.size_putRow]; exact World.block_lt_of_cell? w _ h), Go.Sort.cell?_putRow_other _ _ _ _ _ _ (.inl h1)]
  exact h
theorem R_cases_ {α : Type} {enc : α → Value} {h1 : ∀ x, (enc x).oneCell' = true} {e base : Nat} {W : World} {ok : Nat → Prop} {v : Value} {xs : List α} (HO : (Kd.scalar enc h1).R e W base ok v xs) :
    (v = .slice none 0 0 ∧ xs = []) ∨ ∃ g c, v = .slice (some ⟨g, 0, none⟩) xs.length c := by
  obtain ⟨A, c, rfl⟩ := Kd.R_slice HO
  rcases HO.2.choose_spec.1.2 with ⟨hv, h⟩ | ⟨g', cap', cur, hv, _⟩
  · injection hv with h1 h2 h3
    exact .inl ⟨by rw [h1, h2, h3], List.eq_nil_of_length_eq_zero h2⟩
  · injection hv with h1 h2 h3
    exact .inr ⟨g', c, by rw [h1]⟩
end Go.Proofs.YtchjgjpoephljaaW.PrintMine
