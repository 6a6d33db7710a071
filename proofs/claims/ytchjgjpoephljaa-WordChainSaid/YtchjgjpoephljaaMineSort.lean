/- Lemmas of this session: slices.Sort and slices.Compact at strings, from the shelf's contracts to the printed texts' form. -/
import Derived.Test.YtchjgjpoephljaaMineRow
import Derived.Shelf.SortM.Plain
import Derived.Shelf.SortM.SortNone
import Derived.Shelf.SlicesE.Compact
namespace Go.Proofs.YtchjgjpoephljaaW.PrintMine
open Go.RowKit Go.Proofs.YtchjgjpoephljaaW.PrintWords Go.Proofs.YtchjgjpoephljaaW.PrintLast Go.Proofs.YtchjgjpoephljaaW.PrintMore
theorem putRow_conv {α β : Type} [Inhabited α] [Inhabited β] (ea : α → Value) (eb : β → Value) (w : World) (b o : Nat) (d : Array α) (d' : Array β) (hs : d.size = d'.size) (h : ∀ j, j < d.size → ea d[j]! = eb d'[j]!) : Go.Sort.putRow ea w b o d = Go.Sort.putRow eb w b o d' := by
  unfold Go.Sort.putRow
  congr 1
  funext c
  unfold Go.Sort.putCells
  rw [← hs]
  congr 1
  funext k x
  split
  · exact h _ (by omega)
  · rfl
theorem holds_conv {α β : Type} [Inhabited α] [Inhabited β] {ea : α → Value} {eb : β → Value} {w : World} {b o : Nat} {d : Array α} {d' : Array β} (H : Go.Sort.Holds ea w b o d) (hs : d.size = d'.size) (h : ∀ j, j < d.size → ea d[j]! = eb d'[j]!) : Go.Sort.Holds eb w b o d' := by
  intro j hj
  have := H j (by omega)
  rw [h j (by omega)] at this
  exact this
/-- The strings in order. -/
def sortStr (l : List ByteArray) : List ByteArray := ((l.map fun s => s.data.toList).mergeSort fun x y => decide (x ≤ y)).map fun x => ⟨x.toArray⟩
theorem sortStr_len (l : List ByteArray) : (sortStr l).length = l.length := by simp [sortStr, List.length_mergeSort]
section
variable {W W1 : World} {base g n c e : Nat} {ok : Nat → Prop} {xs : List ByteArray}
theorem holds_str (HO : Kd.string.R e W base ok (.slice (some ⟨g, 0, none⟩) n c) xs) : Go.Sort.Holds Go.Proofs.encStr W g 0 (xs.map fun s => s.data.toList).toArray := by
  have HO' : (Kd.scalar Value.string (fun _ => rfl)).R e W base ok (.slice (some ⟨g, 0, none⟩) n c) xs := HO
  refine holds_conv (R_holds_ HO') (by simp) (fun j hj => ?_)
  have hj' : j < xs.length := by simpa using hj
  simp [Go.Proofs.encStr, hj']
theorem R_sortStr {q : Nat} {os : Array Obj} (HO : Kd.string.R e W base ok (.slice (some ⟨g, 0, none⟩) n c) xs)
    (hW : W1 = Go.Sort.grow (Go.Sort.putRow Go.Proofs.encStr (Go.Sort.ahead W q) g 0 ((xs.map fun s => s.data.toList).mergeSort fun x y => decide (x ≤ y)).toArray) os) :
    Kd.string.R e W1 base ok (.slice (some ⟨g, 0, none⟩) xs.length c) (sortStr xs) ∧ W.grownBy W1 (some g) := by
  have HO' : (Kd.scalar Value.string (fun _ => rfl)).R e W base ok (.slice (some ⟨g, 0, none⟩) n c) xs := HO
  have hl := sortStr_len xs
  have e1 : Go.Sort.putRow Go.Proofs.encStr (Go.Sort.ahead W q) g 0 ((xs.map fun s => s.data.toList).mergeSort fun x y => decide (x ≤ y)).toArray = Go.Sort.putRow Value.string (Go.Sort.ahead W q) g 0 (sortStr xs).toArray := by
    refine putRow_conv _ _ _ _ _ _ _ (by simp [sortStr]) (fun j hj => ?_)
    have hj' : j < ((xs.map fun s => s.data.toList).mergeSort fun x y => decide (x ≤ y)).length := by simpa using hj
    unfold sortStr
    generalize ((xs.map fun s => s.data.toList).mergeSort fun x y => decide (x ≤ y)) = ys at hj' ⊢
    simp [Go.Proofs.encStr, hj']
  rw [e1] at hW
  have := R_lay_grow HO' hl hW
  rw [hl] at this
  exact this
end
theorem strEq (x y : ByteArray) : (x.toList == y.toList) = decide (x = y) := by
  rw [ByteArray.toList_eq, ByteArray.toList_eq]
  by_cases h : x = y
  · subst h; simp
  · rw [decide_eq_false h]
    rw [beq_eq_false_iff_ne]
    intro e
    refine h ?_
    cases x with | mk a => cases y with | mk b =>
      simp only at e
      congr 1
      exact Array.toList_inj.1 e
theorem eqStrD {P : Program} {T : TypeId} : Go.Proofs.EqlAt P T Value.string (fun x y => decide (x = y)) := by
  have := Go.Proofs.EqlAt.string P T
  rwa [show (fun x y : ByteArray => x.toList == y.toList) = (fun x y => decide (x = y)) from funext fun x => funext fun y => strEq x y] at this
theorem neStrD {P : Program} {T : TypeId} : Go.Proofs.NeqAt P T Value.string (fun x y => decide (x = y)) := by
  have := Go.Proofs.NeqAt.string P T
  rwa [show (fun x y : ByteArray => x.toList == y.toList) = (fun x y => decide (x = y)) from funext fun x => funext fun y => strEq x y] at this
theorem less_gt : ∀ x y : List UInt8, (!(Op.bytesLess x y || x == y)) = Op.bytesLess y x
  | [], [] => by simp [Op.bytesLess]
  | [], _ :: _ => by simp [Op.bytesLess]
  | _ :: _, [] => by simp [Op.bytesLess]
  | a :: x, b :: y => by
    have ih := less_gt x y
    simp only [Op.bytesLess]
    by_cases h1 : a < b
    · have h2 : ¬ b < a := fun h => UInt8.lt_asymm h1 h
      have h3 : ¬ b = a := fun e => by subst e; exact UInt8.lt_irrefl _ h1
      simp [h1, h2, h3]
    · by_cases h2 : a = b
      · subst h2
        rw [← ih]
        simp [h1]
      · have h3 : b < a := by
          rcases Nat.lt_trichotomy a.toNat b.toNat with h | h | h
          · exact absurd (UInt8.lt_iff_toNat_lt.2 h) h1
          · exact absurd (UInt8.toNat_inj.1 h) h2
          · exact UInt8.lt_iff_toNat_lt.2 h
        have h4 : ¬ b = a := fun e => h2 e.symm
        simp [h1, h2, h3]
theorem strGtRun {P : Program} (a b : ByteArray) : ∀ (w : World) (t : TypeId), (binOp .gtr t (.string a) (.string b)).run P w = .ok (.bool (Op.bytesLess b.toList a.toList)) w := by
  intro w t
  rw [← less_gt]
  simp [binOp, Op.stringOp]
theorem compact_len (l : List ByteArray) : (Go.Lib.compact l).length ≤ l.length := by
  unfold Go.Lib.compact Go.Lib.compactUpTo
  rw [List.length_map]
  refine Nat.le_trans (List.length_filter_le _ _) ?_
  rw [List.length_range]
  exact Nat.le_refl _
end Go.Proofs.YtchjgjpoephljaaW.PrintMine
