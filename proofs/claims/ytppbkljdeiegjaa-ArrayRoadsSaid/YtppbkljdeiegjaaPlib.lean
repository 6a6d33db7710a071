/- Plain lemmas on the words in which printed functions are written: wraps, reads, bits, rounds. -/
import Derived.Test.YtppbkljdeiegjaaWMore
namespace Go.Proofs.YtppbkljdeiegjaaW.Plib
open Go.RowKit Go.Proofs.YtppbkljdeiegjaaW.PrintWords Go.Proofs.YtppbkljdeiegjaaW.PrintMore

theorem w64 {n : Int} (h0 : -9223372036854775808 ≤ n) (h1 : n ≤ 9223372036854775807) : wrap64 n = n := by unfold wrap64; omega
theorem u64w (n : Int) : IntKind.u64.wrap n = n % 18446744073709551616 := by simp [IntKind.wrap, IntKind.bits, IntKind.signed]
theorem u32w (n : Int) : IntKind.u32.wrap n = n % 4294967296 := by simp [IntKind.wrap, IntKind.bits, IntKind.signed]
theorem i64_of_wf {x : Int} (h : (Lit.int .i64 x).wf = true) : -9223372036854775808 ≤ x ∧ x ≤ 9223372036854775807 := by
  simp [Lit.wf, IntKind.min, IntKind.max, IntKind.bits, IntKind.signed] at h
  omega
/-- Below(x, n) for n above 0: x modulo n. -/
theorem below_val {x n : Int} (hn : 0 < n) (hn2 : n ≤ 9223372036854775807) : (if Int.tmod x n < 0 then wrap64 (Int.tmod x n + n) else Int.tmod x n) = x % n := by
  have h4 := Int.emod_nonneg x (show n ≠ 0 by omega)
  have h5 := Int.emod_lt_of_pos x hn
  have h6 : (n.natAbs : Int) = n := by omega
  rw [Int.tmod_eq_emod]
  by_cases hc : 0 ≤ x ∨ n ∣ x
  · rw [if_pos hc, if_neg (by omega)]; omega
  · rw [if_neg hc, h6]
    by_cases h7 : x % n - n < 0
    · rw [if_pos h7, w64 (by omega) (by omega)]; omega
    · omega
theorem rd_lt {xs : List Int} {i : Int} (h0 : 0 ≤ i) (h1 : i < xs.length) : rd xs i = xs[i.toNat]'(by omega) := by
  unfold rd
  rw [List.getD_eq_getElem?_getD, List.getElem?_eq_getElem (by omega)]
  rfl

/-- 'g comes, with enough rounds, to a result of which P holds'. -/
def Gets {α : Type} (g : Nat → Option α) (P : α → Prop) : Prop := ∃ r, P r ∧ ∃ K, ∀ k, K ≤ k → g k = some r
namespace Gets
variable {α β : Type} {g : Nat → Option α} {P Q : α → Prop} {R : β → Prop}
theorem ret {r : α} (h : P r) : Gets (fun _ => some r) P := ⟨r, h, 0, fun _ _ => rfl⟩
theorem const {o : Option α} {r : α} (e : o = some r) (h : P r) : Gets (fun _ => o) P := ⟨r, h, 0, fun _ _ => e⟩
theorem up (h : Gets (fun k => g (k + 1)) P) : Gets g P := by
  obtain ⟨r, hr, K, hK⟩ := h
  refine ⟨r, hr, K + 1, fun k hk => ?_⟩
  obtain ⟨m, rfl⟩ : ∃ m, k = m + 1 := ⟨k - 1, by omega⟩
  exact hK m (by omega)
theorem imp (h : Gets g P) (hi : ∀ r, P r → Q r) : Gets g Q := by
  obtain ⟨r, hr, K, hK⟩ := h
  exact ⟨r, hi r hr, K, hK⟩
theorem bind {f : Nat → α → Option β} (h : Gets g P) (hf : ∀ r, P r → Gets (fun k => f k r) R) : Gets (fun k => (g k).bind (f k)) R := by
  obtain ⟨r, hr, K, hK⟩ := h
  obtain ⟨q, hq, L, hL⟩ := hf r hr
  refine ⟨q, hq, max K L, fun k hk => ?_⟩
  show (g k).bind (f k) = some q
  rw [hK k (by omega), Option.bind_some]
  exact hL k (by omega)
theorem of_mono (hm : ∀ k, LeO (g k) (g (k + 1))) {k : Nat} {r : α} (e : g k = some r) (h : P r) : Gets g P := ⟨r, h, k, fun _ hk => at_rounds hm hk e⟩
theorem get (h : Gets g P) : ∃ k r, g k = some r ∧ P r := by
  obtain ⟨r, hr, K, hK⟩ := h
  exact ⟨K, r, hK K (Nat.le_refl _), hr⟩
theorem congr {g' : Nat → Option α} (h : Gets g P) (e : ∀ k, g' k = g k) : Gets g' P := by
  obtain ⟨r, hr, K, hK⟩ := h
  exact ⟨r, hr, K, fun k hk => (e k).trans (hK k hk)⟩
end Gets
end Go.Proofs.YtppbkljdeiegjaaW.Plib
