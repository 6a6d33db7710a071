/- wrackkeep3.table: a table that Check accepts. (5: the text with table; rd_L1: its rows' reader.) -/
import Derived.Test.YtehkplafehlkgaaPPieceLessx5
import Derived.Test.YtehkplafehlkgaaPureBestPieceLess
namespace Go.Proofs.Ytehkplafehlkgaa.Pure.BestPieceLess
set_option linter.unusedSimpArgs false
open Go.RowKit Go.Proofs.Ytehkplafehlkgaa.PPieceLess Go.Proofs.YtehkplafehlkgaaW.PrintWords Go.Proofs.YtehkplafehlkgaaW.PrintLast Go.Proofs.YtehkplafehlkgaaW.PrintMore Go.Proofs.YtehkplafehlkgaaW.Plib
theorem below_f {a n : Int} (hn : 0 < n) (hn2 : n ≤ 9223372036854775807) : wrackmake_Below.f a n = some (a % n) := by
  unfold wrackmake_Below.f
  rw [if_neg (by omega), ← below_val hn hn2]
  split <;> rfl
theorem next_f (l : List Int) {n : Int} (hn : 0 < n) (hn2 : n ≤ 9223372036854775807) : ∃ v l', wrackmake_Stream_Next.f l n = some (v, l') ∧ 0 ≤ v ∧ v < n := by
  unfold wrackmake_Stream_Next.f
  by_cases h : (l.length : Int) = 0
  · exact ⟨0, l, by rw [if_pos h], by omega, hn⟩
  · refine ⟨rd l 0 % n, l.drop 1, ?_, Int.emod_nonneg _ (by omega), Int.emod_lt_of_pos _ hn⟩
    rw [if_neg h, if_neg (by omega), below_f hn hn2, Option.bind_some]
theorem getD_snoc {α : Type} (xs : List α) (y d : α) (j : Nat) : (xs ++ [y]).getD j d = if j < xs.length then xs.getD j d else if j = xs.length then y else d := by
  rw [List.getD_eq_getElem?_getD]
  by_cases h : j < xs.length
  · rw [if_pos h, List.getElem?_append_left h, ← List.getD_eq_getElem?_getD]
  · rw [if_neg h, List.getElem?_append_right (by omega)]
    by_cases h2 : j = xs.length
    · rw [if_pos h2, h2, Nat.sub_self]; rfl
    · rw [if_neg h2, show j - xs.length = (j - xs.length - 1) + 1 by omega]; rfl
/-- All of a list's numbers are weights. -/
def Ws (xs : List Int) : Prop := ∀ k, k < xs.length → -1000000 ≤ xs.getD k 0 ∧ xs.getD k 0 ≤ 1000000
theorem Ws.nil : Ws [] := fun k hk => absurd hk (Nat.not_lt_zero k)
theorem Ws.snoc {xs : List Int} {v : Int} (h : Ws xs) (h0 : -1000000 ≤ v) (h1 : v ≤ 1000000) : Ws (xs ++ [v]) := by
  intro k hk
  rw [List.length_append, List.length_singleton] at hk
  rw [getD_snoc]
  by_cases c : k < xs.length
  · rw [if_pos c]; exact h k c
  · rw [if_neg c, if_pos (by omega)]; exact ⟨h0, h1⟩
theorem table_l1 {n i : Nat} (hn : n ≤ 12) (hi : i < n) {F L : List Int} {N : List (List Int)} (hN : N.length = i) {P : List Int × List Int × List (List Int) → Prop}
    (K : ∀ (row s : List Int), row.length = n → Ws row → Gets (fun k => wrackkeep3_table.l0 k (n : Int) (n : Int) ((i + 1 : Nat) : Int) s F L (N ++ [row])) P) (d : Nat) :
    ∀ (q : Nat) (row s : List Int), q + d = n → row.length = q → Ws row → Gets (fun k => wrackkeep3_table.l1 k (n : Int) row (n : Int) (i : Int) (n : Int) (q : Int) s F L N) P := by
  induction d with
  | zero =>
    intro q row s hq hl hr
    have q1 : ¬ (q : Int) < (n : Int) := by omega
    have q2 : i < 5864062014805 := by omega
    refine Gets.up ?_
    simp only [wrackkeep3_table.l1]
    rw [hN, w1 i n hi (by omega)]
    simp -implicitDefEqProofs only [if_neg q1, if_pos q2]
    exact K row s (by omega) hr
  | succ d ih =>
    intro q row s hq hl hr
    obtain ⟨v, s2, hv, hv0, hv1⟩ := next_f s (n := 50) (by omega) (by omega)
    have q1 : (q : Int) < (n : Int) := by omega
    have q2 : q < 17592186044416 := by omega
    have h1 : -1000000 ≤ v - 10 := by omega
    have h2 : v - 10 ≤ 1000000 := by omega
    have hL : (row ++ [v - 10]).length = q + 1 := by rw [List.length_append, List.length_singleton, hl]
    have hw : wrap64 (v - 10) = v - 10 := by rw [w64] <;> omega
    refine Gets.up ?_
    simp only [wrackkeep3_table.l1]
    rw [hv, hl, w1 q n (by clear hw; omega) (by clear hw; omega)]
    simp -implicitDefEqProofs only [if_pos q1, if_pos q2, Option.bind_some]
    rw [hw]
    exact ih (q + 1) _ s2 (by clear hw; omega) hL (hr.snoc h1 h2)
/-- The first q fragments' weights. -/
structure Pre (n q : Nat) (F L : List Int) (N : List (List Int)) : Prop where
  f : F.length = q
  l : L.length = q
  m : N.length = q
  wf : Ws F
  wl : Ws L
  row : ∀ i, i < q → (N.getD i []).length = n ∧ Ws (N.getD i [])
theorem Pre.ok {n : Nat} {F L : List Int} {N : List (List Int)} (hn : n ≤ 12) (h : Pre n n F L N) : TabOk n F L N where
  n12 := hn
  f := h.f
  l := h.l
  m := h.m
  row i hi := (h.row i hi).1
  wf i hi := h.wf i (by rw [h.f]; exact hi)
  wl i hi := h.wl i (by rw [h.l]; exact hi)
  wn i k hi hk := (h.row i hi).2 k (by rw [(h.row i hi).1]; exact hk)
theorem table_l0 {n : Nat} (hn : n ≤ 12) (d : Nat) : ∀ (q : Nat) (F L s : List Int) (N : List (List Int)), q + d = n → Pre n q F L N →
    Gets (fun k => wrackkeep3_table.l0 k (n : Int) (n : Int) (q : Int) s F L N) (fun r => TabOk n r.1 r.2.1 r.2.2) := by
  induction d with
  | zero =>
    intro q F L s N hq h
    obtain rfl : q = n := by omega
    refine Gets.up ?_
    simp only [wrackkeep3_table.l0, if_neg (show ¬ (q : Int) < (q : Int) by omega)]
    exact Gets.ret (h.ok hn)
  | succ d ih =>
    intro q F L s N hq h
    obtain ⟨v, s2, hv, hv0, hv1⟩ := next_f s (n := 20) (by omega) (by omega)
    obtain ⟨u, s3, hu, hu0, hu1⟩ := next_f s2 (n := 20) (by omega) (by omega)
    have q1 : (q : Int) < (n : Int) := by omega
    have q2 : q < 17592186044416 := by omega
    have b1 : -1000000 ≤ v - 5 := by omega
    have b2 : v - 5 ≤ 1000000 := by omega
    have b3 : -1000000 ≤ u - 5 := by omega
    have b4 : u - 5 ≤ 1000000 := by omega
    have hK : ∀ (row s : List Int), row.length = n → Ws row → Gets (fun k => wrackkeep3_table.l0 k (n : Int) (n : Int) ((q + 1 : Nat) : Int) s (F ++ [v - 5]) (L ++ [u - 5]) (N ++ [row])) (fun r => TabOk n r.1 r.2.1 r.2.2) := by
      intro row s' hl hr
      refine ih (q + 1) _ _ s' _ (by omega) ⟨by rw [List.length_append, List.length_singleton, h.f], by rw [List.length_append, List.length_singleton, h.l], by rw [List.length_append, List.length_singleton, h.m], h.wf.snoc b1 b2, h.wl.snoc b3 b4, fun i hi => ?_⟩
      rw [getD_snoc, h.m]
      by_cases c : i < q
      · rw [if_pos c]; exact h.row i c
      · rw [if_neg c, if_pos (by omega)]; exact ⟨hl, hr⟩
    have key := table_l1 hn (show q < n by omega) h.m hK n 0 [] s3 (by omega) rfl Ws.nil
    have hw : wrap64 (v - 5) = v - 5 := by rw [w64] <;> omega
    have hw2 : wrap64 (u - 5) = u - 5 := by clear hw; rw [w64] <;> omega
    refine Gets.up ?_
    simp only [wrackkeep3_table.l0]
    rw [hv, h.f, h.l]
    simp -implicitDefEqProofs only [if_pos q1, if_pos q2, Option.bind_some, hu]
    rw [hw, hw2]
    exact key
theorem table_f (l : List Int) : Gets (fun k => wrackkeep3_table.f k l) (fun r => ∃ n, n < 9 ∧ TabOk n r.1 r.2.1 r.2.2) := by
  obtain ⟨v, s, hv, h0, h1⟩ := next_f l (n := 9) (by omega) (by omega)
  obtain ⟨n, rfl⟩ : ∃ n : Nat, v = (n : Int) := ⟨v.toNat, by omega⟩
  simp only [wrackkeep3_table.f, hv, Option.bind_some]
  exact (table_l0 (n := n) (by omega) n 0 [] [] s [] (by omega) ⟨rfl, rfl, rfl, Ws.nil, Ws.nil, fun i hi => absurd hi (Nat.not_lt_zero i)⟩).imp fun r hr => ⟨n, by omega, hr⟩
end Go.Proofs.Ytehkplafehlkgaa.Pure.BestPieceLess
