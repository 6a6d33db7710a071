/- piece.Best: an order of the greatest weight, of several the first one; what piece.Check accepts. (PieceLess: the law whose text this is; rd_L1: its word for a row's row; 4: its text with piece.Best.) -/
import Derived.Test.YtehkplafehlkgaaPPieceLessx4
import Derived.Test.YtehkplafehlkgaaPlibBits
namespace Go.Proofs.Ytehkplafehlkgaa.Pure.BestPieceLess
set_option linter.unusedSimpArgs false
open Go.RowKit Go.Proofs.Ytehkplafehlkgaa.PPieceLess Go.Proofs.YtehkplafehlkgaaW.PrintWords Go.Proofs.YtehkplafehlkgaaW.PrintLast Go.Proofs.YtehkplafehlkgaaW.PrintMore Go.Proofs.YtehkplafehlkgaaW.Plib

theorem gd_set {α : Type} (xs : List α) (i j : Nat) (v d : α) : (xs.set i v).getD j d = if i = j ∧ i < xs.length then v else xs.getD j d := by
  rw [List.getD_eq_getElem?_getD, List.getD_eq_getElem?_getD, List.getElem?_set]
  by_cases h : i = j
  · by_cases h2 : i < xs.length
    · simp [h, h2, h ▸ h2]
    · have h3 : ¬ j < xs.length := h ▸ h2
      simp [h, h3, List.getElem?_eq_none (show xs.length ≤ j by omega)]
  · simp [h]

/-- A table that Check accepts. -/
structure TabOk (n : Nat) (F L : List Int) (N : List (List Int)) : Prop where
  n12 : n ≤ 12
  f : F.length = n
  l : L.length = n
  m : N.length = n
  row : ∀ i, i < n → (N.getD i []).length = n
  wf : ∀ i, i < n → -1000000 ≤ F.getD i 0 ∧ F.getD i 0 ≤ 1000000
  wl : ∀ i, i < n → -1000000 ≤ L.getD i 0 ∧ L.getD i 0 ≤ 1000000
  wn : ∀ i k, i < n → k < n → -1000000 ≤ (N.getD i []).getD k 0 ∧ (N.getD i []).getD k 0 ≤ 1000000

/-- The weight of what follows fragment i. -/
def wt (L : List Int) (N : List (List Int)) : Nat → List Nat → Int
  | i, [] => L.getD i 0
  | i, k :: o => (N.getD i []).getD k 0 + wt L N k o
def tot (F L : List Int) (N : List (List Int)) : List Nat → Int
  | [] => 0
  | i :: o => F.getD i 0 + wt L N i o
/-- o is all that is not in the set s, each once. -/
def Comp (n s : Nat) (o : List Nat) : Prop := o.Nodup ∧ ∀ k, k ∈ o ↔ k < n ∧ s.testBit k = false

theorem put_bit (s k j : Nat) : (s ||| 2 ^ k).testBit j = (s.testBit j || decide (k = j)) := by rw [Nat.testBit_or, Nat.testBit_two_pow]
theorem Comp.cons {n s k : Nat} {o : List Nat} (hk : k < n) (hs : s.testBit k = false) (h : Comp n (s ||| 2 ^ k) o) : Comp n s (k :: o) := by
  refine ⟨List.nodup_cons.2 ⟨fun hm => ?_, h.1⟩, fun j => ?_⟩
  · have := ((h.2 k).1 hm).2
    rw [put_bit] at this
    simp at this
  · rw [List.mem_cons, h.2 j, put_bit]
    constructor
    · rintro (rfl | ⟨h1, h2⟩)
      · exact ⟨hk, hs⟩
      · exact ⟨h1, by revert h2; cases s.testBit j <;> simp⟩
    · rintro ⟨h1, h2⟩
      by_cases e : j = k
      · exact .inl e
      · exact .inr ⟨h1, by rw [h2]; simp; omega⟩
theorem Comp.uncons {n s k : Nat} {o : List Nat} (h : Comp n s (k :: o)) : k < n ∧ s.testBit k = false ∧ Comp n (s ||| 2 ^ k) o := by
  have h1 := (h.2 k).1 (List.mem_cons_self)
  have h2 := List.nodup_cons.1 h.1
  refine ⟨h1.1, h1.2, h2.2, fun j => ?_⟩
  rw [put_bit]
  constructor
  · intro hj
    have h3 := (h.2 j).1 (List.mem_cons_of_mem _ hj)
    refine ⟨h3.1, ?_⟩
    rw [h3.2]
    have : k ≠ j := fun e => h2.1 (e ▸ hj)
    simp [this]
  · rintro ⟨h3, h4⟩
    have h5 : s.testBit j = false ∧ k ≠ j := by revert h4; cases s.testBit j <;> simp
    exact (List.mem_cons.1 ((h.2 j).2 ⟨h3, h5.1⟩)).resolve_left (fun e => h5.2 e.symm)
theorem Comp.exists (n s : Nat) : ∃ o, Comp n s o := by
  refine ⟨(List.range n).filter (fun k => !s.testBit k), List.Pairwise.filter _ List.nodup_range, fun k => ?_⟩
  rw [List.mem_filter, List.mem_range]
  simp
theorem nodup_len : ∀ (n : Nat) (o : List Nat), o.Nodup → (∀ k ∈ o, k < n) → o.length ≤ n := by
  intro n o h hm
  have h1 := List.Nodup.length_le_of_subset h (l₂ := List.range n) (fun k hk => List.mem_range.2 (hm k hk))
  rwa [List.length_range] at h1
theorem Comp.len {n s : Nat} {o : List Nat} (h : Comp n s o) : o.length ≤ n := nodup_len n o h.1 (fun k hk => ((h.2 k).1 hk).1)
theorem wt_bound {n : Nat} {F L : List Int} {N : List (List Int)} (T : TabOk n F L N) : ∀ (o : List Nat) (i : Nat), i < n → (∀ k ∈ o, k < n) → -1000000 * ((o.length : Int) + 1) ≤ wt L N i o ∧ wt L N i o ≤ 1000000 * ((o.length : Int) + 1)
  | [], i, hi, _ => by have := T.wl i hi; simp only [wt, List.length_nil]; omega
  | k :: o, i, hi, ho => by
    have hk := ho k List.mem_cons_self
    have h1 := wt_bound T o k hk (fun j hj => ho j (List.mem_cons_of_mem _ hj))
    have h2 := T.wn i k hi hk
    simp only [wt, List.length_cons]
    omega
theorem wt_comp {n s i : Nat} {F L : List Int} {N : List (List Int)} (T : TabOk n F L N) (hi : i < n) {o : List Nat} (h : Comp n s o) : -13000000 ≤ wt L N i o ∧ wt L N i o ≤ 13000000 := by
  have h1 := wt_bound T o i hi (fun k hk => ((h.2 k).1 hk).1)
  have h2 := h.len
  have := T.n12
  omega
theorem full_eq {n s : Nat} (hs : s < 2 ^ n) (h : ∀ k, k < n → s.testBit k = true) : s = 2 ^ n - 1 := by
  apply Nat.eq_of_testBit_eq
  intro j
  rw [Nat.testBit_two_pow_sub_one]
  by_cases hj : j < n
  · rw [h j hj]; simp [hj]
  · rw [Nat.testBit_lt_two_pow (Nat.lt_of_lt_of_le hs (Nat.pow_le_pow_right (by omega) (by omega)))]; simp [hj]
theorem put_gt {s k : Nat} (h : s.testBit k = false) : s < s ||| 2 ^ k := by
  rcases Nat.lt_or_eq_of_le (Nat.left_le_or (n := s) (m := 2 ^ k)) with h1 | h1
  · exact h1
  · have := put_bit s k k
    rw [← h1, h] at this
    simp at this

/-- v is the greatest weight of what can follow i when s is used. -/
def Good (n : Nat) (L : List Int) (N : List (List Int)) (s i : Nat) (v : Int) : Prop := (∀ o, Comp n s o → wt L N i o ≤ v) ∧ ∃ o, Comp n s o ∧ wt L N i o = v
def RowGood (n : Nat) (L : List Int) (N : List (List Int)) (s : Nat) (row : List Int) : Prop := row.length = n ∧ ∀ i, i < n → Good n L N s i (row.getD i 0)
/-- .. as far as those below q are looked at. -/
def Part (n : Nat) (L : List Int) (N : List (List Int)) (s i q : Nat) (v : Int) : Prop :=
  (∀ k o, k < q → k < n → s.testBit k = false → Comp n (s ||| 2 ^ k) o → (N.getD i []).getD k 0 + wt L N k o ≤ v) ∧ ((∀ k, k < n → s.testBit k = true) → L.getD i 0 ≤ v) ∧ (v = -1099511627776 ∨ ∃ o, Comp n s o ∧ wt L N i o = v)
theorem Part.good {n s i : Nat} {F L : List Int} {N : List (List Int)} {v : Int} (T : TabOk n F L N) (hi : i < n) (h : Part n L N s i n v) : Good n L N s i v := by
  have up : ∀ o, Comp n s o → wt L N i o ≤ v := by
    intro o ho
    cases o with
    | nil =>
      refine h.2.1 fun k hk => ?_
      cases hb : s.testBit k with
      | true => rfl
      | false => exact absurd ((ho.2 k).2 ⟨hk, hb⟩) (by simp)
    | cons k o =>
      obtain ⟨h1, h2, h3⟩ := ho.uncons
      exact h.1 k o h1 h1 h2 h3
  refine ⟨up, h.2.2.resolve_left fun e => ?_⟩
  obtain ⟨o, ho⟩ := Comp.exists n s
  have h1 := up o ho
  have h2 := wt_comp T hi ho
  omega
theorem Part.bound {n s i q : Nat} {F L : List Int} {N : List (List Int)} {v : Int} (T : TabOk n F L N) (hi : i < n) (h : Part n L N s i q v) : -1099511627776 ≤ v ∧ v ≤ 13000000 := by
  rcases h.2.2 with e | ⟨o, ho, e⟩
  · omega
  · have := wt_comp T hi ho; omega
theorem Good.bound {n s i : Nat} {F L : List Int} {N : List (List Int)} {v : Int} (T : TabOk n F L N) (hi : i < n) (h : Good n L N s i v) : -13000000 ≤ v ∧ v ≤ 13000000 := by
  obtain ⟨o, ho, e⟩ := h.2
  have := wt_comp T hi ho; omega
theorem Part.skip {n s i q : Nat} {L : List Int} {N : List (List Int)} {v : Int} (h : Part n L N s i q v) (hq : s.testBit q = true) : Part n L N s i (q + 1) v :=
  ⟨fun k o hk hn hb ho => by
    rcases Nat.lt_or_eq_of_le (Nat.lt_succ_iff.1 hk) with h1 | rfl
    · exact h.1 k o h1 hn hb ho
    · rw [hq] at hb; exact absurd hb (by decide), h.2.1, h.2.2⟩
theorem Part.step {n s i q : Nat} {L : List Int} {N : List (List Int)} {v u : Int} (h : Part n L N s i q v) (hn : q < n) (hq : s.testBit q = false) (hu : Good n L N (s ||| 2 ^ q) q u) : Part n L N s i (q + 1) (mx v ((N.getD i []).getD q 0 + u)) := by
  have m1 : v ≤ mx v ((N.getD i []).getD q 0 + u) := by unfold mx; split <;> omega
  have m2 : (N.getD i []).getD q 0 + u ≤ mx v ((N.getD i []).getD q 0 + u) := by unfold mx; split <;> omega
  refine ⟨fun k o hk hn hb ho => ?_, fun hf => Int.le_trans (h.2.1 hf) m1, ?_⟩
  · rcases Nat.lt_or_eq_of_le (Nat.lt_succ_iff.1 hk) with h1 | rfl
    · exact Int.le_trans (h.1 k o h1 hn hb ho) m1
    · have := hu.1 o ho; omega
  · by_cases c : v < (N.getD i []).getD q 0 + u
    · obtain ⟨o, ho, e⟩ := hu.2
      refine .inr ⟨q :: o, Comp.cons hn hq ho, ?_⟩
      simp only [wt, mx, if_pos c, e]
    · rw [show mx v ((N.getD i []).getD q 0 + u) = v by unfold mx; rw [if_neg c]]
      exact h.2.2

/-- The rows above s are right. -/
def Inv (n : Nat) (L : List Int) (N X : List (List Int)) (s : Nat) : Prop := X.length = 2 ^ n ∧ ∀ t, s < t → t < 2 ^ n → RowGood n L N t (X.getD t [])
/-- .. and those of s, below i. -/
def InvI (n : Nat) (L : List Int) (N X : List (List Int)) (s i : Nat) : Prop := Inv n L N X s ∧ (X.getD s []).length = n ∧ ∀ j, j < i → j < n → Good n L N s j ((X.getD s []).getD j 0)
theorem at_rd (X : List (List Int)) (s i : Nat) : rd (rd_L1 X (s : Int)) (i : Int) = (X.getD s []).getD i 0 := by simp only [rd, rd_L1, Int.toNat_natCast]
theorem at_row (X : List (List Int)) (s : Nat) : rd_L1 X (s : Int) = X.getD s [] := by simp only [rd_L1, Int.toNat_natCast]
theorem at_one (X : List Int) (i : Nat) : rd X (i : Int) = X.getD i 0 := by simp only [rd, Int.toNat_natCast]
theorem w1 (q n : Nat) (h : q < n) (hn : n ≤ 4096) : wrap64 ((q : Int) + 1) = ((q + 1 : Nat) : Int) := by rw [w64] <;> omega
theorem p12 {n : Nat} (h : n ≤ 12) : 2 ^ n ≤ 4096 := by
  have := Nat.pow_le_pow_right (show 2 > 0 by omega) h
  simpa using this
theorem p62 {n s : Nat} (h : n ≤ 12) (hs : s < 2 ^ n) : s < 2 ^ 62 := by have := p12 h; omega

theorem rests_l2 {n : Nat} {F L : List Int} {N : List (List Int)} (T : TabOk n F L N) (s i : Nat) (hs : s < 2 ^ n) (hi : i < n) {P : List (List Int) → Prop}
    (K : ∀ X, InvI n L N X s (i + 1) → Gets (fun k => piece_rests.l1 k (n : Int) X (s : Int) (n : Int) ((i + 1 : Nat) : Int) F L N) P) (d : Nat) :
    ∀ (q : Nat) (X : List (List Int)), q + d = n → InvI n L N X s i → Part n L N s i q ((X.getD s []).getD i 0) →
    Gets (fun k => piece_rests.l2 k (n : Int) X (s : Int) (i : Int) (n : Int) (i : Int) (n : Int) (q : Int) F L N) P := by
  have hn := T.n12
  have hp := p12 hn
  induction d with
  | zero =>
    intro q X hq hX hP
    refine Gets.up ?_
    simp only [piece_rests.l2, if_neg (show ¬ (q : Int) < (n : Int) by omega), w1 i n hi (by omega)]
    obtain rfl : q = n := by omega
    refine K X ⟨hX.1, hX.2.1, fun j hj hn => ?_⟩
    rcases Nat.lt_or_eq_of_le (Nat.lt_succ_iff.1 hj) with h1 | rfl
    · exact hX.2.2 j h1 hn
    · exact hP.good T hi
  | succ d ih =>
    intro q X hq hX hP
    have hqn : q < n := by omega
    refine Gets.up ?_
    simp only [piece_rests.l2, if_pos (show (q : Int) < (n : Int) by omega), if_pos (show (0 : Int) ≤ (q : Int) by omega), has64 s q (p62 hn hs) (by omega), w1 q n hqn (by omega), put64 s q (p62 hn hs) (by omega)]
    cases hb : s.testBit q with
    | true =>
      simp only [if_neg (show ¬ (true = false) by decide)]
      exact ih (q + 1) X (by omega) hX (hP.skip hb)
    | false =>
      have hgt := put_gt hb
      have hlt : s ||| 2 ^ q < 2 ^ n := put_lt hs hqn
      have hX2 := hX.1.2 _ hgt hlt
      have hg := hX2.2 q hqn
      have b1 := T.wn i q hi hqn
      have b2 := hg.bound T hqn
      have b3 := hP.bound T hi
      have hw : wrap64 ((N.getD i []).getD q 0 + (X.getD (s ||| 2 ^ q) []).getD q 0) = (N.getD i []).getD q 0 + (X.getD (s ||| 2 ^ q) []).getD q 0 := w64 (by omega) (by omega)
      have hXl := hX.1.1
      simp only [if_true, at_row, at_one, Int.toNat_natCast, if_pos (show (0 : Int) ≤ (s : Int) by omega), if_pos (show (s : Int) < (X.length : Int) by omega), if_pos (show (0 : Int) ≤ (i : Int) by omega), if_pos (show (i : Int) < ((X.getD s []).length : Int) by rw [hX.2.1]; omega), if_pos (show (i : Int) < (N.length : Int) by rw [T.m]; omega), if_pos (show (q : Int) < ((N.getD i []).length : Int) by rw [T.row i hi]; omega), if_pos (show (0 : Int) ≤ ((s ||| 2 ^ q : Nat) : Int) by omega), if_pos (show ((s ||| 2 ^ q : Nat) : Int) < (X.length : Int) by omega), if_pos (show (q : Int) < ((X.getD (s ||| 2 ^ q) []).length : Int) by rw [hX2.1]; omega), hw]
      have hsl : s < X.length := by omega
      have hil : i < (X.getD s []).length := by rw [hX.2.1]; exact hi
      refine ih (q + 1) _ (by omega) ⟨⟨by rw [List.length_set]; exact hXl, fun t h1 h2 => ?_⟩, ?_, fun j h1 h2 => ?_⟩ ?_
      · rw [gd_set, if_neg (by omega)]; exact hX.1.2 t h1 h2
      · rw [gd_set, if_pos ⟨rfl, hsl⟩, List.length_set]; exact hX.2.1
      · rw [gd_set, if_pos ⟨rfl, hsl⟩, gd_set, if_neg (by omega)]; exact hX.2.2 j h1 h2
      · rw [gd_set, if_pos ⟨rfl, hsl⟩, gd_set, if_pos ⟨rfl, hil⟩]
        exact hP.step hqn hb hg

theorem rests_l1 {n : Nat} {F L : List Int} {N : List (List Int)} (T : TabOk n F L N) (s : Nat) (hs : s < 2 ^ n) {P : List (List Int) → Prop}
    (K : ∀ X, Inv n L N X s → RowGood n L N s (X.getD s []) → Gets (fun k => piece_rests.l0 k (n : Int) X ((s : Int) - 1) F L N) P) (d : Nat) :
    ∀ (i : Nat) (X : List (List Int)), i + d = n → InvI n L N X s i →
    Gets (fun k => piece_rests.l1 k (n : Int) X (s : Int) (n : Int) (i : Int) F L N) P := by
  have hn := T.n12
  have hp := p12 hn
  induction d with
  | zero =>
    intro i X hi hX
    refine Gets.up ?_
    simp only [piece_rests.l1, if_neg (show ¬ (i : Int) < (n : Int) by omega), show wrap64 ((s : Int) - 1) = (s : Int) - 1 by rw [w64] <;> omega]
    exact K X hX.1 ⟨hX.2.1, fun j hj => hX.2.2 j (by omega) hj⟩
  | succ d ih =>
    intro i X hi hX
    have hin : i < n := by omega
    have hXl := hX.1.1
    have hsl : s < X.length := by omega
    have hil : i < (X.getD s []).length := by rw [hX.2.1]; exact hin
    have K2 := fun X2 (h2 : InvI n L N X2 s (i + 1)) => ih (i + 1) X2 (by omega) h2
    -- what the row has at i when those that can follow are looked at
    have go : ∀ X2, InvI n L N X2 s i → Part n L N s i 0 ((X2.getD s []).getD i 0) → Gets (fun k => piece_rests.j2 k (n : Int) X2 (s : Int) (i : Int) (n : Int) (i : Int) F L N) P := by
      intro X2 h2 hp2
      refine Gets.up ?_
      simp only [piece_rests.j2]
      exact rests_l2 T s i hs hin K2 n 0 X2 (by omega) h2 hp2
    have hw : wrap64 ((X.length : Int) - 1) = ((2 ^ n - 1 : Nat) : Int) := by rw [w64] <;> omega
    have set1 : ∀ (Y : List (List Int)) (v : Int), InvI n L N Y s i → InvI n L N (Y.set s ((Y.getD s []).set i v)) s i ∧ ((Y.set s ((Y.getD s []).set i v)).getD s []).getD i 0 = v := by
      intro Y v hY
      have hsl : s < Y.length := by have := hY.1.1; omega
      have hil : i < (Y.getD s []).length := by rw [hY.2.1]; exact hin
      refine ⟨⟨⟨by rw [List.length_set]; exact hY.1.1, fun t h1 h2 => ?_⟩, ?_, fun j h1 h2 => ?_⟩, ?_⟩
      · rw [gd_set, if_neg (by omega)]; exact hY.1.2 t h1 h2
      · rw [gd_set, if_pos ⟨rfl, hsl⟩, List.length_set]; exact hY.2.1
      · rw [gd_set, if_pos ⟨rfl, hsl⟩, gd_set, if_neg (by omega)]; exact hY.2.2 j h1 h2
      · rw [gd_set, if_pos ⟨rfl, hsl⟩, gd_set, if_pos ⟨rfl, hil⟩]
    have hs1 := set1 X (-1099511627776) hX
    refine Gets.up ?_
    simp only [piece_rests.l1, if_pos (show (i : Int) < (n : Int) by omega), if_pos (show (0 : Int) ≤ (s : Int) by omega), if_pos (show (s : Int) < (X.length : Int) by omega), if_pos (show (0 : Int) ≤ (i : Int) by omega), at_row, at_one, Int.toNat_natCast, if_pos (show (i : Int) < ((X.getD s []).length : Int) by omega), Option.bind_some, hw]
    by_cases c : s = 2 ^ n - 1
    · have hs2 := set1 _ (L.getD i 0) hs1.1
      simp only [if_pos (show (s : Int) = ((2 ^ n - 1 : Nat) : Int) by omega), if_pos (show (i : Int) < (L.length : Int) by rw [T.l]; omega), if_pos (show (i : Int) < (((X.set s ((X.getD s []).set i (-1099511627776))).getD s []).length : Int) by rw [hs1.1.2.1]; omega)]
      refine go _ hs2.1 ?_
      rw [hs2.2]
      refine ⟨fun k o hk => absurd hk (by omega), fun _ => Int.le_refl _, .inr ⟨[], ⟨List.nodup_nil, fun k => ⟨fun h => absurd h (by simp), fun ⟨h1, h2⟩ => ?_⟩⟩, rfl⟩⟩
      rw [c, Nat.testBit_two_pow_sub_one] at h2
      simp [h1] at h2
    · simp only [if_neg (show ¬ (s : Int) = ((2 ^ n - 1 : Nat) : Int) by omega)]
      refine go _ hs1.1 ?_
      rw [hs1.2]
      exact ⟨fun k o hk => absurd hk (by omega), fun h => absurd (full_eq hs h) c, .inl rfl⟩

theorem rests_l0 {n : Nat} {F L : List Int} {N : List (List Int)} (T : TabOk n F L N) (s : Nat) : ∀ (X : List (List Int)), s ≤ 2 ^ n → X.length = 2 ^ n → (∀ t, s ≤ t → t < 2 ^ n → RowGood n L N t (X.getD t [])) →
    Gets (fun k => piece_rests.l0 k (n : Int) X ((s : Int) - 1) F L N) (fun R => R.length = 2 ^ n ∧ ∀ t, t < 2 ^ n → RowGood n L N t (R.getD t [])) := by
  have hn := T.n12
  have hp := p12 hn
  induction s with
  | zero =>
    intro X _ h1 h2
    refine Gets.up ?_
    simp only [piece_rests.l0, if_neg (show ¬ ((0 : Nat) : Int) - 1 ≥ 0 by omega)]
    exact Gets.ret ⟨h1, fun t ht => h2 t (by omega) ht⟩
  | succ s ih =>
    intro X hs h1 h2
    refine Gets.up ?_
    have e : ((s + 1 : Nat) : Int) - 1 = (s : Int) := by omega
    simp only [piece_rests.l0, e, if_pos (show (s : Int) ≥ 0 by omega), if_pos (show (0 : Int) ≤ (n : Int) by omega), Int.toNat_natCast, if_pos (show n ≤ 35184372088832 by omega), if_pos (show (0 : Int) ≤ (s : Int) by omega), if_pos (show (s : Int) < (X.length : Int) by omega)]
    have hsl : s < X.length := by omega
    refine rests_l1 T s (by omega) (fun X2 h3 h4 => ih X2 (by omega) h3.1 (fun t ht ht2 => ?_)) n 0 _ (by omega) ⟨⟨by rw [List.length_set]; exact h1, fun t h3 h4 => ?_⟩, ?_, fun j hj => absurd hj (by omega)⟩
    · rcases Nat.lt_or_eq_of_le ht with h5 | rfl
      · exact h3.2 t h5 ht2
      · exact h4
    · rw [gd_set, if_neg (by omega)]; exact h2 t (by omega) h4
    · rw [gd_set, if_pos ⟨rfl, hsl⟩, List.length_replicate]
theorem rests_f {n : Nat} {F L : List Int} {N : List (List Int)} (T : TabOk n F L N) : Gets (fun k => piece_rests.f k F L N) (fun R => R.length = 2 ^ n ∧ ∀ t, t < 2 ^ n → RowGood n L N t (R.getD t [])) := by
  have hn := T.n12
  have hp := p12 hn
  have h2 : shl .i64 1 (n : Int) = ((2 ^ n : Nat) : Int) := shl64 n (by omega)
  generalize hm : 2 ^ n = m at h2 hp
  have h3 := rests_l0 T m (List.replicate m []) (by omega) (by rw [List.length_replicate, hm]) (fun t h1 h2 => absurd h2 (by omega))
  simp only [piece_rests.f, T.f, h2, if_pos (show (0 : Int) ≤ (m : Int) by omega), Int.toNat_natCast, if_pos (show m ≤ 11728124029610 by omega), Option.bind_some, List.length_replicate, show wrap64 ((m : Int) - 1) = (m : Int) - 1 by rw [w64] <;> omega]
  rw [hm] at h3
  exact h3

/-! ## Check -/
theorem check_l1 {n i : Nat} {F L : List Int} {N : List (List Int)} {y : List Int} (hy : y.length < 4096) (hw : ∀ q, q < y.length → -1000000 ≤ y.getD q 0 ∧ y.getD q 0 ≤ 1000000) (hi : i < n) (hn : n ≤ 12) {P : Int → Prop}
    (K : Gets (fun k => piece_Check.l0 k (n : Int) (n : Int) ((i + 1 : Nat) : Int) F L N) P) (d : Nat) :
    ∀ q : Nat, q + d = y.length → Gets (fun k => piece_Check.l1 k (n : Int) (n : Int) (i : Int) y (y.length : Int) (q : Int) F L N) P := by
  induction d with
  | zero =>
    intro q hq
    refine Gets.up ?_
    simp only [piece_Check.l1, if_neg (show ¬ (q : Int) < (y.length : Int) by omega), w1 i n hi (by omega)]
    exact K
  | succ d ih =>
    intro q hq
    have h := hw q (by omega)
    refine Gets.up ?_
    simp only [piece_Check.l1, if_pos (show (q : Int) < (y.length : Int) by omega), if_pos (show (0 : Int) ≤ (q : Int) by omega), at_one, if_neg (show ¬ y.getD q 0 < -1000000 by omega), if_neg (show ¬ y.getD q 0 > 1000000 by omega), w1 q y.length (by omega) (by omega)]
    exact ih (q + 1) (by omega)
theorem check_l0 {n : Nat} {F L : List Int} {N : List (List Int)} (T : TabOk n F L N) (d : Nat) : ∀ i : Nat, i + d = n → Gets (fun k => piece_Check.l0 k (n : Int) (n : Int) (i : Int) F L N) (· = 0) := by
  induction d with
  | zero =>
    intro i hi
    refine Gets.up ?_
    simp only [piece_Check.l0, if_neg (show ¬ (i : Int) < (n : Int) by omega)]
    exact Gets.ret rfl
  | succ d ih =>
    intro i hi
    have hin : i < n := by omega
    have hn := T.n12
    have hr := T.row i hin
    refine Gets.up ?_
    simp only [piece_Check.l0, if_pos (show (i : Int) < (n : Int) by omega), if_pos (show (0 : Int) ≤ (i : Int) by omega), T.m, at_row, hr, if_true, T.f, T.l, at_one, Option.bind_some, List.length_cons, List.length_nil, if_pos (show 0 + 1 + 1 + n < 17592186044416 by omega)]
    refine check_l1 (y := [F.getD i 0, L.getD i 0] ++ N.getD i []) (by rw [List.length_append, hr]; simp only [List.length_cons, List.length_nil]; omega) (fun q hq => ?_) hin hn (ih (i + 1) (by omega)) _ 0 (Nat.zero_add _)
    match q with
    | 0 => exact T.wf i hin
    | 1 => exact T.wl i hin
    | q + 2 =>
      have := T.wn i q hin (by rw [List.length_append, hr] at hq; simp only [List.length_cons, List.length_nil] at hq; omega)
      simpa only [List.cons_append, List.nil_append, List.getD_cons_succ] using this
theorem check_f {n : Nat} {F L : List Int} {N : List (List Int)} (T : TabOk n F L N) : Gets (fun k => piece_Check.f k F L N) (· = 0) := by
  have hn := T.n12
  simp only [piece_Check.f, T.f, T.l, T.m, if_neg (show ¬ (n : Int) > 12 by omega), if_true, bne_self_eq_false]
  refine Gets.up ?_
  simp only [piece_Check.j0, if_neg (show ¬ (false = true) by decide)]
  exact check_l0 T n 0 (by omega)

/-! ## Best -/
def cs (p : List Nat) : List Int := p.map fun q : Nat => (q : Int)
/-- p comes before c. -/
def LexLt (p c : List Nat) : Prop := ∃ r a b x y, p = r ++ a :: x ∧ c = r ++ b :: y ∧ a < b
def BestRes (n : Nat) (F L : List Int) (N : List (List Int)) (r : List Int × Int × Int) : Prop :=
  ∃ p, r.1 = cs p ∧ r.2.2 = 0 ∧ Comp n 0 p ∧ tot F L N p = r.2.1 ∧ (∀ c, Comp n 0 c → tot F L N c ≤ r.2.1) ∧ ∀ c, Comp n 0 c → tot F L N c = r.2.1 → c = p ∨ LexLt p c
/-- The weight of what comes after p; that of the way from p to i. -/
def cont (F L : List Int) (N : List (List Int)) (p o : List Nat) : Int := match p.getLast? with | none => tot F L N o | some a => wt L N a o
def nw (F : List Int) (N : List (List Int)) (p : List Nat) (i : Nat) : Int := match p.getLast? with | none => F.getD i 0 | some a => (N.getD a []).getD i 0
theorem cont_cons (F L : List Int) (N : List (List Int)) (p : List Nat) (i : Nat) (o : List Nat) : cont F L N p (i :: o) = nw F N p i + wt L N i o := by
  unfold cont nw
  cases p.getLast? <;> rfl
theorem cont_snoc (F L : List Int) (N : List (List Int)) (p : List Nat) (i : Nat) (o : List Nat) : cont F L N (p ++ [i]) o = wt L N i o := by
  unfold cont
  rw [List.getLast?_concat]
/-- s is the set of those of p. -/
def Used (n s : Nat) (p : List Nat) : Prop := s < 2 ^ n ∧ p.Nodup ∧ ∀ k, k ∈ p ↔ s.testBit k = true
theorem Used.lt {n s : Nat} {p : List Nat} (h : Used n s p) {k : Nat} (hk : k ∈ p) : k < n := by
  rcases Nat.lt_or_ge k n with h1 | h1
  · exact h1
  · have := Nat.testBit_lt_two_pow (Nat.lt_of_lt_of_le h.1 (Nat.pow_le_pow_right (by omega) h1))
    rw [(h.2.2 k).1 hk] at this
    cases this
theorem Used.snoc {n s i : Nat} {p : List Nat} (h : Used n s p) (hi : i < n) (hs : s.testBit i = false) : Used n (s ||| 2 ^ i) (p ++ [i]) := by
  refine ⟨put_lt h.1 hi, ?_, fun k => ?_⟩
  · rw [List.nodup_append]
    refine ⟨h.2.1, by simp, fun a ha b hb e => ?_⟩
    have hb' : b = i := by simpa using hb
    subst e; subst hb'
    rw [(h.2.2 a).1 ha] at hs
    cases hs
  · rw [put_bit, List.mem_append, h.2.2 k, Bool.or_eq_true]
    have e1 : k ∈ [i] ↔ i = k := by rw [List.mem_singleton]; exact eq_comm
    rw [e1, decide_eq_true_iff]
theorem Used.comp {n s : Nat} {p o : List Nat} (h : Used n s p) : Comp n 0 (p ++ o) ↔ Comp n s o := by
  constructor
  · intro hc
    have h1 := List.nodup_append.1 hc.1
    refine ⟨h1.2.1, fun k => ?_⟩
    constructor
    · intro hk
      refine ⟨((hc.2 k).1 (List.mem_append_right _ hk)).1, ?_⟩
      cases hb : s.testBit k with
      | false => rfl
      | true => exact absurd rfl (h1.2.2 k ((h.2.2 k).2 hb) k hk)
    · rintro ⟨h2, h3⟩
      rcases List.mem_append.1 ((hc.2 k).2 ⟨h2, Nat.zero_testBit k⟩) with h4 | h4
      · rw [(h.2.2 k).1 h4] at h3; cases h3
      · exact h4
  · intro hc
    refine ⟨List.nodup_append.2 ⟨h.2.1, hc.1, fun a ha b hb e => ?_⟩, fun k => ?_⟩
    · subst e
      have h1 := ((hc.2 a).1 hb).2
      rw [(h.2.2 a).1 ha] at h1; cases h1
    · rw [List.mem_append, hc.2 k]
      constructor
      · rintro (h1 | h1)
        · exact ⟨h.lt h1, Nat.zero_testBit k⟩
        · exact ⟨h1.1, Nat.zero_testBit k⟩
      · rintro ⟨h1, -⟩
        cases hb : s.testBit k with
        | false => exact .inr ⟨h1, rfl⟩
        | true => exact .inl ((h.2.2 k).2 hb)
theorem LexLt.snoc {p c : List Nat} (h : LexLt p c) (i : Nat) : LexLt (p ++ [i]) c := by
  obtain ⟨r, a, b, x, y, rfl, rfl, hab⟩ := h
  exact ⟨r, a, b, x ++ [i], y, by simp, rfl, hab⟩

/-- What holds of the prefix p: s its set, u the greatest weight of what can come after it, S the greatest weight of all. -/
structure At (n : Nat) (F L : List Int) (N : List (List Int)) (S : Int) (p : List Nat) (s : Nat) (u : Int) : Prop where
  used : Used n s p
  up : ∀ o, Comp n s o → cont F L N p o ≤ u
  att : ∃ o, Comp n s o ∧ cont F L N p o = u
  split : ∀ o, tot F L N (p ++ o) = S - u + cont F L N p o
  first : ∀ c, Comp n 0 c → tot F L N c = S → (∃ o, c = p ++ o) ∨ LexLt p c
theorem nw_bound {n s : Nat} {F L : List Int} {N : List (List Int)} (T : TabOk n F L N) {p : List Nat} (h : Used n s p) {i : Nat} (hi : i < n) : -1000000 ≤ nw F N p i ∧ nw F N p i ≤ 1000000 := by
  unfold nw
  cases hl : p.getLast? with
  | none => exact T.wf i hi
  | some a => exact T.wn a i (h.lt (List.mem_of_getLast? hl)) hi
theorem At.bound {n s : Nat} {F L : List Int} {N : List (List Int)} {S u : Int} {p : List Nat} (T : TabOk n F L N) (h : At n F L N S p s u) (hp : p.length < n) : -14000000 ≤ u ∧ u ≤ 14000000 := by
  obtain ⟨o, ho, e⟩ := h.att
  cases o with
  | nil =>
    have h1 := List.Nodup.length_le_of_subset (List.nodup_range (n := n)) (l₂ := p) (fun k hk => by
      cases hb : s.testBit k with
      | true => exact (h.used.2.2 k).2 hb
      | false => exact absurd ((ho.2 k).2 ⟨List.mem_range.1 hk, hb⟩) (by simp))
    rw [List.length_range] at h1
    omega
  | cons i o =>
    rw [cont_cons] at e
    obtain ⟨h1, h2, h3⟩ := ho.uncons
    have h4 := nw_bound T h.used h1
    have h5 := wt_comp T h1 h3
    omega
/-- The first one that can follow. -/
theorem At.next {n s : Nat} {F L : List Int} {N : List (List Int)} {S u : Int} {p : List Nat} (h : At n F L N S p s u) {i : Nat} {v : Int} (hi : i < n) (hs : s.testBit i = false) (hv : Good n L N (s ||| 2 ^ i) i v) (e : nw F N p i + v = u)
    (hno : ∀ k w, k < i → s.testBit k = false → Good n L N (s ||| 2 ^ k) k w → nw F N p k + w ≠ u) : At n F L N S (p ++ [i]) (s ||| 2 ^ i) (u - nw F N p i) where
  used := h.used.snoc hi hs
  up o ho := by rw [cont_snoc]; have := hv.1 o ho; omega
  att := by
    obtain ⟨o, ho, e2⟩ := hv.2
    exact ⟨o, ho, by rw [cont_snoc]; omega⟩
  split o := by
    rw [List.append_assoc, List.singleton_append, h.split, cont_cons, cont_snoc]; omega
  first c hc ht := by
    rcases h.first c hc ht with ⟨o, rfl⟩ | h1
    · have h2 := h.used.comp.1 hc
      have h3 := h.split o
      cases o with
      | nil =>
        exact absurd ((h2.2 i).2 ⟨hi, hs⟩) (by simp)
      | cons j o =>
        obtain ⟨h4, h5, h6⟩ := h2.uncons
        rw [cont_cons] at h3
        rcases Nat.lt_trichotomy i j with h7 | rfl | h7
        · exact .inr ⟨p, i, j, [], o, rfl, rfl, h7⟩
        · exact .inl ⟨o, by simp⟩
        · exfalso
          -- the best of those that come after j
          have h8 : wt L N j o = u - nw F N p j := by omega
          refine hno j (u - nw F N p j) h7 h5 ⟨fun o2 h9 => ?_, o, h6, h8⟩ (by omega)
          have := h.up (j :: o2) (Comp.cons h4 h5 h9)
          rw [cont_cons] at this
          omega
    · exact .inr (h1.snoc i)
theorem At.some {n s : Nat} {F L : List Int} {N : List (List Int)} {S u : Int} {p : List Nat} (h : At n F L N S p s u) (hp : p.length < n) : ∃ i, i < n ∧ s.testBit i = false ∧ ∀ v, Good n L N (s ||| 2 ^ i) i v → nw F N p i + v = u := by
  obtain ⟨o, ho, e⟩ := h.att
  cases o with
  | nil =>
    have h1 := List.Nodup.length_le_of_subset (List.nodup_range (n := n)) (l₂ := p) (fun k hk => by
      cases hb : s.testBit k with
      | true => exact (h.used.2.2 k).2 hb
      | false => exact absurd ((ho.2 k).2 ⟨List.mem_range.1 hk, hb⟩) (by simp))
    rw [List.length_range] at h1
    omega
  | cons i o =>
    rw [cont_cons] at e
    obtain ⟨h1, h2, h3⟩ := ho.uncons
    refine ⟨i, h1, h2, fun v hv => ?_⟩
    have h4 := hv.1 o h3
    obtain ⟨o2, h5, h6⟩ := hv.2
    have h7 := h.up (i :: o2) (Comp.cons h1 h2 h5)
    rw [cont_cons] at h7
    omega
theorem Good.unique {n s i : Nat} {L : List Int} {N : List (List Int)} {v w : Int} (h : Good n L N s i v) (h2 : Good n L N s i w) : v = w := by
  obtain ⟨o, ho, e⟩ := h.2
  obtain ⟨o2, ho2, e2⟩ := h2.2
  have := h.1 o2 ho2
  have := h2.1 o ho
  omega

theorem cs_len (p : List Nat) : (cs p).length = p.length := by simp [cs]
theorem best_l2 {n s : Nat} {F L : List Int} {N R : List (List Int)} {S u : Int} {p : List Nat} (T : TabOk n F L N) (hR : R.length = 2 ^ n ∧ ∀ t, t < 2 ^ n → RowGood n L N t (R.getD t [])) (h : At n F L N S p s u) (hp : p.length < n) {P : List Int × Int × Int → Prop}
    (K : ∀ i u2, At n F L N S (p ++ [i]) (s ||| 2 ^ i) u2 → Gets (fun k => piece_Best.l1 k (n : Int) R (cs (p ++ [i])) ((s ||| 2 ^ i : Nat) : Int) S u2 F L N) P) (d : Nat) :
    ∀ q : Nat, q + d = n → (∀ k, k < q → s.testBit k = false → nw F N p k + (R.getD (s ||| 2 ^ k) []).getD k 0 ≠ u) → Gets (fun k => piece_Best.l2 k (n : Int) R (cs p) (s : Int) S u (n : Int) (q : Int) F L N) P := by
  have hn := T.n12
  have hp2 := p12 hn
  have hg : ∀ k, k < n → s.testBit k = false → Good n L N (s ||| 2 ^ k) k ((R.getD (s ||| 2 ^ k) []).getD k 0) := fun k hk _ => (hR.2 _ (put_lt h.used.1 hk)).2 k hk
  induction d with
  | zero =>
    intro q hq hno
    obtain ⟨i, h1, h2, h3⟩ := h.some hp
    exact absurd (h3 _ (hg i h1 h2)) (hno i (by omega) h2)
  | succ d ih =>
    intro q hq hno
    have hqn : q < n := by omega
    have hs62 := p62 hn h.used.1
    have hb0 := nw_bound T h.used hqn
    have hub := h.bound T hp
    have next : s.testBit q = true ∨ nw F N p q + (R.getD (s ||| 2 ^ q) []).getD q 0 ≠ u → Gets (fun k => piece_Best.l2 k (n : Int) R (cs p) (s : Int) S u (n : Int) ((q + 1 : Nat) : Int) F L N) P := by
      intro hc
      refine ih (q + 1) (by omega) fun k hk hs => ?_
      rcases Nat.lt_or_eq_of_le (Nat.lt_succ_iff.1 hk) with h1 | rfl
      · exact hno k h1 hs
      · rcases hc with h1 | h1
        · rw [h1] at hs; cases hs
        · exact h1
    have take : s.testBit q = false → nw F N p q + (R.getD (s ||| 2 ^ q) []).getD q 0 = u → Gets (fun k => piece_Best.l1 k (n : Int) R (cs p ++ [(q : Int)]) ((s ||| 2 ^ q : Nat) : Int) S (wrap64 (u - nw F N p q)) F L N) P := by
      intro hs e
      rw [w64 (by omega) (by omega)]
      have h1 := K q (u - nw F N p q) (h.next hqn hs (hg q hqn hs) e (fun k w hk hs2 hw => by rw [hw.unique (hg k (by omega) hs2)]; exact hno k hk hs2))
      simpa [cs] using h1
    -- the same at an order's begin, and later
    have hrow : s.testBit q = false → (R.getD (s ||| 2 ^ q) []).length = n := fun hs => (hR.2 _ (put_lt h.used.1 hqn)).1
    have hlt : s ||| 2 ^ q < 2 ^ n := put_lt h.used.1 hqn
    have hRl := hR.1
    refine Gets.up ?_
    simp only [piece_Best.l2, if_pos (show (q : Int) < (n : Int) by omega), if_pos (show (0 : Int) ≤ (q : Int) by omega), has64 s q hs62 (by omega), w1 q n hqn (by omega), put64 s q hs62 (by omega), if_pos (show (0 : Int) ≤ ((s ||| 2 ^ q : Nat) : Int) by omega), if_pos (show ((s ||| 2 ^ q : Nat) : Int) < (R.length : Int) by omega), at_row, at_one, cs_len, if_pos (show p.length < 17592186044416 by omega), T.f, T.m]
    rcases List.eq_nil_or_concat p with rfl | ⟨p0, a, rfl⟩
    · have hnw : nw F N [] q = F.getD q 0 := rfl
      rw [hnw] at next take hb0
      simp only [List.length_nil, if_pos (show ((0 : Nat) : Int) = 0 from rfl)]
      cases hs : s.testBit q with
      | true => simp only [if_neg (show ¬ (true = false) by decide)]; exact next (.inl hs)
      | false =>
        have hgb := (hg q hqn hs).bound T hqn
        simp only [if_true, if_pos (show (q : Int) < ((R.getD (s ||| 2 ^ q) []).length : Int) by rw [hrow hs]; omega), show wrap64 (F.getD q 0 + (R.getD (s ||| 2 ^ q) []).getD q 0) = F.getD q 0 + (R.getD (s ||| 2 ^ q) []).getD q 0 by rw [w64] <;> omega]
        by_cases c : F.getD q 0 + (R.getD (s ||| 2 ^ q) []).getD q 0 = u
        · simp only [if_pos c]; exact take hs c
        · simp only [if_neg c]; exact next (.inr c)
    · rw [List.concat_eq_append] at *
      have hnw : nw F N (p0 ++ [a]) q = (N.getD a []).getD q 0 := by unfold nw; rw [List.getLast?_concat]
      rw [hnw] at next take hb0
      have han : a < n := h.used.lt (by simp)
      have hlast : (cs (p0 ++ [a])).getD p0.length 0 = (a : Int) := by simp [cs, List.getD_eq_getElem?_getD]
      have hl : ((p0 ++ [a]).length : Int) - 1 = (p0.length : Int) := by simp
      have hw : wrap64 (((p0 ++ [a]).length : Int) - 1) = (p0.length : Int) := by rw [hl, w64] <;> omega
      simp only [hw, at_one, hlast, at_row, if_neg (show ¬ ((p0 ++ [a]).length : Int) = 0 by omega), if_pos (show (0 : Int) ≤ (p0.length : Int) by omega), if_pos (show (p0.length : Int) < ((p0 ++ [a]).length : Int) by omega), if_pos (show (0 : Int) ≤ (a : Int) by omega), if_pos (show (a : Int) < (n : Int) by omega), T.row a han, if_pos (show (q : Int) < (n : Int) by omega)]
      cases hs : s.testBit q with
      | true => simp only [if_neg (show ¬ (true = false) by decide)]; exact next (.inl hs)
      | false =>
        have hgb := (hg q hqn hs).bound T hqn
        simp only [if_true, if_pos (show (q : Int) < ((R.getD (s ||| 2 ^ q) []).length : Int) by rw [hrow hs]; omega), show wrap64 ((N.getD a []).getD q 0 + (R.getD (s ||| 2 ^ q) []).getD q 0) = (N.getD a []).getD q 0 + (R.getD (s ||| 2 ^ q) []).getD q 0 by rw [w64] <;> omega]
        by_cases c : (N.getD a []).getD q 0 + (R.getD (s ||| 2 ^ q) []).getD q 0 = u
        · simp only [if_pos c]; exact take hs c
        · simp only [if_neg c]; exact next (.inr c)

theorem best_l1 {n : Nat} {F L : List Int} {N R : List (List Int)} {S : Int} (T : TabOk n F L N) (hR : R.length = 2 ^ n ∧ ∀ t, t < 2 ^ n → RowGood n L N t (R.getD t [])) (hS : ∀ c, Comp n 0 c → tot F L N c ≤ S) (d : Nat) :
    ∀ (p : List Nat) (s : Nat) (u : Int), p.length + d = n → At n F L N S p s u → Gets (fun k => piece_Best.l1 k (n : Int) R (cs p) (s : Int) S u F L N) (BestRes n F L N) := by
  induction d with
  | zero =>
    intro p s u hp h
    refine Gets.up ?_
    simp only [piece_Best.l1, cs_len, if_neg (show ¬ (p.length : Int) < (n : Int) by omega)]
    obtain ⟨o, ho, e⟩ := h.att
    have h1 := h.used.comp.2 ho
    have h2 := h1.len
    rw [List.length_append] at h2
    obtain rfl : o = [] := List.eq_nil_of_length_eq_zero (by omega)
    rw [List.append_nil] at h1
    have h3 := h.split []
    rw [List.append_nil, e] at h3
    refine Gets.ret ⟨p, rfl, rfl, h1, by simp only; omega, hS, fun c hc ht => ?_⟩
    rcases h.first c hc ht with ⟨o, rfl⟩ | h4
    · have h5 := hc.len
      rw [List.length_append] at h5
      obtain rfl : o = [] := List.eq_nil_of_length_eq_zero (by omega)
      exact .inl (List.append_nil p)
    · exact .inr h4
  | succ d ih =>
    intro p s u hp h
    refine Gets.up ?_
    simp only [piece_Best.l1, cs_len, if_pos (show (p.length : Int) < (n : Int) by omega)]
    exact best_l2 T hR h (by omega) (fun i u2 h2 => ih _ _ _ (by rw [List.length_append, List.length_singleton]; omega) h2) n 0 (by omega) (fun k hk => absurd hk (by omega))

/-- The greatest weight of all that begin below q. -/
def PartT (n : Nat) (F L : List Int) (N : List (List Int)) (q : Nat) (v : Int) : Prop :=
  (∀ k o, k < q → k < n → Comp n (2 ^ k) o → F.getD k 0 + wt L N k o ≤ v) ∧ (v = -1099511627776 ∨ ∃ o, Comp n 0 o ∧ o ≠ [] ∧ tot F L N o = v)
theorem tot_bound {n : Nat} {F L : List Int} {N : List (List Int)} (T : TabOk n F L N) {o : List Nat} (h : Comp n 0 o) : -14000000 ≤ tot F L N o ∧ tot F L N o ≤ 14000000 := by
  cases o with
  | nil => simp only [tot]; omega
  | cons i o =>
    obtain ⟨h1, h2, h3⟩ := h.uncons
    have := wt_comp T h1 h3
    have := T.wf i h1
    simp only [tot]; omega
theorem best_l0 {n : Nat} {F L : List Int} {N R : List (List Int)} (T : TabOk n F L N) (hn0 : 0 < n) (hR : R.length = 2 ^ n ∧ ∀ t, t < 2 ^ n → RowGood n L N t (R.getD t [])) (d : Nat) :
    ∀ (q : Nat) (v : Int), q + d = n → PartT n F L N q v → Gets (fun k => piece_Best.l0 k (n : Int) R 0 v (n : Int) (q : Int) F L N) (BestRes n F L N) := by
  have hn := T.n12
  have hp2 := p12 hn
  induction d with
  | zero =>
    intro q v hq h
    obtain rfl : q = n := by omega
    refine Gets.up ?_
    simp only [piece_Best.l0, if_neg (show ¬ (q : Int) < (q : Int) by omega)]
    have up : ∀ c, Comp q 0 c → tot F L N c ≤ v := by
      intro c hc
      cases c with
      | nil => exact absurd ((hc.2 0).2 ⟨hn0, Nat.zero_testBit 0⟩) (by simp)
      | cons k o =>
        obtain ⟨h1, h2, h3⟩ := hc.uncons
        rw [Nat.zero_or] at h3
        exact h.1 k o h1 h1 h3
    have att : ∃ o, Comp q 0 o ∧ tot F L N o = v := by
      rcases h.2 with e | ⟨o, h1, _, h2⟩
      · obtain ⟨o, ho⟩ := Comp.exists q 0
        have := up o ho
        have := tot_bound T ho
        omega
      · exact ⟨o, h1, h2⟩
    exact best_l1 T hR up q [] 0 v (by simp) ⟨⟨Nat.two_pow_pos q, List.nodup_nil, fun k => by simp⟩, up, att, fun o => by rw [List.nil_append]; show tot F L N o = v - v + tot F L N o; omega, fun c _ _ => .inl ⟨c, rfl⟩⟩
  | succ d ih =>
    intro q v hq h
    have hqn : q < n := by omega
    have hlt : 2 ^ q < 2 ^ n := Nat.pow_lt_pow_right (by omega) hqn
    have hg := (hR.2 _ hlt)
    have hgq := hg.2 q hqn
    have hgb := hgq.bound T hqn
    have hfb := T.wf q hqn
    have hRl := hR.1
    have hsh : shl .i64 1 (q : Int) = ((2 ^ q : Nat) : Int) := shl64 q (by omega)
    have hst : PartT n F L N (q + 1) (mx v (F.getD q 0 + (R.getD (2 ^ q) []).getD q 0)) := by
      generalize (R.getD (2 ^ q) []).getD q 0 = w at hgq hgb
      have m1 : v ≤ mx v (F.getD q 0 + w) := by unfold mx; split <;> omega
      have m2 : F.getD q 0 + w ≤ mx v (F.getD q 0 + w) := by unfold mx; split <;> omega
      refine ⟨fun k o hk hn ho => ?_, ?_⟩
      · rcases Nat.lt_or_eq_of_le (Nat.lt_succ_iff.1 hk) with h1 | rfl
        · exact Int.le_trans (h.1 k o h1 hn ho) m1
        · have := hgq.1 o ho; omega
      · by_cases c : v < F.getD q 0 + w
        · obtain ⟨o, ho, e⟩ := hgq.2
          refine .inr ⟨q :: o, Comp.cons hqn (Nat.zero_testBit q) (by rw [Nat.zero_or]; exact ho), by simp, ?_⟩
          simp only [tot, mx, if_pos c, e]
        · rw [show mx v (F.getD q 0 + w) = v by unfold mx; rw [if_neg c]]
          exact h.2
    have hwr : wrap64 (F.getD q 0 + (R.getD (2 ^ q) []).getD q 0) = F.getD q 0 + (R.getD (2 ^ q) []).getD q 0 := w64 (by omega) (by omega)
    generalize 2 ^ q = m at *
    refine Gets.up ?_
    simp only [piece_Best.l0, if_pos (show (q : Int) < (n : Int) by omega), if_pos (show (0 : Int) ≤ (q : Int) by omega), T.f, hsh, if_pos (show (0 : Int) ≤ (m : Int) by omega), if_pos (show (m : Int) < (R.length : Int) by omega), at_row, at_one, if_pos (show (q : Int) < ((R.getD m []).length : Int) by rw [hg.1]; omega), w1 q n hqn (by omega), hwr]
    exact ih (q + 1) _ (by omega) hst
theorem best_f {n : Nat} {F L : List Int} {N : List (List Int)} (T : TabOk n F L N) : Gets (fun k => piece_Best.f k F L N) (BestRes n F L N) := by
  unfold piece_Best.f
  refine (check_f T).bind fun t ht => ?_
  subst ht
  simp only [if_true, T.f]
  by_cases c : n = 0
  · simp only [if_pos (show (n : Int) = 0 by omega)]
    subst c
    refine Gets.ret ⟨[], rfl, rfl, ⟨List.nodup_nil, fun k => by simp⟩, rfl, fun o ho => ?_, fun o ho _ => .inl ?_⟩
    · rw [List.eq_nil_of_length_eq_zero (Nat.le_zero.1 ho.len)]; exact Int.le_refl _
    · exact List.eq_nil_of_length_eq_zero (Nat.le_zero.1 ho.len)
  · simp only [if_neg (show ¬ (n : Int) = 0 by omega)]
    refine (rests_f T).bind fun R hR => ?_
    exact best_l0 T (by omega) hR n 0 _ (by omega) ⟨fun k o hk => absurd hk (by omega), .inl rfl⟩
end Go.Proofs.Ytehkplafehlkgaa.Pure.BestPieceLess
