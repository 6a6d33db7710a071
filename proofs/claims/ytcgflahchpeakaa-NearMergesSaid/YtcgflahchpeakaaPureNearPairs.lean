/- wrackkeep3.NearMerges: what near.Pairs and near.Groups answer. -/
import Derived.Test.YtcgflahchpeakaaPureNearBase
namespace Go.Proofs.Ytcgflahchpeakaa.Pure
set_option linter.unusedVariables false
set_option linter.unusedSimpArgs false
open Go.RowKit Go.Proofs.Ytcgflahchpeakaa.PNearMerges Go.Proofs.YtcgflahchpeakaaW.PrintWords Go.Proofs.YtcgflahchpeakaaW.PrintLast Go.Proofs.YtcgflahchpeakaaW.PrintMore Go.Proofs.YtcgflahchpeakaaW.PrintMine Go.Proofs.YtcgflahchpeakaaW.Plib
namespace NearP
theorem at_L {X : List (List Int)} (i : Nat) : rd_L2 X (i : Int) = X.getD i [] := by simp only [rd_L2, Int.toNat_natCast]
theorem at_L6' {X : List (List Int)} (i : Nat) : rd_L6 X (i : Int) = X.getD i [] := by simp only [rd_L6, Int.toNat_natCast]
theorem at_L4 {X : List (List ByteArray)} (i : Nat) : rd_L4 X (i : Int) = X.getD i [] := by simp only [rd_L4, Int.toNat_natCast]
theorem getD_mem {α : Type} {X : List α} {d : α} {i : Nat} (h : i < X.length) : X.getD i d ∈ X := by
  rw [List.getD_eq_getElem?_getD, List.getElem?_eq_getElem h]; exact List.getElem_mem h
/-! ## check -/
theorem check_l0 (D : List (List Int)) (hn : D.length ≤ 8) (hD : ∀ x ∈ D, x.length ≤ 40) (m : Int) (h0 : 0 ≤ m) (h1 : m ≤ 10) (d : Nat) : ∀ i : Nat, i + d = D.length → Gets (fun k => near_check.l0 k m 10 D (D.length : Int) (i : Int)) (· = 0) := by
  induction d with
  | zero =>
    intro i hi
    refine Gets.up ?_
    simp only [near_check.l0, if_neg (show ¬ (i : Int) < (D.length : Int) by omega), if_neg (show ¬ (10 : Int) < 1 by omega), if_neg (show ¬ (10 : Int) > 1000 by omega), if_neg (show ¬ m < 0 by omega), if_neg (show ¬ m > 10 by omega)]
    exact Gets.ret rfl
  | succ d ih =>
    intro i hi
    have q1 : (i : Int) < (D.length : Int) := by omega
    have q2 : (0 : Int) ≤ (i : Int) := by omega
    have hx := hD _ (getD_mem (d := []) (show i < D.length by omega))
    have q3 : ¬ ((D.getD i []).length : Int) > 2048 := by omega
    have hw := w1 i D.length (by omega) (by omega)
    refine Gets.up ?_
    simp only [near_check.l0, hw, at_L]
    simp -implicitDefEqProofs only [if_pos q1, if_pos q2, if_neg q3]
    exact ih (i + 1) (by clear hw; omega)
theorem check_f (D : List (List Int)) (hn : D.length ≤ 8) (hD : ∀ x ∈ D, x.length ≤ 40) (m : Int) (h0 : 0 ≤ m) (h1 : m ≤ 10) : Gets (fun k => near_check.f k D m 10) (· = 0) := by
  simp only [near_check.f, if_neg (show ¬ (D.length : Int) > 60 by omega)]
  exact check_l0 D hn hD m h0 h1 D.length 0 (by omega)
/-! ## Pairs -/
/-- the shingles of the texts -/
def Sh (D : List (List Int)) (S : List (List ByteArray)) : Prop := S.length = D.length ∧ ∀ i, i < D.length → (S.getD i []).length ≤ 40 ∧ Gets (fun k => near_Shingles.f k (D.getD i [])) (· = S.getD i [])
/-- what the shingles of two texts have in common -/
def Cm (S : List (List ByteArray)) (c : Nat → Nat → Nat) : Prop := ∀ i j, i < S.length → j < S.length → c i j ≤ (S.getD i []).length ∧ c i j ≤ (S.getD j []).length ∧ Gets (fun k => near_common.f k (S.getD i []) (S.getD j [])) (· = ans (S.getD i []) (S.getD j []) (c i j))
theorem cm_ex (S : List (List ByteArray)) (hS : ∀ i, i < S.length → (S.getD i []).length ≤ 40) : ∃ c, Cm S c := by
  have h : ∀ p : Nat × Nat, ∃ m : Nat, p.1 < S.length → p.2 < S.length → m ≤ (S.getD p.1 []).length ∧ m ≤ (S.getD p.2 []).length ∧ Gets (fun k => near_common.f k (S.getD p.1 []) (S.getD p.2 [])) (· = ans (S.getD p.1 []) (S.getD p.2 []) m) := by
    rintro ⟨i, j⟩
    by_cases hi : i < S.length
    · by_cases hj : j < S.length
      · have h1 := hS i hi
        have h2 := hS j hj
        obtain ⟨m, a, b, g, -⟩ := common_both (S.getD i []) (S.getD j []) h1 h2 80 0 0 0 (by omega) (by omega) (by omega) (by omega) (by omega)
        exact ⟨m, fun _ _ => ⟨a, b, g⟩⟩
      · exact ⟨0, fun _ h => absurd h hj⟩
    · exact ⟨0, fun h _ => absurd h hi⟩
  refine ⟨fun i j => Classical.choose (h (i, j)), fun i j hi hj => Classical.choose_spec (h (i, j)) hi hj⟩
theorem sh_ex (D : List (List Int)) (hD : ∀ x ∈ D, x.length ≤ 40) : ∃ S, Sh D S := by
  have h : ∀ i : Nat, ∃ s : List ByteArray, i < D.length → s.length ≤ 40 ∧ Gets (fun k => near_Shingles.f k (D.getD i [])) (· = s) := by
    intro i
    by_cases hi : i < D.length
    · obtain ⟨s, hs, g⟩ := Gets.pick (shingles_f (D.getD i []) (hD _ (getD_mem hi)))
      exact ⟨s, fun _ => ⟨hs.1, g⟩⟩
    · exact ⟨[], fun h => absurd h hi⟩
  refine ⟨(List.range D.length).map fun i => Classical.choose (h i), by simp, fun i hi => ?_⟩
  have e : ((List.range D.length).map fun i => Classical.choose (h i)).getD i [] = Classical.choose (h i) := by
    rw [List.getD_eq_getElem?_getD, List.getElem?_map, List.getElem?_range hi]; rfl
  rw [e]
  exact Classical.choose_spec (h i) hi
/-- whether two texts are a pair -/
def Ed (S : List (List ByteArray)) (c : Nat → Nat → Nat) (m : Int) (i j : Nat) : Prop := (c i j : Int) * 10 ≥ m * (((S.getD i []).length : Int) + (S.getD j []).length - c i j)
structure Inv (S : List (List ByteArray)) (c : Nat → Nat → Nat) (m : Int) (L : List S44) (i j : Nat) : Prop where
  good : ∀ p ∈ L, ∃ a b : Nat, p = ⟨(a : Int), (b : Int)⟩ ∧ a < b ∧ b < S.length ∧ Ed S c m a b
  all : ∀ a b : Nat, a < b → b < S.length → Ed S c m a b → a < i ∨ (a = i ∧ b < j) → (⟨(a : Int), (b : Int)⟩ : S44) ∈ L
  len : L.length ≤ i * 8 + j
theorem pairs_l2 (D : List (List Int)) (S : List (List ByteArray)) (c : Nat → Nat → Nat) (m : Int) (hn : D.length ≤ 8) (hl : S.length = D.length) (hS : ∀ i, i < S.length → (S.getD i []).length ≤ 40) (hc : Cm S c) (h0 : 0 ≤ m) (h1 : m ≤ 10) {P : List S44 × Int → Prop} (i : Nat) (hi : i < D.length)
    (K : ∀ L, Inv S c m L i D.length → Gets (fun k => near_Pairs.l1 k D m 10 S L (D.length : Int) ((i + 1 : Nat) : Int)) P) (d : Nat) :
    ∀ (j : Nat) (L : List S44), j + d = D.length → i < j → Inv S c m L i j → Gets (fun k => near_Pairs.l2 k D m 10 S L (i : Int) (j : Int) (D.length : Int) (i : Int)) P := by
  induction d with
  | zero =>
    intro j L hj hij hI
    have hw := w1 i D.length hi (by omega)
    refine Gets.up ?_
    simp only [near_Pairs.l2, if_neg (show ¬ (j : Int) < (D.length : Int) by clear hw; omega), hw]
    refine K L ?_
    rw [show D.length = j by clear hw; omega]
    exact hI
  | succ d ih =>
    intro j L hj hij hI
    have hjn : j < D.length := by omega
    obtain ⟨m1, m2, g⟩ := hc i j (by omega) (by omega)
    have hs1 := hS i (by omega)
    have hs2 := hS j (by omega)
    have hlen := hI.len
    have q1 : (j : Int) < (D.length : Int) := by omega
    have q2 : (0 : Int) ≤ (i : Int) := by omega
    have q3 : (i : Int) < (S.length : Int) := by omega
    have q4 : (0 : Int) ≤ (j : Int) := by omega
    have q5 : (j : Int) < (S.length : Int) := by omega
    have q6 : L.length < 8796093022208 := by omega
    have hw := w1 j D.length hjn (by omega)
    refine Gets.up ?_
    simp only [near_Pairs.l2, hw, at_L4]
    simp -implicitDefEqProofs only [if_pos q1, if_pos q2, if_pos q3, if_pos q4, if_pos q5, if_pos q6]
    refine g.bind fun r e => ?_
    subst e
    have hp : 0 ≤ m * (((S.getD i []).length : Int) + (S.getD j []).length - c i j) ∧ m * (((S.getD i []).length : Int) + (S.getD j []).length - c i j) ≤ 10 * 80 := by
      refine ⟨Int.mul_nonneg h0 (by clear hw; omega), ?_⟩
      refine Int.le_trans (Int.mul_le_mul_of_nonneg_right h1 (by clear hw; omega)) (Int.mul_le_mul_of_nonneg_left (by clear hw; omega) (by clear hw; omega))
    have e1 : wrap64 ((ans (S.getD i []) (S.getD j []) (c i j)).1 * 10) = (c i j : Int) * 10 := by
      clear hw
      unfold ans
      rw [w64] <;> (simp only []; omega)
    have e2 : wrap64 (m * (ans (S.getD i []) (S.getD j []) (c i j)).2) = m * (((S.getD i []).length : Int) + (S.getD j []).length - c i j) := by
      clear hw e1
      unfold ans
      generalize hz : m * (((S.getD i []).length : Int) + (S.getD j []).length - c i j) = z at hp
      rw [w64] <;> omega
    rw [e1, e2]
    clear hp e1 e2
    by_cases ce : Ed S c m i j
    · simp only [if_pos (show (c i j : Int) * 10 ≥ m * (((S.getD i []).length : Int) + (S.getD j []).length - c i j) from ce)]
      refine ih (j + 1) _ (by clear hw; omega) (by clear hw; omega) ⟨fun p hp => ?_, fun a b hab hb he ho => ?_, by rw [List.length_append]; simp only [List.length_singleton]; clear hw; omega⟩
      · rcases List.mem_append.1 hp with hp | hp
        · exact hI.good p hp
        · rw [List.mem_singleton.1 hp]
          exact ⟨i, j, rfl, hij, by clear hw; omega, ce⟩
      · by_cases cb : a = i ∧ b = j
        · rw [cb.1, cb.2]; simp
        · exact List.mem_append_left _ (hI.all a b hab hb he (by clear hw; omega))
    · simp only [if_neg (show ¬ (c i j : Int) * 10 ≥ m * (((S.getD i []).length : Int) + (S.getD j []).length - c i j) from ce)]
      refine ih (j + 1) _ (by clear hw; omega) (by clear hw; omega) ⟨hI.good, fun a b hab hb he ho => ?_, by clear hw; omega⟩
      by_cases cb : a = i ∧ b = j
      · rw [cb.1, cb.2] at he; exact absurd he ce
      · exact hI.all a b hab hb he (by clear hw; omega)
structure Spec (S : List (List ByteArray)) (c : Nat → Nat → Nat) (m : Int) (L : List S44) : Prop where
  good : ∀ p ∈ L, ∃ a b : Nat, p = ⟨(a : Int), (b : Int)⟩ ∧ a < b ∧ b < S.length ∧ Ed S c m a b
  all : ∀ a b : Nat, a < b → b < S.length → Ed S c m a b → (⟨(a : Int), (b : Int)⟩ : S44) ∈ L
  len : L.length ≤ 100
theorem pairs_l1 (D : List (List Int)) (S : List (List ByteArray)) (c : Nat → Nat → Nat) (m : Int) (hn : D.length ≤ 8) (hl : S.length = D.length) (hS : ∀ i, i < S.length → (S.getD i []).length ≤ 40) (hc : Cm S c) (h0 : 0 ≤ m) (h1 : m ≤ 10) (d : Nat) :
    ∀ (i : Nat) (L : List S44), i + d = D.length → Inv S c m L i 0 → Gets (fun k => near_Pairs.l1 k D m 10 S L (D.length : Int) (i : Int)) (fun r => r.2 = 0 ∧ Spec S c m r.1) := by
  induction d with
  | zero =>
    intro i L hi hI
    have hlen := hI.len
    refine Gets.up ?_
    simp only [near_Pairs.l1, if_neg (show ¬ (i : Int) < (D.length : Int) by omega)]
    exact Gets.ret ⟨rfl, hI.good, fun a b hab hb he => hI.all a b hab hb he (by omega), by show L.length ≤ 100; omega⟩
  | succ d ih =>
    intro i L hi hI
    have q1 : (i : Int) < (D.length : Int) := by omega
    have hw := w1 i D.length (by omega) (by omega)
    refine Gets.up ?_
    simp only [near_Pairs.l1, hw]
    simp -implicitDefEqProofs only [if_pos q1]
    refine pairs_l2 D S c m hn hl hS hc h0 h1 i (by clear hw; omega) (fun L' hI' => ih (i + 1) L' (by clear hw; omega) ⟨hI'.good, fun a b hab hb he ho => hI'.all a b hab hb he (by clear hw; omega), by have := hI'.len; clear hw; omega⟩) (d) (i + 1) L (by clear hw; omega) (by clear hw; omega) ⟨hI.good, fun a b hab hb he ho => hI.all a b hab hb he (by clear hw; omega), by have := hI.len; clear hw; omega⟩
theorem pairs_l0 (D : List (List Int)) (S : List (List ByteArray)) (c : Nat → Nat → Nat) (m : Int) (hn : D.length ≤ 8) (hSh : Sh D S) (hc : Cm S c) (h0 : 0 ≤ m) (h1 : m ≤ 10) (d : Nat) :
    ∀ i : Nat, i + d = D.length → Gets (fun k => near_Pairs.l0 k D m 10 (S.take i) D (D.length : Int) (i : Int)) (fun r => r.2 = 0 ∧ Spec S c m r.1) := by
  have hS : ∀ i, i < S.length → (S.getD i []).length ≤ 40 := fun i hi => (hSh.2 i (by rw [← hSh.1]; exact hi)).1
  induction d with
  | zero =>
    intro i hi
    refine Gets.up ?_
    simp only [near_Pairs.l0, if_neg (show ¬ (i : Int) < (D.length : Int) by omega)]
    rw [List.take_of_length_le (by rw [hSh.1]; omega)]
    exact pairs_l1 D S c m hn hSh.1 hS hc h0 h1 D.length 0 [] (by omega) ⟨fun p hp => by simp at hp, fun a b _ _ _ ho => by omega, by simp⟩
  | succ d ih =>
    intro i hi
    have hin : i < D.length := by omega
    have q1 : (i : Int) < (D.length : Int) := by omega
    have q2 : (0 : Int) ≤ (i : Int) := by omega
    have q3 : (S.take i).length < 5864062014805 := by rw [List.length_take]; omega
    have hw := w1 i D.length (by omega) (by omega)
    refine Gets.up ?_
    simp only [near_Pairs.l0, hw, at_L]
    simp -implicitDefEqProofs only [if_pos q1, if_pos q2, if_pos q3]
    refine (hSh.2 i hin).2.bind fun r e => ?_
    have es : S.take i ++ [r] = S.take (i + 1) := by
      have hi2 : i < S.length := by rw [hSh.1]; exact hin
      rw [e, List.take_add_one, List.getElem?_eq_getElem hi2, List.getD_eq_getElem?_getD, List.getElem?_eq_getElem hi2]; rfl
    rw [es]
    exact ih (i + 1) (by clear hw; omega)
theorem pairs_f (D : List (List Int)) (S : List (List ByteArray)) (c : Nat → Nat → Nat) (m : Int) (hn : D.length ≤ 8) (hD : ∀ x ∈ D, x.length ≤ 40) (hSh : Sh D S) (hc : Cm S c) (h0 : 0 ≤ m) (h1 : m ≤ 10) :
    Gets (fun k => near_Pairs.f k D m 10) (fun r => r.2 = 0 ∧ Spec S c m r.1) := by
  simp only [near_Pairs.f]
  refine (check_f D hn hD m h0 h1).bind ?_
  rintro _ rfl
  simp only [if_true]
  exact pairs_l0 D S c m hn hSh hc h0 h1 D.length 0 (by omega)
end NearP
end Go.Proofs.Ytcgflahchpeakaa.Pure
