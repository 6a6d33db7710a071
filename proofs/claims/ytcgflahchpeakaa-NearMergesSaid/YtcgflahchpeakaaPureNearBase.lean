/- wrackkeep3.NearMerges: the groups are all texts, each once; the more alike texts must be, the smaller are their groups. For every input. -/
import Derived.Test.YtcgflahchpeakaaPNearMergesx6
import Derived.Test.YtcgflahchpeakaaPlib
namespace Go.Proofs.Ytcgflahchpeakaa.Pure
set_option linter.unusedVariables false
set_option linter.unusedSimpArgs false
open Go.RowKit Go.Proofs.Ytcgflahchpeakaa.PNearMerges Go.Proofs.YtcgflahchpeakaaW.PrintWords Go.Proofs.YtcgflahchpeakaaW.PrintLast Go.Proofs.YtcgflahchpeakaaW.PrintMore Go.Proofs.YtcgflahchpeakaaW.PrintMine Go.Proofs.YtcgflahchpeakaaW.Plib
namespace NearP
theorem Gets.same {α : Type} {g : Nat → Option α} {a b : α} (h1 : Gets g (· = a)) (h2 : Gets g (· = b)) : a = b := by
  obtain ⟨x, rfl, K, hK⟩ := h1
  obtain ⟨y, rfl, L, hL⟩ := h2
  have e1 := hK (max K L) (by omega)
  have e2 := hL (max K L) (by omega)
  rw [e1] at e2
  exact Option.some.inj e2
theorem Gets.pick {α : Type} {g : Nat → Option α} {P : α → Prop} (h : Gets g P) : ∃ a, P a ∧ Gets g (· = a) := by
  obtain ⟨x, hx, K, hK⟩ := h
  exact ⟨x, hx, x, rfl, K, hK⟩
theorem at_one (X : List Int) (i : Nat) : rd X (i : Int) = X.getD i 0 := by simp only [rd, Int.toNat_natCast]
theorem at_str (X : List ByteArray) (i : Nat) : rdOf ByteArray.empty X (i : Int) = X.getD i ByteArray.empty := by simp only [rdOf, Int.toNat_natCast]
theorem w1 (q n : Nat) (h : q < n) (hn : n ≤ 4096) : wrap64 ((q : Int) + 1) = ((q + 1 : Nat) : Int) := by rw [w64] <;> omega
theorem below_f {a n : Int} (hn : 0 < n) (hn2 : n ≤ 9223372036854775807) : wrackmake_Below.f a n = some (a % n) := by
  unfold wrackmake_Below.f
  rw [if_neg (by omega), ← below_val hn hn2]
  split <;> rfl

/-! ## letters -/
theorem letters_l0 (l : List Int) (hl : l.length ≤ 40) (d : Nat) : ∀ (i : Nat) (acc : List Int), i + d = l.length → acc.length ≤ i → Gets (fun k => wrackkeep3_letters.l0 k acc l (l.length : Int) (i : Int)) (fun r => r.length ≤ 40) := by
  induction d with
  | zero =>
    intro i acc h1 h2
    refine Gets.up ?_
    simp only [wrackkeep3_letters.l0, if_neg (show ¬ (i : Int) < (l.length : Int) by omega)]
    exact Gets.ret (by omega)
  | succ d ih =>
    intro i acc h1 h2
    have q1 : (i : Int) < (l.length : Int) := by omega
    have q2 : (0 : Int) ≤ (i : Int) := by omega
    have q3 : acc.length < 140737488355328 := by omega
    have hb := below_f (a := rd l (i : Int)) (n := 5) (by omega) (by omega)
    have hw := w1 i l.length (by omega) (by omega)
    refine Gets.up ?_
    simp only [wrackkeep3_letters.l0, hb, hw]
    simp -implicitDefEqProofs only [if_pos q1, if_pos q2, if_pos q3, Option.bind_some]
    exact ih (i + 1) _ (by clear hw hb; omega) (by clear hw hb; simp; omega)
theorem letters_f (l : List Int) : Gets (fun k => wrackkeep3_letters.f k l 20) (fun r => r.length ≤ 40) := by
  have h1 : mn (l.length : Int) 20 = ((min l.length 20 : Nat) : Int) := by unfold mn; split <;> omega
  simp only [wrackkeep3_letters.f, h1, Int.toNat_natCast, Option.bind_some, if_pos (show (0 : Int) ≤ ((min l.length 20 : Nat) : Int) by omega), if_pos (show ((min l.length 20 : Nat) : Int) ≤ (l.length : Int) by omega)]
  refine letters_l0 (l.take (min l.length 20)) ?_ (l.take (min l.length 20)).length 0 [] (by omega) (by simp)
  rw [List.length_take]
  omega

/-! ## Shingles -/
def Small (S : List ByteArray) : Prop := S.length ≤ 40 ∧ ∀ s ∈ S, s.size ≤ 4
theorem size_of (xs : List Int) : (strOfNums xs).size = xs.length := by
  show ((xs.map fun n => UInt8.ofNat n.toNat).toArray).size = xs.length
  simp
theorem sort_small {S : List ByteArray} (h : Small S) : Small (sortStr S) := by
  refine ⟨by rw [sortStr_len]; exact h.1, fun s hs => ?_⟩
  unfold sortStr at hs
  obtain ⟨l, hl, rfl⟩ := List.mem_map.1 hs
  rw [List.mem_mergeSort] at hl
  obtain ⟨s', hs', rfl⟩ := List.mem_map.1 hl
  have := h.2 s' hs'
  simpa using this
theorem compact_small {S : List ByteArray} (h : Small S) : Small (Go.Lib.compact S) := by
  refine ⟨Nat.le_trans (compact_len S) h.1, fun s hs => ?_⟩
  unfold Go.Lib.compact Go.Lib.compactUpTo at hs
  obtain ⟨j, hj, rfl⟩ := List.mem_map.1 hs
  have hj2 := (List.mem_filter.1 hj).1
  rw [List.mem_range] at hj2
  have e : S.toArray[j]! = S[j] := by simp [hj2]
  rw [e]
  exact h.2 _ (List.getElem_mem _)
theorem shingles_l0 (t : List Int) (ht : t.length ≤ 40) (n : Nat) (hn : n = 0 ∨ n + 3 = t.length) (d : Nat) : ∀ (i : Nat) (S : List ByteArray), i + d = n → S.length ≤ i → (∀ s ∈ S, s.size ≤ 4) → Gets (fun k => near_Shingles.l0 k t S (n : Int) (i : Int)) Small := by
  induction d with
  | zero =>
    intro i S hi hl hs
    have hsm : Small S := ⟨by omega, hs⟩
    refine Gets.up ?_
    simp only [near_Shingles.l0, if_neg (show ¬ (i : Int) < (n : Int) by omega), slices_Sort_string_string.f, if_pos (show S.length < 4611686018427387904 by omega), slices_Compact_string_string.f, Option.bind_some]
    exact Gets.ret (compact_small (sort_small hsm))
  | succ d ih =>
    intro i S hi hl hs
    have q1 : (i : Int) < (n : Int) := by omega
    have q2 : (0 : Int) ≤ (i : Int) := by omega
    have q3 : (i : Int) ≤ ((i + 4 : Nat) : Int) := by omega
    have q4 : ((i + 4 : Nat) : Int) ≤ (t.length : Int) := by omega
    have q5 : S.length < 8796093022208 := by omega
    have key := ih (i + 1) (S ++ [strOfNums ((t.take (i + 4)).drop i)]) (by omega) (by simp; omega) (fun s hs2 => by
      rcases List.mem_append.1 hs2 with hs2 | hs2
      · exact hs s hs2
      · rw [List.mem_singleton.1 hs2, size_of, List.length_drop, List.length_take]; omega)
    have hw := w1 i n (by omega) (by omega)
    have hw2 : wrap64 ((i : Int) + 4) = ((i + 4 : Nat) : Int) := by clear hw; rw [w64] <;> omega
    refine Gets.up ?_
    simp only [near_Shingles.l0, hw, hw2, Int.toNat_natCast]
    simp -implicitDefEqProofs only [if_pos q1, if_pos q2, if_pos q3, if_pos q4, if_pos q5]
    exact key
theorem shingles_f (t : List Int) (ht : t.length ≤ 40) : Gets (fun k => near_Shingles.f k t) Small := by
  have loop : Gets (fun k => near_Shingles.j0 k t [] false) Small := by
    refine Gets.up ?_
    simp only [near_Shingles.j0, if_neg (show ¬ (false = true) by decide)]
    have hw : wrap64 (wrap64 ((t.length : Int) - 4) + 1) = (t.length : Int) - 3 := by rw [w64 (n := (t.length : Int) - 4) (by omega) (by omega), w64] <;> omega
    rw [hw]
    by_cases c : 3 ≤ t.length
    · have := shingles_l0 t ht (t.length - 3) (.inr (by omega)) (t.length - 3) 0 [] (by omega) (by simp) (fun s hs => by simp at hs)
      rwa [show ((t.length - 3 : Nat) : Int) = (t.length : Int) - 3 by omega] at this
    · have q1 : ¬ (0 : Int) < (t.length : Int) - 3 := by omega
      refine Gets.up ?_
      simp only [near_Shingles.l0, if_neg q1, slices_Sort_string_string.f, slices_Compact_string_string.f, List.length_nil, if_pos (show 0 < 4611686018427387904 by omega), Option.bind_some]
      exact Gets.ret (compact_small (sort_small ⟨by simp, fun s hs => by simp at hs⟩))
  unfold near_Shingles.f
  by_cases c : (t.length : Int) > 0
  · simp only [if_pos c]
    by_cases c2 : (t.length : Int) < 4
    · rw [decide_eq_true c2]
      refine Gets.up ?_
      simp only [near_Shingles.j0, if_true]
      exact Gets.ret ⟨by simp, fun s hs => by rw [List.mem_singleton.1 hs, size_of]; omega⟩
    · rw [decide_eq_false c2]
      exact loop
  · simp only [if_neg c]
    exact loop

/-! ## common -/
theorem less_asym : ∀ x y : List UInt8, Op.bytesLess x y = true → Op.bytesLess y x = false
  | [], [], h => by simp [Op.bytesLess] at h
  | [], _ :: _, _ => by simp [Op.bytesLess]
  | _ :: _, [], h => by simp [Op.bytesLess] at h
  | a :: x, b :: y, h => by
    simp only [Op.bytesLess, Bool.or_eq_true, Bool.and_eq_true, decide_eq_true_eq, beq_iff_eq] at h
    simp only [Op.bytesLess, Bool.or_eq_false_iff, Bool.and_eq_false_iff, decide_eq_false_iff_not, beq_eq_false_iff_ne]
    rcases h with h | ⟨rfl, h⟩
    · exact ⟨fun h2 => UInt8.lt_asymm h h2, .inl (fun e => by subst e; exact UInt8.lt_irrefl _ h)⟩
    · exact ⟨UInt8.lt_irrefl _, .inr (less_asym x y h)⟩
/-- How two strings compare. -/
def cmpS (x y : ByteArray) : Int := if Op.bytesLess x.toList y.toList = true then -1 else if Op.bytesLess y.toList x.toList = true then 1 else 0
theorem compare_f (x y : ByteArray) : cmp_Compare_string.f x y = some (cmpS x y) := by
  have h : ∀ z : ByteArray, cmp_isNaN_string.f z = some false := by intro z; simp [cmp_isNaN_string.f]
  simp only [cmp_Compare_string.f, h, Option.bind_some, if_neg (show ¬ (false = true) by decide)]
  unfold cmpS
  split
  · rfl
  · split <;> rfl
theorem cmp_self (x : ByteArray) : cmpS x x = 0 := by
  unfold cmpS
  cases c : Op.bytesLess x.toList x.toList with
  | false => simp
  | true => have := less_asym _ _ c; rw [c] at this; exact absurd this (by decide)
theorem cmp_swap (x y : ByteArray) : cmpS y x = - cmpS x y := by
  unfold cmpS
  cases c : Op.bytesLess x.toList y.toList with
  | true => have := less_asym _ _ c; simp [this]
  | false => cases c2 : Op.bytesLess y.toList x.toList with
    | true => simp
    | false => simp
def ans (X Y : List ByteArray) (n : Nat) : Int × Int := ((n : Int), (X.length : Int) + (Y.length : Int) - (n : Int))
theorem common_end (X Y : List ByteArray) (hX : X.length ≤ 40) (hY : Y.length ≤ 40) (n i j : Nat) (hn : n ≤ 40) (h : X.length ≤ i ∨ Y.length ≤ j) : Gets (fun k => near_common.l0 k X Y (n : Int) (i : Int) (j : Int)) (· = ans X Y n) := by
  have hw : wrap64 (wrap64 ((X.length : Int) + (Y.length : Int)) - (n : Int)) = (X.length : Int) + (Y.length : Int) - (n : Int) := by rw [w64 (n := (X.length : Int) + (Y.length : Int)) (by omega) (by omega), w64] <;> omega
  have fin : Gets (fun k => near_common.j1 k X Y (n : Int) (i : Int) (j : Int) false) (· = ans X Y n) := by
    refine Gets.up ?_
    simp only [near_common.j1, if_neg (show ¬ (false = true) by decide), hw]
    exact Gets.ret rfl
  refine Gets.up ?_
  by_cases c : (i : Int) < (X.length : Int)
  · have q : ¬ (j : Int) < (Y.length : Int) := by clear hw; omega
    simp only [near_common.l0]
    rw [decide_eq_false q]
    simp -implicitDefEqProofs only [if_pos c]
    exact fin
  · simp only [near_common.l0]
    simp -implicitDefEqProofs only [if_neg c]
    exact fin
theorem common_step (X Y : List ByteArray) (hX : X.length ≤ 40) (hY : Y.length ≤ 40) (n i j : Nat) (hn : n ≤ 40) (hi : i < X.length) (hj : j < Y.length) {P : Int × Int → Prop}
    (K0 : cmpS (X.getD i ByteArray.empty) (Y.getD j ByteArray.empty) = 0 → Gets (fun k => near_common.l0 k X Y ((n + 1 : Nat) : Int) ((i + 1 : Nat) : Int) ((j + 1 : Nat) : Int)) P)
    (K1 : cmpS (X.getD i ByteArray.empty) (Y.getD j ByteArray.empty) < 0 → Gets (fun k => near_common.l0 k X Y (n : Int) ((i + 1 : Nat) : Int) (j : Int)) P)
    (K2 : cmpS (X.getD i ByteArray.empty) (Y.getD j ByteArray.empty) > 0 → Gets (fun k => near_common.l0 k X Y (n : Int) (i : Int) ((j + 1 : Nat) : Int)) P) : Gets (fun k => near_common.l0 k X Y (n : Int) (i : Int) (j : Int)) P := by
  have q1 : (i : Int) < (X.length : Int) := by omega
  have q2 : (j : Int) < (Y.length : Int) := by omega
  have q3 : (0 : Int) ≤ (i : Int) := by omega
  have q4 : (0 : Int) ≤ (j : Int) := by omega
  generalize hc : cmpS (X.getD i ByteArray.empty) (Y.getD j ByteArray.empty) = c at *
  have a1 := w1 n 41 (by omega) (by omega)
  have a2 := w1 i X.length hi (by omega)
  have a3 := w1 j Y.length hj (by omega)
  refine Gets.up ?_
  simp only [near_common.l0]
  rw [decide_eq_true q2]
  simp -implicitDefEqProofs only [if_pos q1]
  refine Gets.up ?_
  simp only [near_common.j1, at_str, compare_f, hc, a1, a2, a3]
  simp -implicitDefEqProofs only [if_pos q1, if_pos q2, if_pos q3, if_pos q4, if_true, Option.bind_some]
  by_cases c0 : c = 0
  · simp -implicitDefEqProofs only [if_pos c0]
    exact K0 c0
  · by_cases c1 : c < 0
    · simp -implicitDefEqProofs only [if_neg c0, if_pos c1]
      exact K1 c1
    · simp -implicitDefEqProofs only [if_neg c0, if_neg c1]
      exact K2 (by clear a1 a2 a3; omega)
theorem common_both (X Y : List ByteArray) (hX : X.length ≤ 40) (hY : Y.length ≤ 40) (d : Nat) : ∀ (n i j : Nat), n ≤ i → n ≤ j → i ≤ X.length → j ≤ Y.length → (X.length - i) + (Y.length - j) ≤ d →
    ∃ m : Nat, m ≤ X.length ∧ m ≤ Y.length ∧ Gets (fun k => near_common.l0 k X Y (n : Int) (i : Int) (j : Int)) (· = ans X Y m) ∧ Gets (fun k => near_common.l0 k Y X (n : Int) (j : Int) (i : Int)) (· = ans Y X m) := by
  induction d with
  | zero =>
    intro n i j h1 h2 h3 h4 hd
    exact ⟨n, by omega, by omega, common_end X Y hX hY n i j (by omega) (by omega), common_end Y X hY hX n j i (by omega) (by omega)⟩
  | succ d ih =>
    intro n i j h1 h2 h3 h4 hd
    by_cases c : X.length ≤ i ∨ Y.length ≤ j
    · exact ⟨n, by omega, by omega, common_end X Y hX hY n i j (by omega) c, common_end Y X hY hX n j i (by omega) (by omega)⟩
    · have hs := cmp_swap (X.getD i ByteArray.empty) (Y.getD j ByteArray.empty)
      have st1 := fun {P} => @common_step X Y hX hY n i j (by omega) (by omega) (by omega) P
      have st2 := fun {P} => @common_step Y X hY hX n j i (by omega) (by omega) (by omega) P
      generalize cmpS (X.getD i ByteArray.empty) (Y.getD j ByteArray.empty) = a at *
      generalize cmpS (Y.getD j ByteArray.empty) (X.getD i ByteArray.empty) = b at *
      by_cases c0 : a = 0
      · obtain ⟨m, e1, e2, g1, g2⟩ := ih (n + 1) (i + 1) (j + 1) (by omega) (by omega) (by omega) (by omega) (by omega)
        exact ⟨m, e1, e2, st1 (fun _ => g1) (fun h => by omega) (fun h => by omega), st2 (fun _ => g2) (fun h => by omega) (fun h => by omega)⟩
      · by_cases c1 : a < 0
        · obtain ⟨m, e1, e2, g1, g2⟩ := ih n (i + 1) j (by omega) (by omega) (by omega) (by omega) (by omega)
          exact ⟨m, e1, e2, st1 (fun h => by omega) (fun _ => g1) (fun h => by omega), st2 (fun h => by omega) (fun h => by omega) (fun _ => g2)⟩
        · obtain ⟨m, e1, e2, g1, g2⟩ := ih n i (j + 1) (by omega) (by omega) (by omega) (by omega) (by omega)
          exact ⟨m, e1, e2, st1 (fun h => by omega) (fun h => by omega) (fun _ => g1), st2 (fun h => by omega) (fun _ => g2) (fun h => by omega)⟩
theorem common_self (X : List ByteArray) (hX : X.length ≤ 40) (d : Nat) : ∀ i : Nat, i + d = X.length → Gets (fun k => near_common.l0 k X X (i : Int) (i : Int) (i : Int)) (· = ans X X X.length) := by
  induction d with
  | zero =>
    intro i hi
    obtain rfl : i = X.length := by omega
    exact common_end X X hX hX _ _ _ (by omega) (.inl (Nat.le_refl _))
  | succ d ih =>
    intro i hi
    have hs := cmp_self (X.getD i ByteArray.empty)
    exact common_step X X hX hX i i i (by omega) (by omega) (by omega) (fun _ => ih (i + 1) (by omega)) (fun h => by omega) (fun h => by omega)

/-! ## Signature, Alike, Equal -/
theorem hash_l0 (l : List Int) (hl : l.length ≤ 4000) (d : Nat) : ∀ (i : Nat) (h : Int), i + d = l.length → Gets (fun k => sum_Hash.l0 k h l (l.length : Int) (i : Int)) (fun _ => True) := by
  induction d with
  | zero =>
    intro i h hi
    refine Gets.up ?_
    simp only [sum_Hash.l0, if_neg (show ¬ (i : Int) < (l.length : Int) by omega)]
    exact Gets.ret trivial
  | succ d ih =>
    intro i h hi
    have q1 : (i : Int) < (l.length : Int) := by omega
    have q2 : (0 : Int) ≤ (i : Int) := by omega
    have hw := w1 i l.length (by omega) (by omega)
    refine Gets.up ?_
    simp only [sum_Hash.l0, hw]
    simp -implicitDefEqProofs only [if_pos q1, if_pos q2]
    exact ih (i + 1) _ (by clear hw; omega)
theorem hash_f (l : List Int) (hl : l.length ≤ 4000) : Gets (fun k => sum_Hash.f k l) (fun _ => True) := by
  unfold sum_Hash.f
  exact hash_l0 l hl l.length 0 _ (by omega)
theorem bytes_len (s : ByteArray) : (bytesOf s).length = s.size := by
  simp [bytesOf]
theorem sig_l1 (S : List ByteArray) (hS : Small S) {i : Nat} (hi : i < S.length) (s : ByteArray) (hs : s.size ≤ 4) {P : List Int → Prop}
    (K : ∀ G : List Int, G.length = 16 → Gets (fun k => near_Signature.l0 k G S (S.length : Int) ((i + 1 : Nat) : Int)) P) (d : Nat) :
    ∀ (q : Nat) (G : List Int), q + d = 16 → G.length = 16 → Gets (fun k => near_Signature.l1 k G (i : Int) s S (S.length : Int) (i : Int) 16 (q : Int)) P := by
  have hS1 := hS.1
  induction d with
  | zero =>
    intro q G hq hG
    have q1 : ¬ (q : Int) < 16 := by omega
    have hw := w1 i S.length hi (by omega)
    refine Gets.up ?_
    simp only [near_Signature.l1, hw]
    simp -implicitDefEqProofs only [if_neg q1]
    exact K G hG
  | succ d ih =>
    intro q G hq hG
    have q1 : (q : Int) < 16 := by omega
    have q2 : (0 : Int) ≤ (q : Int) := by omega
    have q3 : (q : Int) < (G.length : Int) := by omega
    have q4 : ([(q : Int) % 256] : List Int).length + s.size < 140737488355328 := by simp only [List.length_singleton]; omega
    have hlen : ([(q : Int) % 256] ++ bytesOf s).length ≤ 4000 := by rw [List.length_append, bytes_len]; simp only [List.length_singleton]; omega
    have hw := w1 q 16 (by omega) (by omega)
    refine Gets.up ?_
    simp only [near_Signature.l1, hw, Int.toNat_natCast, Option.bind_some]
    simp -implicitDefEqProofs only [if_pos q1, if_pos q4]
    refine (hash_f _ hlen).bind fun h _ => ?_
    have set := ih (q + 1) (G.set q h) (by clear hw; omega) (by rw [List.length_set]; exact hG)
    have keep := ih (q + 1) G (by clear hw; omega) hG
    by_cases c : (i : Int) = 0
    · simp -implicitDefEqProofs only [if_pos c, if_pos q2, if_pos q3]
      exact set
    · simp -implicitDefEqProofs only [if_neg c, if_pos q2, if_pos q3]
      by_cases c2 : h < rd G (q : Int)
      · simp -implicitDefEqProofs only [if_pos c2]
        exact set
      · simp -implicitDefEqProofs only [if_neg c2]
        exact keep
theorem sig_l0 (S : List ByteArray) (hS : Small S) (d : Nat) : ∀ (i : Nat) (G : List Int), i + d = S.length → G.length = 16 → Gets (fun k => near_Signature.l0 k G S (S.length : Int) (i : Int)) (fun r => r.length = 16) := by
  induction d with
  | zero =>
    intro i G hi hG
    refine Gets.up ?_
    simp only [near_Signature.l0, if_neg (show ¬ (i : Int) < (S.length : Int) by omega)]
    exact Gets.ret hG
  | succ d ih =>
    intro i G hi hG
    have q1 : (i : Int) < (S.length : Int) := by omega
    have q2 : (0 : Int) ≤ (i : Int) := by omega
    have hs : (S.getD i ByteArray.empty).size ≤ 4 := by
      rw [List.getD_eq_getElem?_getD, List.getElem?_eq_getElem (by omega : i < S.length)]
      exact hS.2 _ (List.getElem_mem _)
    refine Gets.up ?_
    simp only [near_Signature.l0, at_str, hG]
    simp -implicitDefEqProofs only [if_pos q1, if_pos q2]
    exact sig_l1 S hS (show i < S.length by omega) _ hs (fun G' hG' => ih (i + 1) G' (by omega) hG') 16 0 G (by omega) hG
def S4 : List ByteArray := [strOfNums [97, 98, 99, 100]]
def S5 : List ByteArray := [strOfNums [97, 98, 99, 100], strOfNums [98, 99, 100, 101]]
theorem sort4 : sortStr S4 = S4 := by
  unfold sortStr
  rw [List.mergeSort_of_pairwise (by simp [S4])]
  rfl
theorem sort5 : sortStr S5 = S5 := by
  unfold sortStr
  rw [List.mergeSort_of_pairwise (by decide +kernel)]
  rfl
theorem sort0 : sortStr [] = [] := by simp [sortStr]
theorem sh4 : near_Shingles.f 10 [97, 98, 99, 100] = some S4 := by
  have e : near_Shingles.f 10 [97, 98, 99, 100] = (slices_Sort_string_string.f S4).bind fun t => (slices_Compact_string_string.f t).bind fun t => some t := by
    simp [near_Shingles.f, near_Shingles.j0, near_Shingles.l0, wrap64, S4]
  rw [e, slices_Sort_string_string.f, sort4]
  decide +kernel
theorem sh5 : near_Shingles.f 10 [97, 98, 99, 100, 101] = some S5 := by
  have e : near_Shingles.f 10 [97, 98, 99, 100, 101] = (slices_Sort_string_string.f S5).bind fun t => (slices_Compact_string_string.f t).bind fun t => some t := by
    simp [near_Shingles.f, near_Shingles.j0, near_Shingles.l0, wrap64, S5]
  rw [e, slices_Sort_string_string.f, sort5]
  decide +kernel
theorem sh0 : near_Shingles.f 10 [] = some [] := by
  have e : near_Shingles.f 10 [] = (slices_Sort_string_string.f []).bind fun t => (slices_Compact_string_string.f t).bind fun t => some t := by
    simp [near_Shingles.f, near_Shingles.j0, near_Shingles.l0, wrap64]
  rw [e, slices_Sort_string_string.f, sort0]
  decide +kernel
theorem shingled_f : Gets (fun k => wrackkeep3_shingled.f k) (· = true) := by
  simp only [wrackkeep3_shingled.f, near_Common.f, near_Signature.f, if_pos (show 16 ≤ 35184372088832 by omega)]
  have g4 : Gets (fun k => near_Shingles.f k [97, 98, 99, 100]) (· = S4) := Gets.of_mono (near_Shingles.mono _) sh4 rfl
  have g5 : Gets (fun k => near_Shingles.f k [97, 98, 99, 100, 101]) (· = S5) := Gets.of_mono (near_Shingles.mono _) sh5 rfl
  have g0 : Gets (fun k => near_Shingles.f k []) (· = []) := Gets.of_mono (near_Shingles.mono _) sh0 rfl
  have gc : Gets (fun k => near_common.f k S4 S5) (· = (1, 2)) := Gets.of_mono (near_common.mono _ _) (k := 20) (by decide +kernel) rfl
  refine Gets.bind (P := fun r => r = (1, 2)) ?_ ?_
  · refine g4.bind fun _ e => ?_
    subst e
    refine g5.bind fun _ e => ?_
    subst e
    refine gc.bind fun _ e => ?_
    subst e
    exact Gets.ret rfl
  · rintro _ rfl
    simp only [if_true]
    refine Gets.bind (P := fun r => r.length = 16) ?_ ?_
    · refine g0.bind fun _ e => ?_
      subst e
      exact sig_l0 [] ⟨by simp, fun s hs => by simp at hs⟩ 0 0 (List.replicate 16 0) (by simp) (by simp)
    · intro r hr
      rw [hr]
      exact Gets.ret rfl
end NearP
end Go.Proofs.Ytcgflahchpeakaa.Pure
