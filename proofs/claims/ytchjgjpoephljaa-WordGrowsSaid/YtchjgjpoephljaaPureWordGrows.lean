/- wrackkeep3.WordGrows: an index to which texts are added one by one is that of all texts: the numbers of rounds. For every input. -/
import Derived.Test.YtchjgjpoephljaaPWordGrowsx5
import Derived.Test.YtchjgjpoephljaaPlib
namespace Go.Proofs.Ytchjgjpoephljaa.Pure
set_option linter.unusedVariables false
set_option linter.unusedSimpArgs false
open Go.RowKit Go.Proofs.Ytchjgjpoephljaa.PWordGrows Go.Proofs.YtchjgjpoephljaaW.PrintWords Go.Proofs.YtchjgjpoephljaaW.PrintLast Go.Proofs.YtchjgjpoephljaaW.PrintMore Go.Proofs.YtchjgjpoephljaaW.PrintMine Go.Proofs.YtchjgjpoephljaaW.Plib
namespace WordP
theorem w1 (q n : Nat) (h : q < n) (hn : n ≤ 1000000) : wrap64 ((q : Int) + 1) = ((q + 1 : Nat) : Int) := by rw [w64] <;> omega
def Good (ws : List ByteArray) : Prop := ws.length ≤ 1000 ∧ ∀ s ∈ ws, s.size ≤ 1000
theorem size_of (xs : List Int) : (strOfNums xs).size = xs.length := by
  show ((xs.map fun n => UInt8.ofNat n.toNat).toArray).size = xs.length
  simp
/-- What comes behind a letter. -/
structure Nx (t : List Int) (S : List ByteArray) (now : List Int) (i : Nat) : Prop where
  a : ∀ x : Int, Gets (fun k => word_Words.l0 k t S (now ++ [x]) ((i + 1 : Nat) : Int)) Good
  b : 0 < now.length → Gets (fun k => word_Words.l0 k t (S ++ [strOfNums now]) [] ((i + 1 : Nat) : Int)) Good
  c : Gets (fun k => word_Words.l0 k t S now ((i + 1 : Nat) : Int)) Good
theorem j5_g {t : List Int} {S : List ByteArray} {now : List Int} {i : Nat} (h : Nx t S now i) (hi : i ≤ 400) (hS : S.length ≤ 400) (hn : now.length ≤ 400) (x : Int) (b : Bool) : Gets (fun k => word_Words.j5 k t S now (i : Int) x b) Good := by
  have hw := w1 i 401 (by omega) (by omega)
  have q1 : now.length < 140737488355328 := by omega
  have q2 : S.length < 8796093022208 := by omega
  refine Gets.up ?_
  simp only [word_Words.j5, hw]
  by_cases c : b = true
  · simp -implicitDefEqProofs only [if_pos c, if_pos q1]
    exact h.a x
  · simp -implicitDefEqProofs only [if_neg c]
    by_cases c2 : (now.length : Int) > 0
    · simp -implicitDefEqProofs only [if_pos c2, if_pos q2]
      exact h.b (by omega)
    · simp -implicitDefEqProofs only [if_neg c2]
      exact h.c
theorem j4_g {t : List Int} {S : List ByteArray} {now : List Int} {i : Nat} (h : Nx t S now i) (hi : i ≤ 400) (hS : S.length ≤ 400) (hn : now.length ≤ 400) (x : Int) (b : Bool) : Gets (fun k => word_Words.j4 k t S now (i : Int) x b) Good := by
  refine Gets.up ?_
  simp only [word_Words.j4]
  split
  · exact j5_g h hi hS hn x _
  · split
    · exact j5_g h hi hS hn x _
    · exact j5_g h hi hS hn x _
theorem j3_g {t : List Int} {S : List ByteArray} {now : List Int} {i : Nat} (h : Nx t S now i) (hi : i ≤ 400) (hS : S.length ≤ 400) (hn : now.length ≤ 400) (x : Int) : Gets (fun k => word_Words.j3 k t S now (i : Int) x) Good := by
  refine Gets.up ?_
  simp only [word_Words.j3]
  split
  · exact j4_g h hi hS hn x _
  · exact j4_g h hi hS hn x _
theorem j2_g {t : List Int} {S : List ByteArray} {now : List Int} {i : Nat} (h : Nx t S now i) (hi : i ≤ 400) (hS : S.length ≤ 400) (hn : now.length ≤ 400) (x : Int) (b : Bool) : Gets (fun k => word_Words.j2 k t S now (i : Int) x b) Good := by
  refine Gets.up ?_
  simp only [word_Words.j2]
  split
  · exact j3_g h hi hS hn _
  · exact j3_g h hi hS hn x
theorem j1_g {t : List Int} {S : List ByteArray} {now : List Int} {i : Nat} (h : Nx t S now i) (hi : i ≤ 400) (hS : S.length ≤ 400) (hn : now.length ≤ 400) (x : Int) : Gets (fun k => word_Words.j1 k t S now (i : Int) x) Good := by
  refine Gets.up ?_
  simp only [word_Words.j1]
  split
  · exact j2_g h hi hS hn x _
  · exact j2_g h hi hS hn x _
theorem words_l0 (t : List Int) (ht : t.length ≤ 300) (d : Nat) : ∀ (i : Nat) (S : List ByteArray) (now : List Int), i + d = t.length + 1 → S.length ≤ i → now.length ≤ i → (∀ s ∈ S, s.size ≤ 1000) → Gets (fun k => word_Words.l0 k t S now (i : Int)) Good := by
  induction d with
  | zero =>
    intro i S now hi hS hn hs
    have q : ¬ (i : Int) ≤ (t.length : Int) := by omega
    refine Gets.up ?_
    simp only [word_Words.l0]
    simp -implicitDefEqProofs only [if_neg q]
    exact Gets.ret ⟨by omega, hs⟩
  | succ d ih =>
    intro i S now hi hS hn hs
    have h : Nx t S now i := ⟨fun x => ih (i + 1) S _ (by omega) (by omega) (by rw [List.length_append]; simp only [List.length_singleton]; omega) hs, fun _ => ih (i + 1) _ [] (by omega) (by rw [List.length_append]; simp only [List.length_singleton]; omega) (by simp) (fun s hs2 => by
      rcases List.mem_append.1 hs2 with hs2 | hs2
      · exact hs s hs2
      · rw [List.mem_singleton.1 hs2, size_of]; omega), ih (i + 1) S now (by omega) (by omega) (by omega) hs⟩
    have q1 : (i : Int) ≤ (t.length : Int) := by omega
    have q2 : (0 : Int) ≤ (i : Int) := by omega
    refine Gets.up ?_
    simp only [word_Words.l0]
    simp -implicitDefEqProofs only [if_pos q1, if_pos q2]
    split
    · exact j1_g h (by omega) (by omega) (by omega) _
    · exact j1_g h (by omega) (by omega) (by omega) 0
theorem words_f (t : List Int) (ht : t.length ≤ 300) : Gets (fun k => word_Words.f k t) Good := by
  unfold word_Words.f
  exact words_l0 t ht (t.length + 1) 0 [] [] (by omega) (by simp) (by simp) (fun s hs => by simp at hs)
theorem words_T0 : word_Words.f 200 T0 = some [sA, sB, sA, sC] := by decide +kernel
theorem txt_len (x : List Int) : (txt x).length ≤ 210 := by
  have hp : ∀ n : Int, (pcs.getD (n % 6).toNat []).length ≤ 7 := fun n => by
    have h1 := Int.emod_nonneg n (show (6 : Int) ≠ 0 by omega)
    have h2 := Int.emod_lt_of_pos n (show (0 : Int) < 6 by omega)
    have h : ∀ i : Fin 6, (pcs.getD i.val []).length ≤ 7 := by decide +kernel
    exact h ⟨(n % 6).toNat, by omega⟩
  have h : ∀ l : List Int, (l.flatMap fun n => pcs.getD (n % 6).toNat []).length ≤ 7 * l.length := by
    intro l
    induction l with
    | nil => simp
    | cons a t ih => rw [List.flatMap_cons, List.length_append, List.length_cons]; have := hp a; omega
  have := h (x.take 30)
  rw [List.length_take] at this
  unfold txt
  omega
theorem all_words : ∀ l : List (List Int), (∀ x ∈ l, x.length ≤ 210) → ∃ wss : List (List ByteArray), wss.length = l.length ∧ (∀ ws ∈ wss, Good ws) ∧ ∃ K, ∀ k, K ≤ k → ∀ i, i < l.length → word_Words.f k (l.getD i []) = some (wss.getD i [])
  | [], _ => ⟨[], rfl, fun ws h => by simp at h, 0, fun k _ i hi => by simp at hi⟩
  | x :: t, h => by
    obtain ⟨wss, h1, h2, K, h3⟩ := all_words t (fun y hy => h y (List.mem_cons_of_mem _ hy))
    obtain ⟨ws, g1, L, g2⟩ := words_f x (by have := h x List.mem_cons_self; omega)
    refine ⟨ws :: wss, by simp [h1], fun y hy => ?_, max K L, fun k hk i hi => ?_⟩
    · rcases List.mem_cons.1 hy with rfl | hy
      · exact g1
      · exact h2 y hy
    · cases i with
      | zero => exact g2 k (by omega)
      | succ i => exact h3 k (by omega) i (by simpa using hi)
theorem eqS_l0 (X : List ByteArray) (hX : X.length ≤ 500000) (d : Nat) : ∀ i : Nat, i + d = X.length → Gets (fun k => slices_Equal_string_string.l0 k X X (X.length : Int) (i : Int)) (· = true) := by
  induction d with
  | zero =>
    intro i hi
    refine Gets.up ?_
    simp only [slices_Equal_string_string.l0, if_neg (show ¬ (i : Int) < (X.length : Int) by omega)]
    exact Gets.ret rfl
  | succ d ih =>
    intro i hi
    have q1 : (i : Int) < (X.length : Int) := by omega
    have q2 : (0 : Int) ≤ (i : Int) := by omega
    have hw := w1 i X.length (by omega) (by omega)
    refine Gets.up ?_
    simp only [slices_Equal_string_string.l0, hw]
    simp -implicitDefEqProofs only [if_pos q1, if_pos q2, if_true]
    exact ih (i + 1) (by clear hw; omega)
theorem eqS_f (X : List ByteArray) (hX : X.length ≤ 500000) : Gets (fun k => slices_Equal_string_string.f k X X) (· = true) := by
  simp only [slices_Equal_string_string.f, if_true]
  exact eqS_l0 X hX X.length 0 (by omega)
theorem eqP_l0 (X : List S39) (hX : X.length ≤ 500000) (d : Nat) : ∀ i : Nat, i + d = X.length → Gets (fun k => word_Place_22.l0 k X X (X.length : Int) (i : Int)) (· = true) := by
  induction d with
  | zero =>
    intro i hi
    refine Gets.up ?_
    simp only [word_Place_22.l0, if_neg (show ¬ (i : Int) < (X.length : Int) by omega)]
    exact Gets.ret rfl
  | succ d ih =>
    intro i hi
    have q1 : (i : Int) < (X.length : Int) := by omega
    have q2 : (0 : Int) ≤ (i : Int) := by omega
    have hw := w1 i X.length (by omega) (by omega)
    have q3 : ¬ ((!(((rd_T39 X (i : Int)).f0) == ((rd_T39 X (i : Int)).f0)) || (!(((rd_T39 X (i : Int)).f1) == ((rd_T39 X (i : Int)).f1)))) = true) := by simp
    refine Gets.up ?_
    simp only [word_Place_22.l0, hw]
    simp -implicitDefEqProofs only [if_pos q1, if_pos q2, if_neg q3]
    exact ih (i + 1) (by clear hw; omega)
theorem eqP_f (X : List S39) (hX : X.length ≤ 500000) : Gets (fun k => word_Place_22.f k X X) (· = true) := by
  simp only [word_Place_22.f, if_true]
  exact eqP_l0 X hX X.length 0 (by omega)
theorem addW_new (n : Int) (s : ByteArray) : ∀ (ws : List ByteArray) (P : ByteArray → List S39) (i : Nat), addW P n i ws s ≠ [] → P s ≠ [] ∨ s ∈ ws
  | [], P, i, h => .inl h
  | x :: t, P, i, h => by
    rcases addW_new n s t _ (i + 1) h with h | h
    · unfold updS at h
      split at h
      case isTrue e => exact .inr (by rw [e]; exact List.mem_cons_self)
      case isFalse => exact .inl h
    · exact .inr (List.mem_cons_of_mem _ h)
theorem idxP_new (s : ByteArray) : ∀ (wss : List (List ByteArray)) (P : ByteArray → List S39) (n : Nat), idxP P n wss s ≠ [] → P s ≠ [] ∨ s ∈ wss.flatten
  | [], P, n, h => .inl h
  | ws :: t, P, n, h => by
    rcases idxP_new s t _ (n + 1) h with h | h
    · rcases addW_new n s ws P 0 h with h | h
      · exact .inl h
      · exact .inr (by rw [List.flatten_cons]; exact List.mem_append_left _ h)
    · exact .inr (by rw [List.flatten_cons]; exact List.mem_append_right _ h)
theorem nodup_sub {α : Type} [DecidableEq α] {l1 : List α} : ∀ {l2 : List α}, l1.Nodup → (∀ x ∈ l1, x ∈ l2) → l1.length ≤ l2.length := by
  induction l1 with
  | nil => intro l2 _ _; exact Nat.zero_le _
  | cons a t ih =>
    intro l2 hn hs
    obtain ⟨h1, h2⟩ := List.nodup_cons.1 hn
    have ha := hs a List.mem_cons_self
    have hp : 0 < l2.length := List.length_pos_of_mem ha
    have e := List.length_erase_of_mem ha
    have := ih (l2 := l2.erase a) h2 (fun x hx => (List.mem_erase_of_ne (fun e : x = a => h1 (by rw [← e]; exact hx))).2 (hs x (List.mem_cons_of_mem _ hx)))
    rw [List.length_cons]
    omega
theorem flat_len : ∀ wss : List (List ByteArray), wss.flatten.length = idxN wss
  | [] => rfl
  | ws :: t => by rw [List.flatten_cons, List.length_append, flat_len t]; rfl
theorem law (l : List (List Int)) (a1 : Int) : ∃ (k j : Nat) (wss : List (List ByteArray)), WordsOf k (txts l) wss ∧ word_Words.f k T0 = some [sA, sB, sA, sC] ∧ wrackmake_Below.f a1 5 = some (j : Int) ∧ j < 5 ∧
    (∀ ks, KeysOf' (idxP (fun _ => []) 0 wss) ks → slices_Equal_string_string.f k (sortStr ks) (sortStr ks) = some true) ∧ word_Place_22.f k (idxP (fun _ => []) 0 wss (rdOf ByteArray.empty w5lits (j : Int))) (idxP (fun _ => []) 0 wss (rdOf ByteArray.empty w5lits (j : Int))) = some true := by
  have r1 := Int.emod_nonneg a1 (show (5 : Int) ≠ 0 by omega)
  have r2 := Int.emod_lt_of_pos a1 (show (0 : Int) < 5 by omega)
  have hb := below_emod (x := a1) (n := 5) (by omega) (by omega)
  obtain ⟨j, hj⟩ : ∃ j : Nat, a1 % 5 = (j : Int) := ⟨(a1 % 5).toNat, by omega⟩
  rw [hj] at hb r2
  have hlen : (txts l).length ≤ 6 := by unfold txts; rw [List.length_map, List.length_take]; omega
  obtain ⟨wss, h1, h2, K, h3⟩ := all_words (txts l) (fun x hx => by
    obtain ⟨y, -, rfl⟩ := List.mem_map.1 hx
    exact txt_len y)
  have hN : idxN wss ≤ 6000 := by
    have h := idxN_le (wss := wss) (m := 1000) (fun ws hw => (h2 ws hw).1)
    have : wss.length * 1000 ≤ 6 * 1000 := Nat.mul_le_mul_right _ (by omega)
    omega
  obtain ⟨b, hbt, K2, g2⟩ := eqP_f (idxP (fun _ => []) 0 wss (rdOf ByteArray.empty w5lits (j : Int))) (by
    have h := idxP_len (rdOf ByteArray.empty w5lits (j : Int)) wss (fun _ => []) 0
    simp only [List.length_nil] at h
    omega)
  have hk : ∃ K3, ∀ k, K3 ≤ k → ∀ ks, KeysOf' (idxP (fun _ => []) 0 wss) ks → slices_Equal_string_string.f k (sortStr ks) (sortStr ks) = some true := by
    by_cases c : ∃ ks, KeysOf' (idxP (fun _ => []) 0 wss) ks
    · obtain ⟨ks0, c⟩ := c
      have hl : ks0.length ≤ idxN wss := by
        rw [← flat_len]
        refine nodup_sub c.1 fun s hs => ?_
        rcases idxP_new s wss _ 0 ((c.2 s).1 hs).2 with h | h
        · exact absurd rfl h
        · exact h
      obtain ⟨b3, hb3, K3, g3⟩ := eqS_f (sortStr ks0) (by rw [sortStr_len]; omega)
      refine ⟨K3, fun k hk ks h => ?_⟩
      rw [keys_sort h c]; exact (g3 k hk).trans (by rw [hb3])
    · exact ⟨0, fun k _ ks h => absurd ⟨ks, h⟩ c⟩
  obtain ⟨K3, g3⟩ := hk
  obtain ⟨b4, hb4, K4, g4⟩ := Gets.of_mono (g := fun k => word_Words.f k T0) (P := (· = [sA, sB, sA, sC])) (word_Words.mono _) words_T0 rfl
  refine ⟨max (max K K2) (max K3 K4), j, wss, ⟨by omega, h1, fun i hi => ⟨h3 _ (by omega) i hi, ?_⟩, fun ws hw => ⟨(h2 ws hw).1, fun s hs => ?_⟩⟩, ?_, hb, by omega, g3 _ (by omega), ?_⟩
  · have hm : (txts l).getD i [] ∈ txts l := by rw [List.getD_eq_getElem?_getD, List.getElem?_eq_getElem hi]; exact List.getElem_mem hi
    obtain ⟨y, -, e⟩ := List.mem_map.1 hm
    rw [← e]
    have := txt_len y
    omega
  · have := (h2 ws hw).2 s hs
    unfold maxLen
    omega
  · exact (g4 (max (max K K2) (max K3 K4)) (by omega)).trans (by rw [hb4])
  · exact (g2 (max (max K K2) (max K3 K4)) (by omega)).trans (by rw [hbt])
end WordP
end Go.Proofs.Ytchjgjpoephljaa.Pure
