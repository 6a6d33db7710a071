/- wrackkeep3.PieceJoined: pieces of a string that overlap by more than they have in common elsewhere are put together again. For every input. -/
import Derived.Test.YtehkplafehlkgaaPPieceJoinedx8
import Derived.Test.YtehkplafehlkgaaPureBestPieceJoined
import Derived.Test.YtehkplafehlkgaaPureOrderedPieceJoined
namespace Go.Proofs.Ytehkplafehlkgaa.Pure
set_option linter.unusedSimpArgs false
open Go.RowKit Go.Proofs.Ytehkplafehlkgaa.PPieceJoined Go.Proofs.YtehkplafehlkgaaW.PrintWords Go.Proofs.YtehkplafehlkgaaW.PrintLast Go.Proofs.YtehkplafehlkgaaW.PrintMore Go.Proofs.YtehkplafehlkgaaW.Plib Go.Proofs.Ytehkplafehlkgaa.Pure.BestPieceJoined
namespace JoinP

/-! ## stretches of the string -/
def seg (a b : Nat) : List Int := cs (List.range' a (b - a))
theorem seg_len (a b : Nat) : (seg a b).length = b - a := by rw [seg, cs_len, List.length_range']
theorem seg_get (a b i : Nat) (h : i < (seg a b).length) : (seg a b)[i] = ((a + i : Nat) : Int) := by simp [seg, cs]
theorem seg_drop (a b j : Nat) : (seg a b).drop j = seg (a + j) b := by
  apply List.ext_getElem
  · rw [List.length_drop, seg_len, seg_len]; omega
  · intro i h1 h2
    rw [List.getElem_drop, seg_get, seg_get, Nat.add_assoc]
theorem seg_take (a b j : Nat) (h : a + j ≤ b) : (seg a b).take j = seg a (a + j) := by
  apply List.ext_getElem
  · rw [List.length_take, seg_len, seg_len]; omega
  · intro i h1 h2
    rw [List.getElem_take, seg_get, seg_get]
theorem seg_app (a b c : Nat) (h1 : a ≤ b) (h2 : b ≤ c) : seg a b ++ seg b c = seg a c := by
  apply List.ext_getElem
  · rw [List.length_append, seg_len, seg_len, seg_len]; omega
  · intro i h3 h4
    rw [List.getElem_append]
    split
    · rw [seg_get, seg_get]
    · rw [seg_get, seg_get, seg_len, Int.ofNat_inj]
      rename_i h5
      rw [seg_len] at h5
      omega
theorem seg_eq {b c j : Nat} (hj : 0 < j) (hjb : j ≤ b) : seg (b - j) b = seg c (c + j) ↔ b - j = c := by
  constructor
  · intro e
    have h1 : 0 < (seg (b - j) b).length := by rw [seg_len]; omega
    have h2 : 0 < (seg c (c + j)).length := by rw [seg_len]; omega
    have h3 := seg_get (b - j) b 0 h1
    have h4 := seg_get c (c + j) 0 h2
    have h5 : (seg (b - j) b)[0] = (seg c (c + j))[0] := by congr 1
    omega
  · intro e
    rw [e, show c + j = b by omega]

theorem below_f {a n : Int} (hn : 0 < n) (hn2 : n ≤ 9223372036854775807) : wrackmake_Below.f a n = some (a % n) := by
  unfold wrackmake_Below.f
  rw [if_neg (by omega), ← below_val hn hn2]
  split <;> rfl
theorem next_f (l : List Int) {n : Int} (hn : 0 < n) (hn2 : n ≤ 9223372036854775807) : ∃ v l', wrackmake_Stream_Next.f l n = some (v, l') ∧ 0 ≤ v ∧ v < n := by
  unfold wrackmake_Stream_Next.f
  by_cases h : (l.length : Int) = 0
  · exact ⟨0, l, by rw [if_pos h], by omega, hn⟩
  · refine ⟨rd l 0 % n, l.drop 1, ?_, Int.emod_nonneg _ (by omega), Int.emod_lt_of_pos _ hn⟩
    rw [if_neg h, if_neg (by omega), below_f hn hn2, Option.bind_some]

/-! ## Equal and Fit -/
theorem equal_l0 (xs ys : List Int) (hl : xs.length = ys.length) (hn : xs.length < 4096) (d : Nat) : ∀ q : Nat, q + d = xs.length → (∀ j, j < q → xs.getD j 0 = ys.getD j 0) →
    Gets (fun k => slices_Equal_byte_byte.l0 k xs ys (xs.length : Int) (q : Int)) (· = decide (xs = ys)) := by
  induction d with
  | zero =>
    intro q hq h
    refine Gets.up ?_
    simp only [slices_Equal_byte_byte.l0, if_neg (show ¬ (q : Int) < (xs.length : Int) by omega)]
    refine Gets.ret ?_
    symm
    rw [decide_eq_true_iff]
    apply List.ext_getElem hl
    intro i h1 h2
    have := h i (by omega)
    simpa [List.getD_eq_getElem?_getD, h1, h2] using this
  | succ d ih =>
    intro q hq h
    refine Gets.up ?_
    simp only [slices_Equal_byte_byte.l0, if_pos (show (q : Int) < (xs.length : Int) by omega), if_pos (show (0 : Int) ≤ (q : Int) by omega), if_pos (show (q : Int) < (ys.length : Int) by omega), at_one, w1 q xs.length (by omega) (by omega)]
    by_cases c : xs.getD q 0 = ys.getD q 0
    · simp only [if_pos c]
      refine ih (q + 1) (by omega) fun j hj => ?_
      rcases Nat.lt_or_eq_of_le (Nat.lt_succ_iff.1 hj) with h1 | rfl
      · exact h j h1
      · exact c
    · simp only [if_neg c]
      refine Gets.ret ?_
      symm
      rw [decide_eq_false_iff_not]
      exact fun e => c (by rw [e])
theorem equal_f (xs ys : List Int) (hl : xs.length = ys.length) (hn : xs.length < 4096) : Gets (fun k => slices_Equal_byte_byte.f k xs ys) (· = decide (xs = ys)) := by
  simp only [slices_Equal_byte_byte.f, if_pos (show (xs.length : Int) = (ys.length : Int) by omega)]
  exact equal_l0 xs ys hl hn _ 0 (Nat.zero_add _) (fun j hj => absurd hj (by omega))
/-- How well seg c d fits after seg a b. -/
def fit (b c j : Nat) : Int := if c < b ∧ b ≤ c + j then ((b - c : Nat) : Int) else 0
theorem fit_l0 (a b c d : Nat) (hb : b ≤ 200) (hd : d ≤ 200) : ∀ j : Nat, j ≤ b - a → j ≤ d - c →
    Gets (fun k => piece_Fit.l0 k (seg a b) (seg c d) (j : Int)) (· = fit b c j)
  | 0, _, _ => by
    refine Gets.up ?_
    simp only [piece_Fit.l0, if_neg (show ¬ ((0 : Nat) : Int) > 0 by omega)]
    refine Gets.ret ?_
    unfold fit
    rw [if_neg (by omega)]
  | j + 1, h1, h2 => by
    have hw : wrap64 (((b - a : Nat) : Int) - ((j + 1 : Nat) : Int)) = ((b - a - (j + 1) : Nat) : Int) := by rw [w64] <;> omega
    refine Gets.up ?_
    simp only [piece_Fit.l0, hw, if_pos (show ((j + 1 : Nat) : Int) > 0 by omega), if_pos (show (0 : Int) ≤ ((b - a - (j + 1) : Nat) : Int) by omega), seg_len, if_pos (show ((b - a - (j + 1) : Nat) : Int) ≤ ((b - a : Nat) : Int) by omega), if_pos (show (0 : Int) ≤ ((j + 1 : Nat) : Int) by omega), if_pos (show ((j + 1 : Nat) : Int) ≤ ((d - c : Nat) : Int) by omega), Int.toNat_natCast, seg_drop, seg_take c d (j + 1) (by omega), show a + (b - a - (j + 1)) = b - (j + 1) by omega, show wrap64 (((j + 1 : Nat) : Int) - 1) = (j : Int) by rw [w64] <;> omega]
    refine (equal_f (seg (b - (j + 1)) b) (seg c (c + (j + 1))) (by rw [seg_len, seg_len]; omega) (by rw [seg_len]; omega)).bind fun t ht => ?_
    have he := seg_eq (b := b) (c := c) (j := j + 1) (by omega) (by omega)
    by_cases e : b - (j + 1) = c
    · have ht2 : t = true := by rw [ht]; exact decide_eq_true (he.2 e)
      simp only [if_pos ht2]
      refine Gets.ret ?_
      unfold fit
      rw [if_pos (by omega)]
      omega
    · have ht2 : ¬ t = true := by rw [ht, decide_eq_true_iff]; exact fun h => e (he.1 h)
      simp only [if_neg ht2]
      refine (fit_l0 a b c d hb hd j (by omega) (by omega)).imp fun r hr => ?_
      rw [hr]
      unfold fit
      by_cases h3 : c < b ∧ b ≤ c + j
      · rw [if_pos h3, if_pos (by omega)]
      · rw [if_neg h3, if_neg (by omega)]
theorem fit_f (a b c d : Nat) (hb : b ≤ 200) (hd : d ≤ 200) : Gets (fun k => piece_Fit.f k (seg a b) (seg c d) 10) (· = fit b c (min 10 (min (b - a) (d - c)))) := by
  have e : mx 0 (mn (mn 10 ((seg a b).length : Int)) ((seg c d).length : Int)) = ((min 10 (min (b - a) (d - c)) : Nat) : Int) := by
    rw [seg_len, seg_len]; unfold mx mn
    repeat' split
    all_goals omega
  simp only [piece_Fit.f, e]
  exact fit_l0 a b c d hb hd _ (by omega) (by omega)

/-! ## the pieces -/
structure Cuts (m : Nat) (A B : Nat → Nat) : Prop where
  h0 : 0 < m → A 0 = 0
  hb : ∀ j, j < m → A j < B j ∧ B j ≤ 200 ∧ (B j = 200 ∨ A j + 12 ≤ B j)
  hc : ∀ j, j + 1 < m → B j < 200 ∧ B j ≤ A (j + 1) + 5 ∧ A (j + 1) < B j
theorem Cuts.mono {m : Nat} {A B : Nat → Nat} (h : Cuts m A B) (i : Nat) : ∀ d, i + d + 1 < m → B i + 7 ≤ B (i + d + 1) ∨ B (i + d + 1) = 200
  | 0, hd => by
    have h1 := h.hc i hd
    have h2 := h.hb (i + 1) hd
    simp only [Nat.add_zero]
    omega
  | d + 1, hd => by
    have h1 := h.mono i d (by omega)
    have h2 := h.hc (i + d + 1) hd
    have h3 := h.hb (i + d + 1 + 1) hd
    simp only [← Nat.add_assoc]
    omega
theorem Cuts.lt {m : Nat} {A B : Nat → Nat} (h : Cuts m A B) {i k : Nat} (hik : i < k) (hk : k < m) : B i < B k ∧ B i < 200 := by
  have h1 := h.hc i (by omega)
  have h2 := h.mono i (k - i - 1) (by omega)
  rw [show i + (k - i - 1) + 1 = k by omega] at h2
  omega
theorem Cuts.far {m : Nat} {A B : Nat → Nat} (h : Cuts m A B) {i k : Nat} (hik : i + 1 < k) (hk : k < m) : B i < A k := by
  have h1 := h.hc (k - 1) (by omega)
  rw [show k - 1 + 1 = k by omega] at h1
  have h2 := h.mono i (k - 1 - i - 1) (by omega)
  rw [show i + (k - 1 - i - 1) + 1 = k - 1 by omega] at h2
  omega
/-- What two pieces have in common at their ends. -/
def lap (A B : Nat → Nat) (i k : Nat) : Nat := if k = i + 1 then B i - A k else 0
theorem Cuts.fit {m : Nat} {A B : Nat → Nat} (h : Cuts m A B) {i k : Nat} (hi : i < m) (hk : k < m) (hik : i ≠ k) : fit (B i) (A k) (min 10 (min (B i - A i) (B k - A k))) = ((lap A B i k : Nat) : Int) := by
  have hbi := h.hb i hi
  have hbk := h.hb k hk
  unfold JoinP.fit lap
  by_cases c : k = i + 1
  · subst c
    have h1 := h.hc i hk
    have h2 := h.lt (show i < i + 1 by omega) hk
    rw [if_pos (by omega), if_pos rfl]
  · rw [if_neg c]
    by_cases c2 : i < k
    · have := h.far (show i + 1 < k by omega) hk
      rw [if_neg (by omega)]
      rfl
    · have := h.lt (show k < i by omega) hi
      rw [if_neg (by omega)]
      rfl

/-! ## Overlaps -/
theorem overlaps_l1 {X : List (List Int)} {n i : Nat} {w : Nat → Nat → Int} (hX : X.length = n) (hn : n ≤ 12) (hi : i < n) (hw : ∀ k, k < n → i ≠ k → Gets (fun r => piece_Fit.f r (X.getD i []) (X.getD k []) 10) (· = w i k)) {F L : List Int} {N : List (List Int)} (hN : N.length < 4096) {P : List Int × List Int × List (List Int) × Int → Prop}
    (K : ∀ row : List Int, row.length = n → (∀ k, k < n → row.getD k 0 = if i = k then 0 else w i k) → Gets (fun k => piece_Overlaps.l0 k X 10 (n : Int) (n : Int) ((i + 1 : Nat) : Int) F L (N ++ [row])) P) (d : Nat) :
    ∀ (q : Nat) (row : List Int), q + d = n → row.length = n → (∀ k, k < n → row.getD k 0 = if i = k ∨ q ≤ k then 0 else w i k) → Gets (fun k => piece_Overlaps.l1 k X 10 (n : Int) (i : Int) row (n : Int) (i : Int) (n : Int) (q : Int) F L N) P := by
  induction d with
  | zero =>
    intro q row hq hl hr
    refine Gets.up ?_
    simp only [piece_Overlaps.l1, if_neg (show ¬ (q : Int) < (n : Int) by omega), if_pos (show N.length < 5864062014805 by omega), w1 i n hi (by omega)]
    refine K row hl fun k hk => ?_
    rw [hr k hk]
    by_cases c : i = k
    · rw [if_pos (.inl c), if_pos c]
    · rw [if_neg (by omega), if_neg c]
  | succ d ih =>
    intro q row hq hl hr
    have hqn : q < n := by omega
    refine Gets.up ?_
    simp only [piece_Overlaps.l1, if_pos (show (q : Int) < (n : Int) by omega), w1 q n hqn (by omega)]
    by_cases c : i = q
    · simp only [if_pos (show (i : Int) = (q : Int) by omega)]
      refine ih (q + 1) row (by omega) hl fun k hk => ?_
      rw [hr k hk]
      by_cases c2 : i = k ∨ q + 1 ≤ k
      · rw [if_pos c2, if_pos (by omega)]
      · rw [if_neg c2, if_neg (by omega)]
    · simp only [if_neg (show ¬ (i : Int) = (q : Int) by omega), if_pos (show (0 : Int) ≤ (i : Int) by omega), hX, if_pos (show (i : Int) < (n : Int) by omega), if_pos (show (0 : Int) ≤ (q : Int) by omega), if_pos (show (q : Int) < (n : Int) by omega), rd_L2, Int.toNat_natCast, hl]
      refine (hw q hqn c).bind fun t ht => ?_
      subst ht
      refine ih (q + 1) _ (by omega) (by rw [List.length_set]; exact hl) fun k hk => ?_
      rw [gd_set]
      by_cases c2 : q = k
      · subst c2
        rw [if_pos ⟨rfl, by omega⟩, if_neg (by omega)]
      · rw [if_neg (by omega), hr k hk]
        by_cases c3 : i = k ∨ q ≤ k
        · rw [if_pos c3, if_pos (by omega)]
        · rw [if_neg c3, if_neg (by omega)]
theorem overlaps_l0 {X : List (List Int)} {n : Nat} {w : Nat → Nat → Int} (hX : X.length = n) (hn : n ≤ 12) (hw : ∀ i k, i < n → k < n → i ≠ k → Gets (fun r => piece_Fit.f r (X.getD i []) (X.getD k []) 10) (· = w i k)) {F L : List Int} (d : Nat) :
    ∀ (i : Nat) (N : List (List Int)), i + d = n → N.length = i → (∀ j, j < i → (N.getD j []).length = n ∧ ∀ k, k < n → (N.getD j []).getD k 0 = if j = k then 0 else w j k) →
    Gets (fun k => piece_Overlaps.l0 k X 10 (n : Int) (n : Int) (i : Int) F L N) (fun r => r.1 = F ∧ r.2.1 = L ∧ r.2.2.2 = 0 ∧ r.2.2.1.length = n ∧ ∀ j, j < n → (r.2.2.1.getD j []).length = n ∧ ∀ k, k < n → (r.2.2.1.getD j []).getD k 0 = if j = k then 0 else w j k) := by
  induction d with
  | zero =>
    intro i N hi hl hN
    refine Gets.up ?_
    simp only [piece_Overlaps.l0, if_neg (show ¬ (i : Int) < (n : Int) by omega)]
    exact Gets.ret ⟨rfl, rfl, rfl, by simp only; omega, fun j hj => hN j (by omega)⟩
  | succ d ih =>
    intro i N hi hl hN
    have hin : i < n := by omega
    refine Gets.up ?_
    simp only [piece_Overlaps.l0, if_pos (show (i : Int) < (n : Int) by omega), if_pos (show (0 : Int) ≤ (n : Int) by omega), Int.toNat_natCast, if_pos (show n ≤ 35184372088832 by omega)]
    refine overlaps_l1 hX hn hin (fun k hk hik => hw i k hin hk hik) (by omega) (fun row h1 h2 => ih (i + 1) (N ++ [row]) (by omega) (by rw [List.length_append, List.length_singleton]; omega) fun j hj => ?_) n 0 _ (by omega) (by rw [List.length_replicate]) (fun k hk => ?_)
    · by_cases c : j < i
      · rw [show (N ++ [row]).getD j [] = N.getD j [] by rw [List.getD_eq_getElem?_getD, List.getD_eq_getElem?_getD, List.getElem?_append_left (by omega)]]
        exact hN j c
      · obtain rfl : j = i := by omega
        rw [show (N ++ [row]).getD j [] = row by rw [List.getD_eq_getElem?_getD, List.getElem?_append_right (by omega), hl, Nat.sub_self]; rfl]
        exact ⟨h1, h2⟩
    · rw [if_pos (by omega), List.getD_eq_getElem?_getD, List.getElem?_replicate, if_pos hk]; rfl
theorem overlaps_f {X : List (List Int)} {n : Nat} {w : Nat → Nat → Int} (hX : X.length = n) (hn : n ≤ 12) (hw : ∀ i k, i < n → k < n → i ≠ k → Gets (fun r => piece_Fit.f r (X.getD i []) (X.getD k []) 10) (· = w i k)) :
    Gets (fun k => piece_Overlaps.f k X 10) (fun r => r.1 = List.replicate n 0 ∧ r.2.1 = List.replicate n 0 ∧ r.2.2.2 = 0 ∧ r.2.2.1.length = n ∧ ∀ j, j < n → (r.2.2.1.getD j []).length = n ∧ ∀ k, k < n → (r.2.2.1.getD j []).getD k 0 = if j = k then 0 else w j k) := by
  simp only [piece_Overlaps.f, hX, if_neg (show ¬ (n : Int) > 12 by omega), if_neg (show ¬ (10 : Int) < 1 by decide), show decide ((10 : Int) > 64) = false from rfl]
  refine Gets.up ?_
  simp only [piece_Overlaps.j0, if_neg (show ¬ (false = true) by decide), hX, if_pos (show (0 : Int) ≤ (n : Int) by omega), Int.toNat_natCast, if_pos (show n ≤ 35184372088832 by omega)]
  exact overlaps_l0 hX hn hw n 0 [] (by omega) rfl (fun j hj => absurd hj (by omega))

/-! ## Join: the pieces in their own order -/
theorem join_l0 {X : List (List Int)} {m : Nat} {A B : Nat → Nat} {p : List Nat} {ρ : Nat → Nat} (h : Cuts m A B) (hm : m ≤ 12) (hX : X.length = m) (hp : p.length = m) (hpm : ∀ x ∈ p, x < m) (hρ : ∀ i, i < m → ρ (p.getD i 0) = i) (hXs : ∀ x, x < m → X.getD x [] = seg (A (ρ x)) (B (ρ x))) (d : Nat) :
    ∀ q : Nat, q + d = m → Gets (fun k => piece_Join.l0 k X (cs p) 10 (seg 0 (if q = 0 then 0 else B (q - 1))) (cs p) (m : Int) (q : Int)) (fun r => r.1 = seg 0 (if m = 0 then 0 else B (m - 1)) ∧ r.2 = 0) := by
  have get : ∀ q, q < m → (cs p).getD q 0 = ((p.getD q 0 : Nat) : Int) ∧ p.getD q 0 < m := by
    intro q hq
    have hql : q < p.length := by omega
    refine ⟨by simp [cs, List.getD_eq_getElem?_getD, hql], ?_⟩
    rw [List.getD_eq_getElem?_getD, List.getElem?_eq_getElem hql]
    exact hpm _ (List.getElem_mem hql)
  induction d with
  | zero =>
    intro q hq
    obtain rfl : q = m := by omega
    refine Gets.up ?_
    simp only [piece_Join.l0, if_neg (show ¬ (q : Int) < (q : Int) by omega)]
    exact Gets.ret ⟨rfl, rfl⟩
  | succ d ih =>
    intro q hq
    have hqm : q < m := by omega
    obtain ⟨g1, g2⟩ := get q hqm
    have hs := hXs _ g2
    rw [hρ q hqm] at hs
    have hb := h.hb q hqm
    generalize hx : p.getD q 0 = x at *
    have fin := ih (q + 1) (by omega)
    rw [if_neg (show ¬ q + 1 = 0 by omega), Nat.add_sub_cancel] at fin
    refine Gets.up ?_
    simp only [piece_Join.l0, if_pos (show (q : Int) < (m : Int) by omega), if_pos (show (0 : Int) ≤ (q : Int) by omega), cs_len, hp, at_one, g1, if_neg (show ¬ (x : Int) < 0 by omega), hX, show decide ((x : Int) ≥ (m : Int)) = false from decide_eq_false (by omega)]
    refine Gets.up ?_
    have hlen : ∀ a b : Nat, b ≤ 200 → (seg a b).length ≤ 200 := fun a b hb => by rw [seg_len]; omega
    by_cases c : q = 0
    · subst c
      simp only [piece_Join.j2, if_neg (show ¬ (false = true) by decide), if_neg (show ¬ ((0 : Nat) : Int) > 0 by omega), if_pos (show (0 : Int) ≤ (x : Int) by omega), hX, if_pos (show (x : Int) < (m : Int) by omega), rd_L2, Int.toNat_natCast, hs, if_pos (show (0 : Int) ≤ ((seg 0 (B 0)).length : Int) by omega), List.drop_zero, if_true, h.h0 (by omega)]
      have e1 : seg 0 0 ++ seg 0 (B 0) = seg 0 (B 0) := seg_app 0 0 _ (by omega) (by omega)
      have hl := hlen 0 (B 0) hb.2.1
      simp only [if_pos (show (seg 0 0).length + (seg 0 (B 0)).length < 140737488355328 by rw [seg_len 0 0]; omega), e1, Option.bind_some, if_neg (show ¬ ((seg 0 (B 0)).length : Int) > 65536 by omega), w1 0 m hqm (by omega)]
      exact fin
    · obtain ⟨q', rfl⟩ : ∃ q', q = q' + 1 := ⟨q - 1, by omega⟩
      obtain ⟨g3, g4⟩ := get q' (by omega)
      have hs2 := hXs _ g4
      rw [hρ q' (by omega)] at hs2
      generalize hy : p.getD q' 0 = y at *
      have hb2 := h.hb q' (by omega)
      have hc2 := h.hc q' hqm
      have hlt := h.lt (show q' < q' + 1 by omega) hqm
      have hfit : Gets (fun k => piece_Fit.f k (seg (A q') (B q')) (seg (A (q' + 1)) (B (q' + 1))) 10) (· = ((B q' - A (q' + 1) : Nat) : Int)) := by
        refine (fit_f (A q') (B q') (A (q' + 1)) (B (q' + 1)) (by omega) (by omega)).imp fun r hr => ?_
        rw [hr, h.fit (by omega) hqm (by omega)]
        unfold lap
        rw [if_pos rfl]
      simp only [piece_Join.j2, if_neg (show ¬ (false = true) by decide), if_pos (show ((q' + 1 : Nat) : Int) > 0 by omega), show wrap64 (((q' + 1 : Nat) : Int) - 1) = (q' : Int) by rw [w64] <;> omega, if_pos (show (0 : Int) ≤ (q' : Int) by omega), cs_len, hp, if_pos (show (q' : Int) < (m : Int) by omega), at_one, g3, hX, if_pos (show (0 : Int) ≤ (y : Int) by omega), if_pos (show (y : Int) < (m : Int) by omega), if_pos (show (0 : Int) ≤ (x : Int) by omega), if_pos (show (x : Int) < (m : Int) by omega), rd_L2, Int.toNat_natCast, hs, hs2, if_neg (show ¬ q' + 1 = 0 by omega), Nat.add_sub_cancel]
      refine hfit.bind fun t ht => ?_
      subst ht
      have e0 : (seg (A (q' + 1)) (B (q' + 1))).drop (B q' - A (q' + 1)) = seg (B q') (B (q' + 1)) := by rw [seg_drop, show A (q' + 1) + (B q' - A (q' + 1)) = B q' by omega]
      have e1 : seg 0 (B q') ++ seg (B q') (B (q' + 1)) = seg 0 (B (q' + 1)) := seg_app 0 _ _ (by omega) (by omega)
      have hl := hlen 0 (B (q' + 1)) hb.2.1
      have hl1 := hlen 0 (B q') hb2.2.1
      have hl2 := hlen (B q') (B (q' + 1)) hb.2.1
      simp only [if_pos (show (0 : Int) ≤ ((B q' - A (q' + 1) : Nat) : Int) by omega), seg_len, if_pos (show ((B q' - A (q' + 1) : Nat) : Int) ≤ ((B (q' + 1) - A (q' + 1) : Nat) : Int) by omega), Int.toNat_natCast, e0, e1, if_pos (show B q' - 0 + (B (q' + 1) - B q') < 140737488355328 by omega), Option.bind_some, if_neg (show ¬ ((B (q' + 1) - 0 : Nat) : Int) > 65536 by omega), w1 (q' + 1) m hqm (by omega)]
      exact fin
theorem join_f {X : List (List Int)} {m : Nat} {A B : Nat → Nat} {p : List Nat} {ρ : Nat → Nat} (h : Cuts m A B) (hm : m ≤ 12) (hX : X.length = m) (hp : p.length = m) (hpm : ∀ x ∈ p, x < m) (hρ : ∀ i, i < m → ρ (p.getD i 0) = i) (hXs : ∀ x, x < m → X.getD x [] = seg (A (ρ x)) (B (ρ x))) :
    Gets (fun k => piece_Join.f k X (cs p) 10) (fun r => r.1 = seg 0 (if m = 0 then 0 else B (m - 1)) ∧ r.2 = 0) := by
  simp only [piece_Join.f, if_neg (show ¬ (10 : Int) < 0 by decide), show decide ((10 : Int) > 64) = false from rfl]
  refine Gets.up ?_
  simp only [piece_Join.j0, if_neg (show ¬ (false = true) by decide), cs_len, hp]
  exact join_l0 h hm hX hp hpm hρ hXs m 0 (by omega)

/-! ## the best order is the pieces' own -/
/-- The table of the pieces, piece ρ x at x. -/
structure Tab (m : Nat) (A B : Nat → Nat) (ρ : Nat → Nat) (F L : List Int) (N : List (List Int)) : Prop where
  m12 : m ≤ 12
  cuts : Cuts m A B
  rm : ∀ x, x < m → ρ x < m
  ri : ∀ x y, x < m → y < m → ρ x = ρ y → x = y
  rs : ∀ j, j < m → ∃ x, x < m ∧ ρ x = j
  f : F = List.replicate m 0
  l : L = List.replicate m 0
  len : N.length = m
  row : ∀ j, j < m → (N.getD j []).length = m ∧ ∀ k, k < m → (N.getD j []).getD k 0 = if j = k then 0 else ((lap A B (ρ j) (ρ k) : Nat) : Int)
theorem rep (m i : Nat) : (List.replicate m (0 : Int)).getD i 0 = 0 := by
  rw [List.getD_eq_getElem?_getD, List.getElem?_replicate]
  split <;> rfl
theorem Tab.ok {m : Nat} {A B ρ : Nat → Nat} {F L : List Int} {N : List (List Int)} (t : Tab m A B ρ F L N) : TabOk m F L N where
  n12 := t.m12
  f := by rw [t.f, List.length_replicate]
  l := by rw [t.l, List.length_replicate]
  m := t.len
  row i hi := (t.row i hi).1
  wf i _ := by rw [t.f, rep]; omega
  wl i _ := by rw [t.l, rep]; omega
  wn i k hi hk := by
    rw [(t.row i hi).2 k hk]
    have h1 : lap A B (ρ i) (ρ k) ≤ 200 := by
      have := (t.cuts.hb (ρ i) (t.rm i hi)).2.1
      unfold lap
      split <;> omega
    split <;> omega
def own (m : Nat) (A B : Nat → Nat) (i : Nat) : Nat := if i + 1 < m then B i - A (i + 1) else 0
theorem lap_own {m : Nat} {A B : Nat → Nat} (h : Cuts m A B) {i k : Nat} (_hi : i < m) (hk : k < m) : lap A B i k ≤ own m A B i ∧ (lap A B i k = own m A B i → k = i + 1 ∨ i + 1 = m) := by
  unfold lap own
  by_cases c : k = i + 1
  · subst c
    rw [if_pos rfl, if_pos hk]
    exact ⟨Nat.le_refl _, fun _ => .inl rfl⟩
  · rw [if_neg c]
    refine ⟨Nat.zero_le _, fun e => ?_⟩
    by_cases c2 : i + 1 < m
    · rw [if_pos c2] at e
      have := h.hc i c2
      omega
    · right; omega
theorem wt_le {m : Nat} {A B ρ : Nat → Nat} {F L : List Int} {N : List (List Int)} (t : Tab m A B ρ F L N) : ∀ (o : List Nat) (i : Nat), i < m → (∀ k ∈ o, k < m) → (i :: o).Nodup →
    wt L N i o ≤ (((i :: o).map (fun x => own m A B (ρ x))).sum : Nat) ∧ (wt L N i o = (((i :: o).map (fun x => own m A B (ρ x))).sum : Nat) → (i :: o).map ρ = List.range' (ρ i) (m - ρ i))
  | [], i, hi, _, _ => by
    simp only [wt, t.l, rep, List.map_cons, List.map_nil, List.sum_cons, List.sum_nil, Nat.add_zero]
    refine ⟨by omega, fun e => ?_⟩
    have h1 := t.rm i hi
    have h2 : own m A B (ρ i) = 0 := by omega
    unfold own at h2
    by_cases c : ρ i + 1 < m
    · rw [if_pos c] at h2
      have := t.cuts.hc (ρ i) c
      omega
    · rw [show m - ρ i = 1 by omega]; rfl
  | k :: o, i, hi, ho, hn => by
    have hk := ho k List.mem_cons_self
    obtain ⟨hn1, hn2⟩ := List.nodup_cons.1 hn
    have hik : i ≠ k := fun e => hn1 (e ▸ List.mem_cons_self)
    obtain ⟨h1, h2⟩ := wt_le t o k hk (fun j hj => ho j (List.mem_cons_of_mem _ hj)) hn2
    have h3 := (t.row i hi).2 k hk
    rw [if_neg hik] at h3
    obtain ⟨h4, h5⟩ := lap_own t.cuts (t.rm i hi) (t.rm k hk)
    rw [List.map_cons, List.sum_cons]
    simp only [wt, h3]
    refine ⟨by omega, fun e => ?_⟩
    have h6 := h2 (by omega)
    rw [List.map_cons, h6]
    have h7 := t.rm k hk
    have h8 := t.rm i hi
    rcases h5 (by omega) with h9 | h9
    · rw [h9, show m - ρ i = (m - (ρ i + 1)) + 1 by omega, List.range'_succ]
    · exfalso
      have h10 : ρ i ∈ (k :: o).map ρ := by
        rw [h6, List.mem_range'_1]
        omega
      obtain ⟨y, hy, e2⟩ := List.mem_map.1 h10
      have h11 := t.ri y i (ho y hy) hi e2
      exact hn1 (h11 ▸ hy)
theorem wt_own {m : Nat} {A B ρ : Nat → Nat} {F L : List Int} {N : List (List Int)} (t : Tab m A B ρ F L N) : ∀ (o : List Nat) (i : Nat), i < m → (∀ k ∈ o, k < m) → (i :: o).map ρ = List.range' (ρ i) (m - ρ i) →
    wt L N i o = (((i :: o).map (fun x => own m A B (ρ x))).sum : Nat)
  | [], i, hi, _, e => by
    simp only [wt, t.l, rep, List.map_cons, List.map_nil, List.sum_cons, List.sum_nil, Nat.add_zero]
    have h1 := congrArg List.length e
    rw [List.length_range'] at h1
    simp only [List.map_cons, List.map_nil, List.length_cons, List.length_nil] at h1
    unfold own
    rw [if_neg (by omega)]
    rfl
  | k :: o, i, hi, ho, e => by
    have hk := ho k List.mem_cons_self
    have h7 := t.rm i hi
    have h1 := congrArg List.length e
    rw [List.length_range'] at h1
    simp only [List.map_cons, List.length_cons] at h1
    rw [List.map_cons, show m - ρ i = (m - (ρ i + 1)) + 1 by omega, List.range'_succ] at e
    have e2 : (k :: o).map ρ = List.range' (ρ i + 1) (m - (ρ i + 1)) := (List.cons.inj e).2
    have h2 : ρ k = ρ i + 1 := by
      rw [show m - (ρ i + 1) = (m - (ρ i + 1 + 1)) + 1 by omega, List.range'_succ, List.map_cons] at e2
      exact (List.cons.inj e2).1
    have h3 := (t.row i hi).2 k hk
    rw [if_neg (fun e3 => by rw [e3] at h2; omega)] at h3
    have ih := wt_own t o k hk (fun j hj => ho j (List.mem_cons_of_mem _ hj)) (by rw [h2]; exact e2)
    rw [List.map_cons, List.sum_cons]
    simp only [wt, h3, ih]
    have h4 : lap A B (ρ i) (ρ k) = own m A B (ρ i) := by
      unfold lap own
      rw [if_pos h2, if_pos (by have := t.rm k hk; omega), h2]
    rw [h4]
    omega
theorem Tab.own_order {m : Nat} {A B ρ : Nat → Nat} {F L : List Int} {N : List (List Int)} (t : Tab m A B ρ F L N) : ∃ c, Comp m 0 c ∧ c.map ρ = List.range' 0 m := by
  have h1 : ∀ n, n ≤ m → ∃ c : List Nat, c.map ρ = List.range' 0 n ∧ ∀ x ∈ c, x < m := by
    intro n
    induction n with
    | zero => exact fun _ => ⟨[], rfl, fun x hx => absurd hx (by simp)⟩
    | succ n ih =>
      intro hn
      obtain ⟨c, h1, h2⟩ := ih (by omega)
      obtain ⟨x, h3, h4⟩ := t.rs n (by omega)
      refine ⟨c ++ [x], ?_, fun y hy => ?_⟩
      · rw [List.map_append, h1, List.range'_concat]
        simp [h4]
      · rcases List.mem_append.1 hy with h5 | h5
        · exact h2 y h5
        · have : y = x := by simpa using h5
          omega
  obtain ⟨c, h2, h3⟩ := h1 m (Nat.le_refl _)
  refine ⟨c, ⟨?_, fun k => ⟨fun hk => ⟨h3 k hk, Nat.zero_testBit k⟩, fun ⟨hk, _⟩ => ?_⟩⟩, h2⟩
  · have h4 : (c.map ρ).Nodup := by rw [h2]; exact List.nodup_range'
    exact List.Pairwise.of_map ρ (fun a b h5 e => h5 (e ▸ rfl)) h4
  · have h4 : ρ k ∈ c.map ρ := by rw [h2, List.mem_range'_1]; have := t.rm k hk; omega
    obtain ⟨y, h5, h6⟩ := List.mem_map.1 h4
    exact (t.ri y k (h3 y h5) hk h6) ▸ h5
theorem Tab.best {m : Nat} {A B ρ : Nat → Nat} {F L : List Int} {N : List (List Int)} (t : Tab m A B ρ F L N) {p : List Nat} {S : Int} (hp : Comp m 0 p) (ht : tot F L N p = S) (hS : ∀ c, Comp m 0 c → tot F L N c ≤ S) : p.length = m ∧ ∀ i, i < m → ρ (p.getD i 0) = i := by
  obtain ⟨c, hc, hcr⟩ := t.own_order
  have hperm : p.Perm c := (List.perm_ext_iff_of_nodup hp.1 hc.1).2 fun a => (hp.2 a).trans (hc.2 a).symm
  have hcl : c.length = m := by have := congrArg List.length hcr; rwa [List.length_map, List.length_range'] at this
  have hpl : p.length = m := hperm.length_eq.trans hcl
  refine ⟨hpl, fun i hi => ?_⟩
  have hsum : (p.map (fun x => own m A B (ρ x))).sum = (c.map (fun x => own m A B (ρ x))).sum := (hperm.map _).sum_nat
  cases p with
  | nil => simp at hpl; omega
  | cons x p =>
    cases c with
    | nil => simp at hcl; omega
    | cons y c =>
      have hx := (hp.2 x).1 List.mem_cons_self
      have hy := (hc.2 y).1 List.mem_cons_self
      obtain ⟨-, h2⟩ := wt_le t p x hx.1 (fun k hk => ((hp.2 k).1 (List.mem_cons_of_mem _ hk)).1) hp.1
      have h1 := (wt_le t p x hx.1 (fun k hk => ((hp.2 k).1 (List.mem_cons_of_mem _ hk)).1) hp.1).1
      have hy0 : ρ y = 0 := by
        rw [List.map_cons, show m = (m - 1) + 1 by omega, List.range'_succ] at hcr
        exact (List.cons.inj hcr).1
      have h3 := wt_own t c y hy.1 (fun k hk => ((hc.2 k).1 (List.mem_cons_of_mem _ hk)).1) (by rw [hcr, hy0]; rfl)
      have h4 := hS _ hc
      simp only [tot, t.f, rep] at ht h4
      have h5 := h2 (by rw [hsum] at h1 ⊢; omega)
      have h6 := congrArg List.length h5
      rw [List.length_map, List.length_range', hpl] at h6
      have h7 := t.rm x hx.1
      rw [show ρ x = 0 by omega, Nat.sub_zero] at h5
      have h8 : ((x :: p).map ρ)[i]? = (List.range' 0 m)[i]? := by rw [h5]
      have h9 : i < (x :: p).length := by omega
      rw [List.getElem?_map, List.getElem?_eq_getElem h9, List.getElem?_range' (by omega)] at h8
      rw [List.getD_eq_getElem?_getD, List.getElem?_eq_getElem h9]
      simpa using h8

/-! ## the law -/
theorem mod_turn {m T x : Nat} (_hm : 0 < m) (hx : x < m) (hT : T < m) : (x + T) % m = if x + T < m then x + T else x + T - m := by
  split
  · exact Nat.mod_eq_of_lt ‹_›
  · rw [Nat.mod_eq_sub_mod (by omega), Nat.mod_eq_of_lt (by omega)]
theorem last_part {parts : List (List Int)} {m : Nat} {A B : Nat → Nat} {t : Int} {T : Nat} (h : Cuts m A B) (h0 : 0 < m) (h7 : m ≤ 7) (hl : parts.length = m) (hp : ∀ j, j < m → parts.getD j [] = seg (A j) (B j)) (ht : t = (T : Int)) (hT : T < m) (d : Nat) :
    ∀ (q : Nat) (X : List (List Int)), q + d = m → X.length = q → (∀ x, x < q → X.getD x [] = seg (A ((x + T) % m)) (B ((x + T) % m))) →
    Gets (fun k => wrackkeep3_PieceJoined.l2 k parts (seg 0 (B (m - 1))) X t (m : Int) (q : Int)) (· = true) := by
  subst ht
  induction d with
  | zero =>
    intro q X hq hX hXs
    obtain rfl : q = m := by omega
    have hr : ∀ x, x < q → (x + T) % q < q := fun x _ => Nat.mod_lt _ h0
    have hi : ∀ x y, x < q → y < q → (x + T) % q = (y + T) % q → x = y := by
      intro x y hx hy e
      rw [mod_turn h0 hx hT, mod_turn h0 hy hT] at e
      split at e <;> split at e <;> omega
    refine Gets.up ?_
    simp only [wrackkeep3_PieceJoined.l2, if_neg (show ¬ (q : Int) < (q : Int) by omega)]
    refine (overlaps_f (w := fun i k => ((lap A B ((i + T) % q) ((k + T) % q) : Nat) : Int)) hX (by omega) fun i k h1 h2 h3 => ?_).bind fun r hrr => ?_
    · rw [hXs i h1, hXs k h2]
      have g1 := h.hb _ (hr i h1)
      have g2 := h.hb _ (hr k h2)
      refine (fit_f _ _ _ _ g1.2.1 g2.2.1).imp fun r hr2 => ?_
      rw [hr2]
      exact h.fit (hr i h1) (hr k h2) (fun e => h3 (hi i k h1 h2 e))
    obtain ⟨F, L, N, e⟩ := r
    obtain ⟨f1, f2, f3, f4, f5⟩ := hrr
    simp only at f1 f2 f3 f4 f5
    have tab : Tab q A B (fun x => (x + T) % q) F L N := {
      m12 := by omega
      cuts := h
      rm := hr
      ri := hi
      rs := fun j hj => by
        by_cases c : T ≤ j
        · exact ⟨j - T, by omega, by rw [mod_turn h0 (by omega) hT, if_pos (by omega)]; omega⟩
        · exact ⟨j + q - T, by omega, by rw [mod_turn h0 (by omega) hT, if_neg (by omega)]; omega⟩
      f := f1
      l := f2
      len := f4
      row := f5 }
    refine (best_f tab.ok).bind fun b hb => ?_
    obtain ⟨p, g1, g2, g3, g4, g5, -⟩ := hb
    obtain ⟨b1, S, b3⟩ := b
    simp only at g1 g2 g4 g5
    obtain ⟨p1, p2⟩ := tab.best g3 g4 g5
    subst g1 g2 f3
    refine (join_f h (by omega) hX p1 (fun x hx => ((g3.2 x).1 hx).1) p2 (fun x hx => hXs x hx)).bind fun j hj => ?_
    obtain ⟨j1, j2⟩ := j
    obtain ⟨hj1, hj2⟩ := hj
    simp only at hj1 hj2
    rw [if_neg (by omega)] at hj1
    subst hj1 hj2
    refine ordered_f.bind fun o ho => ?_
    subst ho
    simp only [if_true, bytes_Equal.f, Option.bind_some]
    exact Gets.ret (beq_self_eq_true _)
  | succ d ih =>
    intro q X hq hX hXs
    have hqm : q < m := by omega
    have hw : wrap64 ((q : Int) + (T : Int)) = ((q + T : Nat) : Int) := by rw [w64] <;> omega
    have hmod : Int.tmod ((q + T : Nat) : Int) (m : Int) = (((q + T) % m : Nat) : Int) := by
      rw [Int.tmod_eq_emod_of_nonneg (by omega)]
      omega
    have hlt : (q + T) % m < m := Nat.mod_lt _ h0
    refine Gets.up ?_
    simp only [wrackkeep3_PieceJoined.l2, if_pos (show (q : Int) < (m : Int) by omega), hl, if_neg (show ¬ (m : Int) = 0 by omega), hw, hmod, if_pos (show (0 : Int) ≤ (((q + T) % m : Nat) : Int) by omega), if_pos (show (((q + T) % m : Nat) : Int) < (m : Int) by omega), if_pos (show X.length < 5864062014805 by omega), w1 q m hqm (by omega)]
    refine ih (q + 1) _ (by omega) (by rw [List.length_append, List.length_singleton]; omega) fun x hx => ?_
    by_cases c : x < q
    · rw [List.getD_eq_getElem?_getD, List.getElem?_append_left (by omega), ← List.getD_eq_getElem?_getD]
      exact hXs x c
    · obtain rfl : x = q := by omega
      rw [List.getD_eq_getElem?_getD, List.getElem?_append_right (by omega), hX, Nat.sub_self]
      simp only [rd_L2, Int.toNat_natCast, List.getElem?_cons_zero, Option.getD_some]
      exact hp _ hlt
theorem j3_f {E : Nat} (hE : E = 200) {parts : List (List Int)} {m : Nat} {A B : Nat → Nat} (a1 : Int) (h : Cuts m A B) (h0 : 0 < m) (h7 : m ≤ 7) (hl : parts.length = m) (hp : ∀ j, j < m → parts.getD j [] = seg (A j) (B j)) :
    Gets (fun k => wrackkeep3_PieceJoined.j3 k a1 (seg 0 E) parts) (· = true) := by
  have hb := h.hb (m - 1) (by omega)
  have hlast := hp (m - 1) (by omega)
  generalize hA : A (m - 1) = a at *
  generalize hB : B (m - 1) = b at *
  have fin := last_part (t := a1 % (m : Int)) (T := (a1 % (m : Int)).toNat) h h0 h7 hl hp (by have := Int.emod_nonneg a1 (show (m : Int) ≠ 0 by omega); omega) (by have := Int.emod_nonneg a1 (show (m : Int) ≠ 0 by omega); have := Int.emod_lt_of_pos a1 (show (0 : Int) < (m : Int) by omega); omega) m 0 [] (by omega) rfl (fun x hx => absurd hx (by omega))
  rw [hB] at fin
  have q1 : (0 : Int) ≤ ((m - 1 : Nat) : Int) := by omega
  have q2 : ((m - 1 : Nat) : Int) < (m : Int) := by omega
  have q3 : (0 : Int) ≤ ((b - a - 1 : Nat) : Int) := by omega
  have q4 : ((b - a - 1 : Nat) : Int) < ((b - a : Nat) : Int) := by omega
  have q5 : (0 : Int) ≤ (b : Int) := by omega
  have q6 : (b : Int) ≤ ((E - 0 : Nat) : Int) := by omega
  have q7 : 0 + b ≤ E := by omega
  have q8 : (0 : Int) < (m : Int) := by omega
  have q9 : (m : Int) ≤ 9223372036854775807 := by omega
  have hg : (seg a b).getD (b - a - 1) 0 = ((b - 1 : Nat) : Int) := by
    have h1 : b - a - 1 < (seg a b).length := by rw [seg_len]; omega
    rw [List.getD_eq_getElem?_getD, List.getElem?_eq_getElem h1, seg_get]
    simp only [Option.getD_some]
    omega
  have hw : wrap64 ((m : Int) - 1) = ((m - 1 : Nat) : Int) := by rw [w64] <;> omega
  have hw2 : wrap64 (((b - a : Nat) : Int) - 1) = ((b - a - 1 : Nat) : Int) := by clear hw; rw [w64] <;> omega
  have hw3 : wrap64 ((b - 1 : Nat) : Int) = ((b - 1 : Nat) : Int) := by clear hw hw2; rw [w64] <;> omega
  have hw4 : wrap64 (((b - 1 : Nat) : Int) + 1) = (b : Int) := by clear hw hw2 hw3; rw [w64] <;> omega
  refine Gets.up ?_
  simp only [wrackkeep3_PieceJoined.j3]
  rw [hl, hw]
  rw [rd_L2, Int.toNat_natCast, hlast, seg_len, hw2]
  rw [at_one, hg, hw3, hw4, seg_len, below_f q8 q9]
  rw [Int.toNat_natCast, seg_take 0 E b q7, Nat.zero_add]
  simp only [if_pos q1, if_pos q2, if_pos q3, if_pos q4, if_pos q5, if_pos q6, Option.bind_some]
  exact fin
theorem getD_snoc {α : Type} (xs : List α) (y d : α) (j : Nat) : (xs ++ [y]).getD j d = if j < xs.length then xs.getD j d else if j = xs.length then y else d := by
  rw [List.getD_eq_getElem?_getD]
  by_cases h : j < xs.length
  · rw [if_pos h, List.getElem?_append_left h, ← List.getD_eq_getElem?_getD]
  · rw [if_neg h, List.getElem?_append_right (by omega)]
    by_cases h2 : j = xs.length
    · rw [if_pos h2, h2, Nat.sub_self]; rfl
    · rw [if_neg h2, show j - xs.length = (j - xs.length - 1) + 1 by omega]; rfl
/-- Where the next piece begins. -/
def Next (m : Nat) (_A B : Nat → Nat) (x : Nat) : Prop := (m = 0 → x = 0) ∧ (0 < m → B (m - 1) < 200 ∧ B (m - 1) ≤ x + 5 ∧ x < B (m - 1)) ∧ x < 200
theorem Cuts.snoc {m : Nat} {A B : Nat → Nat} {x e : Nat} (h : Cuts m A B) (hx : Next m A B x) (he : x < e) (he2 : e ≤ 200) (he3 : e = 200 ∨ x + 12 ≤ e) : Cuts (m + 1) (fun j => if j = m then x else A j) (fun j => if j = m then e else B j) where
  h0 _ := by
    by_cases c : m = 0
    · rw [if_pos c.symm]; exact hx.1 c
    · rw [if_neg (fun e => c e.symm)]; exact h.h0 (by omega)
  hb j hj := by
    by_cases c : j = m
    · rw [if_pos c, if_pos c]; exact ⟨he, he2, he3⟩
    · rw [if_neg c, if_neg c]; exact h.hb j (by omega)
  hc j hj := by
    rw [if_neg (show ¬ j = m by omega)]
    by_cases c : j + 1 = m
    · rw [if_pos c]
      have := hx.2.1 (by omega)
      rw [show m - 1 = j by omega] at this
      exact this
    · rw [if_neg c]; exact h.hc j (by omega)
theorem l1_f {E : Nat} (hE : E = 200) (a1 : Int) (d : Nat) : ∀ (m : Nat) (A B : Nat → Nat) (parts : List (List Int)) (x : Nat) (s : List Int), m + d = 7 → Cuts m A B → parts.length = m → (∀ j, j < m → parts.getD j [] = seg (A j) (B j)) → Next m A B x →
    Gets (fun k => wrackkeep3_PieceJoined.l1 k a1 (seg 0 E) parts (x : Int) s) (· = true) := by
  induction d with
  | zero =>
    intro m A B parts x s hm h hl hp hx
    refine Gets.up ?_
    simp only [wrackkeep3_PieceJoined.l1, seg_len, if_pos (show (x : Int) < ((E - 0 : Nat) : Int) by have := hx.2.2; omega), hl, show decide ((m : Int) < 7) = false from decide_eq_false (by omega)]
    refine Gets.up ?_
    simp only [wrackkeep3_PieceJoined.j2, if_neg (show ¬ (false = true) by decide)]
    exact j3_f hE a1 h (by omega) (by omega) hl hp
  | succ d ih =>
    intro m A B parts x s hm h hl hp hx
    have hx2 := hx.2.2
    obtain ⟨v, s2, hv, hv0, hv1⟩ := next_f s (n := 20) (by omega) (by omega)
    obtain ⟨u, s3, hu, hu0, hu1⟩ := next_f s2 (n := 5) (by omega) (by omega)
    obtain ⟨e, he, h1, h2, h3⟩ : ∃ e : Nat, mn ((E - 0 : Nat) : Int) (wrap64 (wrap64 ((x : Int) + 12) + v)) = (e : Int) ∧ x < e ∧ e ≤ 200 ∧ (e = 200 ∨ x + 12 ≤ e) := by
      refine ⟨min 200 (x + 12 + v.toNat), ?_, by omega, by omega, by omega⟩
      rw [w64 (n := (x : Int) + 12) (by omega) (by omega), w64 (n := (x : Int) + 12 + v) (by omega) (by omega)]
      unfold mn
      split <;> omega
    have hcut : ((seg 0 E).take e).drop x = seg x e := by
      have h4 := seg_take 0 E e (by clear he; omega)
      rw [Nat.zero_add] at h4
      rw [h4, seg_drop, Nat.zero_add]
    have hC := h.snoc hx h1 h2 h3
    have hP : ∀ j, j < m + 1 → (parts ++ [seg x e]).getD j [] = seg (if j = m then x else A j) (if j = m then e else B j) := by
      clear he hcut
      intro j hj
      rw [getD_snoc, hl]
      by_cases c : j = m
      · rw [if_neg (by omega), if_pos c, if_pos c, if_pos c]
      · rw [if_pos (by omega), if_neg c, if_neg c]; exact hp j (by omega)
    have hL : (parts ++ [seg x e]).length = m + 1 := by rw [List.length_append, List.length_singleton, hl]
    have q1 : (x : Int) < ((E - 0 : Nat) : Int) := by clear he; omega
    have q2 : decide ((m : Int) < 7) = true := decide_eq_true (by clear he; omega)
    have q3 : (0 : Int) ≤ (x : Int) := by clear he; omega
    have q4 : (x : Int) ≤ (e : Int) := by clear he; omega
    have q5 : (e : Int) ≤ ((E - 0 : Nat) : Int) := by clear he; omega
    have q6 : m < 5864062014805 := by clear he; omega
    refine Gets.up ?_
    simp only [wrackkeep3_PieceJoined.l1]
    rw [seg_len, hl, q2]
    simp -implicitDefEqProofs only [if_pos q1]
    refine Gets.up ?_
    simp only [wrackkeep3_PieceJoined.j2]
    rw [hv]
    simp -implicitDefEqProofs only [if_true, Option.bind_some]
    rw [seg_len, he, hl, Int.toNat_natCast, Int.toNat_natCast, hcut]
    simp -implicitDefEqProofs only [if_pos q3, if_pos q4, if_pos q5, if_pos q6]
    by_cases c : e = 200
    · have q7 : (e : Int) = ((E - 0 : Nat) : Int) := by clear he; omega
      simp -implicitDefEqProofs only [if_pos q7]
      exact j3_f hE a1 hC (by clear he; omega) (by clear he; omega) hL hP
    · have q7 : ¬ (e : Int) = ((E - 0 : Nat) : Int) := by clear he; omega
      have hw : wrap64 (wrap64 ((e : Int) - 1) - u) = ((e - 1 - u.toNat : Nat) : Int) := by clear he; rw [w64 (n := (e : Int) - 1) (by omega) (by omega), w64] <;> omega
      simp -implicitDefEqProofs only [if_neg q7, hu, Option.bind_some]
      rw [hw]
      refine ih (m + 1) _ _ _ _ s3 (by clear he hw; omega) hC hL hP ⟨fun h => absurd h (by clear he hw; omega), fun _ => ?_, by clear he hw; omega⟩
      clear he hw
      simp only [Nat.add_sub_cancel, if_true]
      omega
theorem l0_f {E : Nat} (hE : E = 200) (l0 : List Int) (a1 : Int) (d : Nat) : ∀ q : Nat, q + d = E → Gets (fun k => wrackkeep3_PieceJoined.l0 k l0 a1 (seg 0 q) (q : Int)) (· = true) := by
  induction d with
  | zero =>
    intro q hq
    obtain rfl : q = E := by omega
    refine Gets.up ?_
    simp only [wrackkeep3_PieceJoined.l0, if_neg (show ¬ (q : Int) < 200 by omega)]
    exact l1_f hE a1 7 0 (fun _ => 0) (fun _ => 0) [] 0 l0 (by omega) ⟨fun h => absurd h (by omega), fun j hj => absurd hj (by omega), fun j hj => absurd hj (by omega)⟩ rfl (fun j hj => absurd hj (by omega)) ⟨fun _ => rfl, fun h => absurd h (by omega), by omega⟩
  | succ d ih =>
    intro q hq
    refine Gets.up ?_
    have h1 : (q : Int) % 256 = (q : Int) := by omega
    have h2 : seg 0 q ++ [(q : Int)] = seg 0 (q + 1) := by
      have h3 := seg_app 0 q (q + 1) (by omega) (by omega)
      have h4 : seg q (q + 1) = [(q : Int)] := by unfold seg; rw [Nat.add_sub_cancel_left]; rfl
      rw [h4] at h3
      exact h3
    simp only [wrackkeep3_PieceJoined.l0, if_pos (show (q : Int) < 200 by omega), seg_len, if_pos (show q - 0 < 140737488355328 by omega), h1, h2, w1 q 200 (by omega) (by omega)]
    exact ih (q + 1) (by omega)
end JoinP
theorem PieceJoined : wrackkeep3_PieceJoined.Pure := by
  intro l0 a1 _ _ _ _
  obtain ⟨k, r, h1, h2⟩ := (JoinP.l0_f rfl l0 a1 200 0 (by omega)).get
  refine ⟨k, ?_⟩
  rw [← h2]
  exact h1
end Go.Proofs.Ytehkplafehlkgaa.Pure
