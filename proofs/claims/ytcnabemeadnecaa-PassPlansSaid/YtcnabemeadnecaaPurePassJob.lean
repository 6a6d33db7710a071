/- The passes over a drive, plain: what a block's state, its bytes and the number of its attempts are behind each pass. -/
import Derived.Test.YtcnabemeadnecaaPPassPlansx8
import Derived.Test.YtcnabemeadnecaaPlib
namespace Go.Proofs.Ytcnabemeadnecaa.Pure
set_option linter.unusedVariables false
set_option linter.unusedSimpArgs false
open Go.RowKit Go.Proofs.Ytcnabemeadnecaa.PPassPlans Go.Proofs.YtcnabemeadnecaaW.PrintWords Go.Proofs.YtcnabemeadnecaaW.PrintLast Go.Proofs.YtcnabemeadnecaaW.PrintMore Go.Proofs.YtcnabemeadnecaaW.PrintMine Go.Proofs.YtcnabemeadnecaaW.Plib
namespace PassP
def blk (B : List Int) (a : Nat) : List Int := (B.drop (64 * a)).take 64
theorem blk_get (B : List Int) (a i : Nat) : (blk B a)[i]? = if i < 64 then B[64 * a + i]? else none := by
  unfold blk
  rw [List.getElem?_take]
  split
  · rw [List.getElem?_drop]
  · rfl
theorem copyAt_blk {n : Nat} {B ys : List Int} {x a : Nat} (hB : B.length = 64 * n) (hy : ys.length = 64) (hx : x < n) (ha : a < n) : blk (copyAt B (64 * x) ys) a = if a = x then ys else blk B a := by
  have hm : min ys.length (B.length - 64 * x) = 64 := by omega
  have hl : (B.take (64 * x)).length = 64 * x := by rw [List.length_take]; omega
  apply List.ext_getElem?
  intro i
  rw [blk_get]
  unfold copyAt
  rw [hm, List.take_of_length_le (show ys.length ≤ 64 by omega)]
  by_cases hi : i < 64
  · rw [if_pos hi, List.getElem?_append, hl]
    by_cases c : a = x
    · subst c
      rw [if_neg (by omega), if_pos rfl, List.getElem?_append, if_pos (by omega)]
      congr 1
      omega
    · rw [if_neg c, blk_get, if_pos hi]
      by_cases c2 : a < x
      · rw [if_pos (by omega), List.getElem?_take, if_pos (by omega)]
      · rw [if_neg (by omega), List.getElem?_append, if_neg (by omega), List.getElem?_drop]
        congr 1
        omega
  · rw [if_neg hi]
    symm
    split
    · exact List.getElem?_eq_none (by omega)
    · rw [blk_get, if_neg hi]
def st (j : JS) (a : Nat) : Int := rdOf 0 j.S (a : Int)
theorem st_set {S : List Int} {x a : Nat} {v : Int} (hx : x < S.length) : rdOf 0 (S.set x v) (a : Int) = if a = x then v else rdOf 0 S (a : Int) := by
  unfold rdOf
  rw [Int.toNat_natCast, List.getD_eq_getElem?_getD, List.getD_eq_getElem?_getD, List.getElem?_set]
  by_cases c : x = a
  · subst c
    rw [if_pos rfl, if_pos rfl, if_pos hx]
    rfl
  · rw [if_neg c, if_neg (Ne.symm c)]
structure Bk (D : List Int) (ft : Nat → Int × Int × Int) (j : JS) (a t : Nat) : Prop where
  hm : j.mp (a : Int) = t
  hc : j.R.count (a : Int) = t
  hs : ∀ s : Nat, 1 ≤ s → s < t → ansE (ft a) s ≠ 0
  hst : (t = 0 ∧ (st j a = 0 ∨ st j a = 3)) ∨ (1 ≤ t ∧ ansE (ft a) t = 0 ∧ st j a = 1) ∨ (1 ≤ t ∧ ansE (ft a) t ≠ 0 ∧ st j a = 2)
  hb : blk j.B a = if st j a = 1 then ansR D a (ft a) t else List.replicate 64 0
def LOk (n : Nat) (j : JS) : Prop := j.S.length = n ∧ j.B.length = 64 * n
theorem ansR_len64 {D : List Int} {n x : Nat} {f : Int × Int × Int} {t : Int} (hD : D.length = 64 * n) (hx : x < n) (h : ansE f t = 0) : (ansR D x f t).length = 64 := by
  unfold ansR
  rw [if_pos h, List.length_take, List.length_drop]
  omega
section
variable {D : List Int} {ft : Nat → Int × Int × Int} {n : Nat}
theorem tryJ_lok {j : JS} {x : Nat} (L : LOk n j) (hx : x < n) : LOk n (tryJ D ft j x) := by
  refine ⟨by simp only [tryJ, List.length_set]; exact L.1, ?_⟩
  simp only [tryJ]
  split
  · rw [copyAt_length _ _ _ (by rw [L.2]; omega)]; exact L.2
  · exact L.2
theorem tryJ_st {j : JS} {x a : Nat} (L : LOk n j) (hx : x < n) : st (tryJ D ft j x) a = if a = x then (if ansE (ft x) (j.mp x + 1) = 0 then 1 else 2) else st j a := by
  simp only [st, tryJ]
  exact st_set (by rw [L.1]; exact hx)
theorem tryJ_far {j : JS} {x a t : Nat} (hD : D.length = 64 * n) (L : LOk n j) (hx : x < n) (ha : a < n) (hne : a ≠ x) (h : Bk D ft j a t) : Bk D ft (tryJ D ft j x) a t ∧ st (tryJ D ft j x) a = st j a := by
  have hst : st (tryJ D ft j x) a = st j a := by rw [tryJ_st L hx, if_neg hne]
  have hne2 : (a : Int) ≠ (x : Int) := by omega
  refine ⟨⟨?_, ?_, h.hs, by rw [hst]; exact h.hst, ?_⟩, hst⟩
  · simp only [tryJ, upd]
    rw [if_neg hne2]
    exact h.hm
  · simp only [tryJ]
    rw [List.count_append, h.hc, List.count_singleton, beq_eq_false_iff_ne.mpr (Ne.symm hne2)]
    rfl
  · rw [hst, ← h.hb]
    simp only [tryJ]
    split
    · rename_i c
      rw [copyAt_blk L.2 (ansR_len64 hD hx c) hx ha, if_neg hne]
    · rfl
theorem tryJ_at {j : JS} {x t : Nat} (hD : D.length = 64 * n) (L : LOk n j) (hx : x < n) (h : Bk D ft j x t) (h1 : st j x ≠ 1) : Bk D ft (tryJ D ft j x) x (t + 1) ∧ (st (tryJ D ft j x) x = 1 ∨ st (tryJ D ft j x) x = 2) := by
  have em : j.mp (x : Int) + 1 = ((t + 1 : Nat) : Int) := by rw [h.hm]; omega
  have hst : st (tryJ D ft j x) x = (if ansE (ft x) ((t + 1 : Nat) : Int) = 0 then 1 else 2) := by rw [tryJ_st L hx, if_pos rfl, em]
  refine ⟨⟨?_, ?_, ?_, ?_, ?_⟩, by rw [hst]; split <;> simp⟩
  · simp only [tryJ, upd, if_true]
    exact em
  · simp only [tryJ]
    rw [List.count_append, h.hc, List.count_singleton]
    simp
  · intro s s1 s2
    rcases h.hst with ⟨e, _⟩ | ⟨_, _, e⟩ | ⟨_, e, _⟩
    · omega
    · exact absurd e h1
    · rcases Nat.lt_or_ge s t with c | c
      · exact h.hs s s1 c
      · obtain rfl : s = t := by omega
        exact e
  · rw [hst]
    by_cases c : ansE (ft x) ((t + 1 : Nat) : Int) = 0
    · rw [if_pos c]; exact Or.inr (Or.inl ⟨by omega, c, rfl⟩)
    · rw [if_neg c]; exact Or.inr (Or.inr ⟨by omega, c, rfl⟩)
  · rw [hst]
    by_cases c : ansE (ft x) ((t + 1 : Nat) : Int) = 0
    · simp only [tryJ]
      rw [em, if_pos c, if_pos c, if_pos rfl, copyAt_blk L.2 (ansR_len64 hD hx c) hx hx, if_pos rfl]
    · simp only [tryJ]
      rw [em, if_neg c, if_neg c, if_neg (by decide), h.hb, if_neg h1]
theorem mark_lok {j : JS} {x : Nat} {v : Int} (L : LOk n j) : LOk n (markJ x v j) := ⟨by simp only [markJ, List.length_set]; exact L.1, L.2⟩
theorem mark_st {j : JS} {x a : Nat} {v : Int} (L : LOk n j) (hx : x < n) : st (markJ x v j) a = if a = x then v else st j a := by
  simp only [st, markJ]
  exact st_set (by rw [L.1]; exact hx)
theorem mark_far {j : JS} {x a t : Nat} {v : Int} (L : LOk n j) (hx : x < n) (hne : a ≠ x) (h : Bk D ft j a t) : Bk D ft (markJ x v j) a t ∧ st (markJ x v j) a = st j a := by
  have hst : st (markJ x v j) a = st j a := by rw [mark_st L hx, if_neg hne]
  exact ⟨⟨h.hm, h.hc, h.hs, by rw [hst]; exact h.hst, by rw [hst]; exact h.hb⟩, hst⟩
theorem mark_at {j : JS} {x : Nat} (L : LOk n j) (hx : x < n) (h : Bk D ft j x 0) : Bk D ft (markJ x 3 j) x 0 ∧ st (markJ x 3 j) x = 3 := by
  have hst : st (markJ x 3 j) x = 3 := by rw [mark_st L hx, if_pos rfl]
  refine ⟨⟨h.hm, h.hc, h.hs, Or.inl ⟨rfl, Or.inr hst⟩, ?_⟩, hst⟩
  rw [hst, if_neg (by decide)]
  have h1 : st j x ≠ 1 := by
    rcases h.hst with ⟨_, e | e⟩ | ⟨e, _⟩ | ⟨e, _⟩
    · rw [e]; decide
    · rw [e]; decide
    · omega
    · omega
  have := h.hb
  rw [if_neg h1] at this
  exact this
theorem skip_all {x : Nat} : ∀ (s : Nat) (j : JS), LOk n j → x + s < n → LOk n (skipJ s x j) ∧ ∀ a, a < n → ((a ≤ x ∨ x + s < a) → ∀ t, Bk D ft j a t → Bk D ft (skipJ s x j) a t ∧ st (skipJ s x j) a = st j a) ∧ (x < a → a ≤ x + s → Bk D ft j a 0 → Bk D ft (skipJ s x j) a 0 ∧ st (skipJ s x j) a = 3)
  | 0, j, L, _ => ⟨L, fun a _ => ⟨fun _ t h => ⟨h, rfl⟩, fun h1 h2 => by omega⟩⟩
  | s + 1, j, L, hs => by
    obtain ⟨i1, i2⟩ := skip_all (x := x) s j L (by omega)
    unfold skipJ
    refine ⟨mark_lok i1, fun a ha => ⟨fun h t hB => ?_, fun h1 h2 hB => ?_⟩⟩
    · obtain ⟨b1, b2⟩ := (i2 a ha).1 (by omega) t hB
      obtain ⟨c1, c2⟩ := mark_far (v := 3) i1 (show x + s + 1 < n by omega) (show a ≠ x + s + 1 by omega) b1
      exact ⟨c1, c2.trans b2⟩
    · rcases Nat.lt_or_ge a (x + s + 1) with c | c
      · obtain ⟨b1, b2⟩ := (i2 a ha).2 h1 (by omega) hB
        obtain ⟨c1, c2⟩ := mark_far (v := 3) i1 (show x + s + 1 < n by omega) (show a ≠ x + s + 1 by omega) b1
        exact ⟨c1, c2.trans b2⟩
      · obtain rfl : a = x + s + 1 := by omega
        obtain ⟨b1, _⟩ := (i2 _ ha).1 (by omega) 0 hB
        exact mark_at i1 ha b1
/-- Skipped, or tried once. -/
def C13 (s : Int) (t : Nat) : Prop := (s = 3 ∧ t = 0) ∨ t = 1
theorem fwd_all (hD : D.length = 64 * n) (K : Nat) : ∀ (fu i : Nat) (j : JS), n - i ≤ fu → LOk n j → (∀ a, a < n → (i ≤ a → Bk D ft j a 0) ∧ (a < i → ∃ t, Bk D ft j a t ∧ C13 (st j a) t)) → LOk n (fwdJ D ft K n fu i j) ∧ ∀ a, a < n → ∃ t, Bk D ft (fwdJ D ft K n fu i j) a t ∧ C13 (st (fwdJ D ft K n fu i j) a) t
  | 0, i, j, hi, L, h => by
    unfold fwdJ
    exact ⟨L, fun a ha => (h a ha).2 (by omega)⟩
  | fu + 1, i, j, hi, L, h => by
    unfold fwdJ
    by_cases c : i < n
    · rw [if_pos c]
      have h0 := (h i c).1 (Nat.le_refl _)
      have h01 : st j i ≠ 1 := by
        rcases h0.hst with ⟨_, e | e⟩ | ⟨e, _⟩ | ⟨e, _⟩
        · rw [e]; decide
        · rw [e]; decide
        · omega
        · omega
      have L2 := tryJ_lok (D := D) (ft := ft) L c
      have hat := (tryJ_at hD L c h0 h01).1
      by_cases z : ansE (ft i) (j.mp i + 1) = 0
      · rw [if_pos z]
        refine fwd_all hD K fu (i + 1) _ (by omega) L2 fun a ha => ⟨fun g => ?_, fun g => ?_⟩
        · exact (tryJ_far hD L c ha (by omega) ((h a ha).1 (by omega))).1
        · rcases Nat.lt_or_ge a i with g2 | g2
          · obtain ⟨t, b1, b2⟩ := (h a ha).2 g2
            obtain ⟨d1, d2⟩ := tryJ_far hD L c ha (by omega) b1
            exact ⟨t, d1, by rw [d2]; exact b2⟩
          · obtain rfl : a = i := by omega
            exact ⟨1, hat, Or.inr rfl⟩
      · rw [if_neg z]
        have hsm : i + min K (n - 1 - i) < n := by omega
        generalize min K (n - 1 - i) = s at hsm ⊢
        obtain ⟨i1, i2⟩ := skip_all (D := D) (ft := ft) (x := i) s (tryJ D ft j i) L2 hsm
        refine fwd_all hD K fu (i + s + 1) _ (by omega) i1 fun a ha => ⟨fun g => ?_, fun g => ?_⟩
        · exact ((i2 a ha).1 (Or.inr (by omega)) 0 (tryJ_far hD L c ha (by omega) ((h a ha).1 (by omega))).1).1
        · rcases Nat.lt_or_ge a i with g2 | g2
          · obtain ⟨t, b1, b2⟩ := (h a ha).2 g2
            obtain ⟨d1, d2⟩ := tryJ_far hD L c ha (by omega) b1
            obtain ⟨e1, e2⟩ := (i2 a ha).1 (Or.inl (by omega)) t d1
            exact ⟨t, e1, by rw [e2, d2]; exact b2⟩
          · rcases Nat.lt_or_ge i a with g3 | g3
            · obtain ⟨d1, d2⟩ := tryJ_far hD L c ha (by omega) ((h a ha).1 (by omega))
              obtain ⟨e1, e2⟩ := (i2 a ha).2 g3 (by omega) d1
              exact ⟨0, e1, Or.inl ⟨e2, rfl⟩⟩
            · obtain rfl : a = i := by omega
              obtain ⟨e1, e2⟩ := (i2 a ha).1 (Or.inl (by omega)) 1 hat
              exact ⟨1, e1, Or.inr rfl⟩
    · rw [if_neg c]
      exact ⟨L, fun a ha => (h a ha).2 (by omega)⟩
theorem bwd_all (hD : D.length = 64 * n) : ∀ (d : Nat) (s : Bool) (j : JS), d ≤ n → LOk n j → (∀ a, a < n → ∃ t, Bk D ft j a t ∧ C13 (st j a) t) → LOk n (bwdJ D ft d s j) ∧ ∀ a, a < n → ∃ t, Bk D ft (bwdJ D ft d s j) a t ∧ C13 (st (bwdJ D ft d s j) a) t
  | 0, s, j, _, L, h => ⟨L, h⟩
  | d + 1, s, j, hd, L, h => by
    unfold bwdJ
    by_cases c : rdOf 0 j.S (d : Int) = 3
    · rw [if_pos c]
      have c' : st j d = 3 := c
      cases s
      · rw [if_neg (by simp)]
        refine bwd_all hD d _ _ (by omega) (tryJ_lok L (by omega)) fun a ha => ?_
        obtain ⟨t, b1, b2⟩ := h a ha
        by_cases e : a = d
        · subst e
          have ht : t = 0 := by
            rcases b1.hst with ⟨e, _⟩ | ⟨_, _, e⟩ | ⟨_, _, e⟩
            · exact e
            · rw [c'] at e; exact absurd e (by decide)
            · rw [c'] at e; exact absurd e (by decide)
          subst ht
          exact ⟨1, (tryJ_at hD L (by omega) b1 (by rw [c']; decide)).1, Or.inr rfl⟩
        · obtain ⟨d1, d2⟩ := tryJ_far hD L (show d < n by omega) ha e b1
          exact ⟨t, d1, by rw [d2]; exact b2⟩
      · rw [if_pos rfl]
        exact bwd_all hD d _ _ (by omega) L h
    · rw [if_neg c]
      exact bwd_all hD d _ _ (by omega) L h
theorem each_all (hD : D.length = 64 * n) {v : Int} (hv : v ≠ 1) : ∀ (d i : Nat) (j : JS), i + d = n → LOk n j → LOk n (eachJ D ft v d i j) ∧ ∀ a, a < n → ∀ t, Bk D ft j a t → ((i ≤ a ∧ st j a = v) → Bk D ft (eachJ D ft v d i j) a (t + 1) ∧ (st (eachJ D ft v d i j) a = 1 ∨ st (eachJ D ft v d i j) a = 2)) ∧ (¬ (i ≤ a ∧ st j a = v) → Bk D ft (eachJ D ft v d i j) a t ∧ st (eachJ D ft v d i j) a = st j a)
  | 0, i, j, hi, L => ⟨L, fun a ha t h => ⟨fun hh => by omega, fun _ => ⟨h, rfl⟩⟩⟩
  | d + 1, i, j, hi, L => by
    unfold eachJ
    by_cases c : rdOf 0 j.S (i : Int) = v
    · rw [if_pos c]
      have c' : st j i = v := c
      have hin : i < n := by omega
      obtain ⟨i1, i2⟩ := each_all hD hv d (i + 1) (tryJ D ft j i) (by omega) (tryJ_lok L hin)
      refine ⟨i1, fun a ha t h => ⟨fun hh => ?_, fun hh => ?_⟩⟩
      · by_cases e : a = i
        · subst e
          obtain ⟨b1, b2⟩ := tryJ_at hD L hin h (by rw [c']; exact hv)
          obtain ⟨d1, d2⟩ := (i2 a ha (t + 1) b1).2 (by omega)
          exact ⟨d1, by rw [d2]; exact b2⟩
        · obtain ⟨b1, b2⟩ := tryJ_far hD L hin ha e h
          exact (i2 a ha t b1).1 ⟨by omega, by rw [b2]; exact hh.2⟩
      · have e : a ≠ i := fun e => hh ⟨by omega, by rw [e]; exact c'⟩
        obtain ⟨b1, b2⟩ := tryJ_far hD L hin ha e h
        obtain ⟨d1, d2⟩ := (i2 a ha t b1).2 (fun g => hh ⟨by omega, by rw [← b2]; exact g.2⟩)
        exact ⟨d1, d2.trans b2⟩
    · rw [if_neg c]
      obtain ⟨i1, i2⟩ := each_all hD hv d (i + 1) j (by omega) L
      refine ⟨i1, fun a ha t h => ⟨fun hh => ?_, fun hh => ?_⟩⟩
      · have e : a ≠ i := fun e => c (by rw [← e]; exact hh.2)
        exact (i2 a ha t h).1 ⟨by omega, hh.2⟩
      · exact (i2 a ha t h).2 (fun g => hh ⟨by omega, g.2⟩)
/-- Good within c attempts, or failed in all c. -/
def Fin (j : JS) (a t c : Nat) : Prop := (st j a = 1 ∧ 1 ≤ t ∧ t ≤ c) ∨ (st j a = 2 ∧ t = c)
theorem rounds_all (hD : D.length = 64 * n) : ∀ (r c : Nat) (j : JS), 1 ≤ c → LOk n j → (∀ a, a < n → ∃ t, Bk D ft j a t ∧ Fin j a t c) → LOk n (eachR D ft n r j) ∧ ∀ a, a < n → ∃ t, Bk D ft (eachR D ft n r j) a t ∧ Fin (eachR D ft n r j) a t (c + r)
  | 0, c, j, _, L, h => ⟨L, h⟩
  | r + 1, c, j, hc, L, h => by
    unfold eachR
    obtain ⟨i1, i2⟩ := each_all (ft := ft) hD (v := 2) (by decide) n 0 j (by omega) L
    rw [show c + (r + 1) = (c + 1) + r by omega]
    refine rounds_all hD r (c + 1) _ (by omega) i1 fun a ha => ?_
    obtain ⟨t, b1, b2⟩ := h a ha
    rcases b2 with ⟨s1, t1, t2⟩ | ⟨s2, rfl⟩
    · obtain ⟨d1, d2⟩ := (i2 a ha t b1).2 (fun g => by rw [s1] at g; exact absurd g.2 (by decide))
      exact ⟨t, d1, Or.inl ⟨d2.trans s1, t1, by omega⟩⟩
    · obtain ⟨d1, d2⟩ := (i2 a ha t b1).1 ⟨by omega, s2⟩
      exact ⟨t + 1, d1, d2.elim (fun e => Or.inl ⟨e, by omega, by omega⟩) (fun e => Or.inr ⟨e, rfl⟩)⟩
theorem start_bk {a : Nat} (ha : a < n) : Bk D ft (startJ n) a 0 := by
  have hst : st (startJ n) a = 0 := by
    simp only [st, startJ, rdOf, Int.toNat_natCast, List.getD_eq_getElem?_getD]
    rw [List.getElem?_replicate, if_pos ha]
    rfl
  refine ⟨rfl, rfl, fun s h1 h2 => by omega, Or.inl ⟨rfl, Or.inl hst⟩, ?_⟩
  rw [hst, if_neg (by decide)]
  unfold blk startJ
  rw [List.drop_replicate, List.take_replicate]
  congr 1
  omega
/-- Behind all passes: each block is good with its first good attempt, or failed in all T. -/
theorem run_all (hD : D.length = 64 * n) (K T : Nat) (hT : 1 ≤ T) : LOk n (runJ D ft K T n) ∧ ∀ a, a < n → ∃ t, Bk D ft (runJ D ft K T n) a t ∧ Fin (runJ D ft K T n) a t T := by
  unfold runJ
  obtain ⟨f1, f2⟩ := fwd_all (ft := ft) hD K n 0 (startJ n) (by omega) ⟨List.length_replicate, List.length_replicate⟩ (fun a ha => ⟨fun _ => start_bk ha, fun h => by omega⟩)
  obtain ⟨b1, b2⟩ := bwd_all (ft := ft) hD n false _ (Nat.le_refl _) f1 f2
  obtain ⟨e1, e2⟩ := each_all (ft := ft) hD (v := 3) (by decide) n 0 _ (by omega) b1
  have h := rounds_all (ft := ft) hD (T - 1) 1 _ (Nat.le_refl _) e1 (fun a ha => by
    obtain ⟨t, g1, g2⟩ := b2 a ha
    by_cases c : st (bwdJ D ft n false (fwdJ D ft K n n 0 (startJ n))) a = 3
    · obtain ⟨k1, k2⟩ := (e2 a ha t g1).1 ⟨by omega, c⟩
      have ht : t = 0 := by
        rcases g1.hst with ⟨e, _⟩ | ⟨_, _, e⟩ | ⟨_, _, e⟩
        · exact e
        · rw [c] at e; exact absurd e (by decide)
        · rw [c] at e; exact absurd e (by decide)
      subst ht
      exact ⟨1, k1, k2.elim (fun e => Or.inl ⟨e, by omega, by omega⟩) (fun e => Or.inr ⟨e, rfl⟩)⟩
    · obtain ⟨k1, k2⟩ := (e2 a ha t g1).2 (fun g => c g.2)
      have ht : t = 1 := by
        rcases g2 with ⟨e, _⟩ | e
        · exact absurd e c
        · exact e
      subst ht
      rcases k1.hst with ⟨e, _⟩ | ⟨_, _, e⟩ | ⟨_, _, e⟩
      · exact absurd e (by decide)
      · exact ⟨1, k1, Or.inl ⟨e, by omega, by omega⟩⟩
      · exact ⟨1, k1, Or.inr ⟨e, rfl⟩⟩)
  rw [show 1 + (T - 1) = T by omega] at h
  exact h
theorem ansE_mono {f : Int × Int × Int} {s t : Int} (h : ansE f s = 0) (hst : s ≤ t) : ansE f t = 0 := by
  unfold ansE at h ⊢
  split at h
  · exact absurd h (by decide)
  · rename_i c
    rw [if_neg (fun g => c (g.elim Or.inl (fun g => Or.inr ⟨g.1, by omega⟩)))]
/-- The attempt by which a block is good, or T. -/
theorem run_states (hD : D.length = 64 * n) (K T : Nat) (hT : 1 ≤ T) (a : Nat) (ha : a < n) : rdOf 0 (runJ D ft K T n).S (a : Int) = if ansE (ft a) T = 0 then 1 else 2 := by
  obtain ⟨t, b1, b2⟩ := (run_all (ft := ft) hD K T hT).2 a ha
  show st _ a = _
  rcases b2 with ⟨e, t1, t2⟩ | ⟨e, rfl⟩
  · rcases b1.hst with ⟨_, g | g⟩ | ⟨_, g, _⟩ | ⟨_, _, g⟩
    · rw [e] at g; exact absurd g (by decide)
    · rw [e] at g; exact absurd g (by decide)
    · rw [e, if_pos (ansE_mono g (by omega))]
    · rw [e] at g; exact absurd g (by decide)
  · rcases b1.hst with ⟨_, g | g⟩ | ⟨_, _, g⟩ | ⟨_, g, _⟩
    · rw [e] at g; exact absurd g (by decide)
    · rw [e] at g; exact absurd g (by decide)
    · rw [e] at g; exact absurd g (by decide)
    · rw [e, if_neg g]
theorem run_bytes (hD : D.length = 64 * n) (K T : Nat) (hT : 1 ≤ T) (a : Nat) (ha : a < n) : blk (runJ D ft K T n).B a = if ansE (ft a) T = 0 then ansR D a (ft a) T else List.replicate 64 0 := by
  have hs := run_states (ft := ft) hD K T hT a ha
  obtain ⟨t, b1, b2⟩ := (run_all (ft := ft) hD K T hT).2 a ha
  have hs' : st (runJ D ft K T n) a = if ansE (ft a) T = 0 then 1 else 2 := hs
  rw [b1.hb, hs']
  by_cases c : ansE (ft a) T = 0
  · rw [if_pos c, if_pos rfl, if_pos c]
    rw [if_pos c] at hs'
    rcases b1.hst with ⟨_, g | g⟩ | ⟨_, g, _⟩ | ⟨_, _, g⟩
    · rw [hs'] at g; exact absurd g (by decide)
    · rw [hs'] at g; exact absurd g (by decide)
    · unfold ansR
      rw [if_pos g, if_pos c]
    · rw [hs'] at g; exact absurd g (by decide)
  · rw [if_neg c, if_neg (by decide), if_neg c]
end
end PassP
end Go.Proofs.Ytcnabemeadnecaa.Pure
