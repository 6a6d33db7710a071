/- wrackkeep3.NearMerges: what near.Groups answers. -/
import Derived.Test.YtcgflahchpeakaaPureNearPairs
namespace Go.Proofs.Ytcgflahchpeakaa.Pure
set_option linter.unusedVariables false
set_option linter.unusedSimpArgs false
open Go.RowKit Go.Proofs.Ytcgflahchpeakaa.PNearMerges Go.Proofs.YtcgflahchpeakaaW.PrintWords Go.Proofs.YtcgflahchpeakaaW.PrintLast Go.Proofs.YtcgflahchpeakaaW.PrintMore Go.Proofs.YtcgflahchpeakaaW.PrintMine Go.Proofs.YtcgflahchpeakaaW.Plib
namespace NearP
/-- the row of roots: text j's root is f j -/
def Root (n : Nat) (f : Nat → Nat) (R : List Int) : Prop := R.length = n ∧ ∀ j, j < n → R.getD j 0 = ((f j : Nat) : Int)
theorem root_set {n x v : Nat} {f : Nat → Nat} {R : List Int} (h : Root n f R) (hx : x < n) : Root n (fun j => if j = x then v else f j) (R.set x (v : Int)) := by
  refine ⟨by rw [List.length_set]; exact h.1, fun j hj => ?_⟩
  by_cases c : j = x
  · subst c
    rw [List.getD_eq_getElem?_getD, List.getElem?_set_self (by rw [h.1]; exact hx)]
    simp
  · rw [List.getD_eq_getElem?_getD, List.getElem?_set_ne (by omega), ← List.getD_eq_getElem?_getD, h.2 j hj]; simp only [if_neg c]
theorem root_congr {n : Nat} {f g : Nat → Nat} {R : List Int} (h : Root n f R) (e : ∀ j, j < n → f j = g j) : Root n g R := ⟨h.1, fun j hj => by rw [h.2 j hj, e j hj]⟩
structure Fine (n : Nat) (E : Nat → Nat → Prop) (f : Nat → Nat) : Prop where
  lt : ∀ j, j < n → f j < n
  eq : ∀ a b, a < b → b < n → E a b → f a = f b
  fac : ∀ h : Nat → Nat, (∀ a b, a < b → b < n → E a b → h a = h b) → ∀ j, j < n → h (f j) = h j
/-- the texts with root i -/
def grp (n : Nat) (f : Nat → Nat) (i : Nat) : List Int := ((List.range n).filter fun k => decide (f k = i)).map fun k => ((k : Nat) : Int)
def GR (n : Nat) (f : Nat → Nat) : List (List Int) := ((List.range n).map (grp n f)).filter fun g => decide (0 < g.length)
theorem at_T {X : List S44} (i : Nat) : rd_T44 X (i : Int) = X.getD i z44 := by simp only [rd_T44, Int.toNat_natCast]
theorem grp_len (n : Nat) (f : Nat → Nat) (i : Nat) : (grp n f i).length ≤ n := by
  unfold grp
  rw [List.length_map]
  exact Nat.le_trans (List.length_filter_le _ _) (by rw [List.length_range]; exact Nat.le_refl _)
theorem groups_l4 (n : Nat) (hn : n ≤ 8) (f : Nat → Nat) (R : List Int) (hR : Root n f R) (i : Nat) (hi : i < n) (G : List (List Int)) (hG : G.length ≤ i) {P : List (List Int) × Int → Prop}
    (K : ∀ G', G' = G ++ ([grp n f i].filter fun g => decide (0 < g.length)) → Gets (fun k => near_Groups.l3 k R G' (n : Int) ((i + 1 : Nat) : Int)) P) (d : Nat) :
    ∀ (x : Nat) (g : List Int), x + d = n → g.length ≤ x → g = ((List.range x).filter fun k => decide (f k = i)).map (fun k => ((k : Nat) : Int)) → Gets (fun k => near_Groups.l4 k R G (i : Int) g (n : Int) (i : Int) R (n : Int) (x : Int)) P := by
  induction d with
  | zero =>
    intro x g hx hl hg
    obtain rfl : x = n := by omega
    have e : g = grp x f i := hg
    have hw := w1 i x hi (by omega)
    have q : G.length < 5864062014805 := by clear hw; omega
    refine Gets.up ?_
    simp only [near_Groups.l4, if_neg (show ¬ (x : Int) < (x : Int) by clear hw; omega), hw]
    by_cases c : 0 < g.length
    · have q2 : (g.length : Int) > 0 := by clear hw; omega
      simp -implicitDefEqProofs only [if_pos q, if_pos q2]
      exact K _ (by rw [← e]; simp [c])
    · have q2 : ¬ (g.length : Int) > 0 := by clear hw; omega
      simp -implicitDefEqProofs only [if_neg q2]
      exact K _ (by rw [← e]; simp [c])
  | succ d ih =>
    intro x g hx hl hg
    have hRl := hR.1
    have q1 : (x : Int) < (n : Int) := by omega
    have q2 : (0 : Int) ≤ (x : Int) := by omega
    have q3 : (x : Int) < (R.length : Int) := by omega
    have q4 : g.length < 17592186044416 := by omega
    have hw := w1 x n (by omega) (by omega)
    have hr := hR.2 x (by clear hw; omega)
    refine Gets.up ?_
    simp only [near_Groups.l4, hw, at_one, hr]
    simp -implicitDefEqProofs only [if_pos q1, if_pos q2, if_pos q3]
    by_cases c : f x = i
    · have c' : ((f x : Nat) : Int) = (i : Int) := by rw [c]
      simp -implicitDefEqProofs only [if_pos c', if_pos q4]
      exact ih (x + 1) _ (by clear hw; omega) (by rw [List.length_append]; simp only [List.length_singleton]; clear hw; omega) (by rw [hg, List.range_succ, List.filter_append, List.map_append]; simp [c])
    · have c' : ¬ ((f x : Nat) : Int) = (i : Int) := by clear hw; omega
      simp -implicitDefEqProofs only [if_neg c']
      exact ih (x + 1) _ (by clear hw; omega) (by clear hw; omega) (by rw [hg, List.range_succ, List.filter_append, List.map_append]; simp [c])
theorem groups_l3 (n : Nat) (hn : n ≤ 8) (f : Nat → Nat) (R : List Int) (hR : Root n f R) (d : Nat) :
    ∀ (i : Nat), i + d = n → Gets (fun k => near_Groups.l3 k R (((List.range i).map (grp n f)).filter fun g => decide (0 < g.length)) (n : Int) (i : Int)) (· = (GR n f, 0)) := by
  induction d with
  | zero =>
    intro i hi
    obtain rfl : i = n := by omega
    refine Gets.up ?_
    simp only [near_Groups.l3, if_neg (show ¬ (i : Int) < (i : Int) by omega)]
    exact Gets.ret rfl
  | succ d ih =>
    intro i hi
    have q1 : (i : Int) < (n : Int) := by omega
    have hRl := hR.1
    refine Gets.up ?_
    simp only [near_Groups.l3, hRl]
    simp -implicitDefEqProofs only [if_pos q1]
    refine groups_l4 n hn f R hR i (by omega) _ (Nat.le_trans (List.length_filter_le _ _) (by simp)) (fun G' e => ?_) n 0 [] (by omega) (by simp) (by simp)
    have := ih (i + 1) (by omega)
    rw [List.range_succ, List.map_append, List.filter_append] at this
    rw [e]
    exact this
theorem groups_l2 (D : List (List Int)) (n : Nat) (hDn : D.length = n) (hn : n ≤ 8) (f : Nat → Nat) (hf : ∀ j, j < n → f j < n) (L : List S44) (hL : L.length ≤ 100) (y : Nat) (hy : y < L.length) (A B : Nat) (hA : A < n) (hB : B < n) {P : List (List Int) × Int → Prop}
    (K : ∀ R, Root n (fun j => if f j = max A B then min A B else f j) R → Gets (fun k => near_Groups.l1 k D R L (L.length : Int) ((y + 1 : Nat) : Int)) P) (d : Nat) :
    ∀ (x : Nat) (R : List Int), x + d = n → Root n (fun j => if j < x then (if f j = max A B then min A B else f j) else f j) R → Gets (fun k => near_Groups.l2 k D R (A : Int) (B : Int) L (L.length : Int) (y : Int) (n : Int) (x : Int)) P := by
  have emx : mx (A : Int) (B : Int) = ((max A B : Nat) : Int) := by unfold mx; split <;> omega
  have emn : mn (A : Int) (B : Int) = ((min A B : Nat) : Int) := by unfold mn; split <;> omega
  induction d with
  | zero =>
    intro x R hx hR
    obtain rfl : x = n := by omega
    have hw := w1 y L.length hy (by omega)
    refine Gets.up ?_
    simp only [near_Groups.l2, if_neg (show ¬ (x : Int) < (x : Int) by clear hw; omega), hw]
    exact K R (root_congr hR (fun j hj => by rw [if_pos hj]))
  | succ d ih =>
    intro x R hx hR
    have hRl := hR.1
    have hxn : x < n := by omega
    have q1 : (x : Int) < (n : Int) := by omega
    have q2 : (0 : Int) ≤ (x : Int) := by omega
    have q3 : (x : Int) < (R.length : Int) := by omega
    have hr := hR.2 x hxn
    simp only [if_neg (Nat.lt_irrefl x)] at hr
    have hw := w1 x n hxn (by omega)
    refine Gets.up ?_
    simp only [near_Groups.l2, hw, at_one, hr, emx, emn, Int.toNat_natCast]
    simp -implicitDefEqProofs only [if_pos q1, if_pos q2, if_pos q3]
    by_cases c : f x = max A B
    · have c' : ((f x : Nat) : Int) = ((max A B : Nat) : Int) := by rw [c]
      simp -implicitDefEqProofs only [if_pos c']
      refine ih (x + 1) _ (by clear hw; omega) (root_congr (root_set (v := min A B) hR hxn) (fun j hj => ?_))
      by_cases c1 : j = x
      · subst c1; rw [if_pos rfl, if_pos (Nat.lt_succ_self j), if_pos c]
      · rw [if_neg c1]
        by_cases c2 : j < x
        · rw [if_pos c2, if_pos (show j < x + 1 by clear hw; omega)]
        · rw [if_neg c2, if_neg (show ¬ j < x + 1 by clear hw; omega)]
    · have c' : ¬ ((f x : Nat) : Int) = ((max A B : Nat) : Int) := by clear hw emx emn; omega
      simp -implicitDefEqProofs only [if_neg c']
      refine ih (x + 1) _ (by clear hw; omega) (root_congr hR (fun j hj => ?_))
      by_cases c1 : j = x
      · subst c1; rw [if_neg (Nat.lt_irrefl j), if_pos (Nat.lt_succ_self j), if_neg c]
      · by_cases c2 : j < x
        · rw [if_pos c2, if_pos (show j < x + 1 by clear hw; omega)]
        · rw [if_neg c2, if_neg (show ¬ j < x + 1 by clear hw; omega)]
/-- what holds of the roots behind the first y pairs -/
structure Part (n : Nat) (L : List S44) (y : Nat) (f : Nat → Nat) : Prop where
  lt : ∀ j, j < n → f j < n
  eq : ∀ q a b : Nat, q < y → L.getD q z44 = ⟨(a : Int), (b : Int)⟩ → f a = f b
  fac : ∀ h : Nat → Nat, (∀ a b : Nat, (⟨(a : Int), (b : Int)⟩ : S44) ∈ L → h a = h b) → ∀ j, j < n → h (f j) = h j
theorem part_step {n : Nat} {L : List S44} {y : Nat} {f : Nat → Nat} (hP : Part n L y f) (hy : y < L.length) {a b : Nat} (e : L.getD y z44 = ⟨(a : Int), (b : Int)⟩) (ha : a < n) (hb : b < n) :
    Part n L (y + 1) (fun j => if f j = max (f a) (f b) then min (f a) (f b) else f j) := by
  have l1 := hP.lt a ha
  have l2 := hP.lt b hb
  refine ⟨fun j hj => ?_, fun q a' b' hq e' => ?_, fun h hh j hj => ?_⟩
  · have l3 := hP.lt j hj
    split <;> omega
  · by_cases c : q = y
    · subst c
      rw [e] at e'
      injection e' with e1 e2
      obtain rfl : a = a' := by omega
      obtain rfl : b = b' := by omega
      split <;> split <;> omega
    · have := hP.eq q a' b' (by omega) e'
      rw [this]
  · have hab : h a = h b := hh a b (by rw [← e]; exact getD_mem hy)
    have k1 := hP.fac h hh a ha
    have k2 := hP.fac h hh b hb
    have k3 := hP.fac h hh j hj
    split
    case isTrue c =>
      rw [← k3, c]
      by_cases c2 : f a ≤ f b
      · rw [Nat.min_eq_left c2, Nat.max_eq_right c2, k1, k2, hab]
      · rw [Nat.min_eq_right (by omega), Nat.max_eq_left (by omega), k1, k2, hab]
    case isFalse => exact k3
theorem groups_l1 (D : List (List Int)) (n : Nat) (hDn : D.length = n) (hn : n ≤ 8) (L : List S44) (hL : L.length ≤ 100) (hg : ∀ p ∈ L, ∃ a b : Nat, p = ⟨(a : Int), (b : Int)⟩ ∧ a < b ∧ b < n) (d : Nat) :
    ∀ (y : Nat) (f : Nat → Nat) (R : List Int), y + d = L.length → Root n f R → Part n L y f → Gets (fun k => near_Groups.l1 k D R L (L.length : Int) (y : Int)) (fun r => ∃ f, Part n L L.length f ∧ r = (GR n f, 0)) := by
  induction d with
  | zero =>
    intro y f R hy hR hP
    obtain rfl : y = L.length := by omega
    refine Gets.up ?_
    simp only [near_Groups.l1, if_neg (show ¬ (L.length : Int) < (L.length : Int) by omega), hDn]
    exact (groups_l3 n hn f R hR n 0 (by omega)).imp (fun r e => ⟨f, hP, e⟩)
  | succ d ih =>
    intro y f R hy hR hP
    have hyl : y < L.length := by omega
    obtain ⟨a, b, e, hab, hb⟩ := hg _ (getD_mem (d := z44) hyl)
    have hRl := hR.1
    have q1 : (y : Int) < (L.length : Int) := by omega
    have q2 : (0 : Int) ≤ (y : Int) := by omega
    have q3 : (0 : Int) ≤ (a : Int) := by omega
    have q4 : (a : Int) < (R.length : Int) := by omega
    have q5 : (0 : Int) ≤ (b : Int) := by omega
    have q6 : (b : Int) < (R.length : Int) := by omega
    have ra := hR.2 a (by omega)
    have rb := hR.2 b hb
    refine Gets.up ?_
    simp only [near_Groups.l1, at_T, e, at_one, ra, rb]
    simp -implicitDefEqProofs only [if_pos q1, if_pos q2, if_pos q3, if_pos q4, if_pos q5, if_pos q6]
    rw [hRl]
    exact groups_l2 D n hDn hn f hP.lt L hL y hyl (f a) (f b) (hP.lt a (by omega)) (hP.lt b hb) (fun R' hR' => ih (y + 1) _ R' (by omega) hR' (part_step hP hyl e (by omega) hb)) n 0 R (by omega) (root_congr hR (fun j _ => by rw [if_neg (Nat.not_lt_zero j)]))
theorem groups_l0 (D : List (List Int)) (n : Nat) (hDn : D.length = n) (hn : n ≤ 8) (L : List S44) (hL : L.length ≤ 100) (hg : ∀ p ∈ L, ∃ a b : Nat, p = ⟨(a : Int), (b : Int)⟩ ∧ a < b ∧ b < n) (d : Nat) :
    ∀ (x : Nat) (R : List Int), x + d = n → Root n (fun j => if j < x then j else 0) R → Gets (fun k => near_Groups.l0 k D L R (n : Int) (x : Int)) (fun r => ∃ f, Part n L L.length f ∧ r = (GR n f, 0)) := by
  induction d with
  | zero =>
    intro x R hx hR
    obtain rfl : x = n := by omega
    refine Gets.up ?_
    simp only [near_Groups.l0, if_neg (show ¬ (x : Int) < (x : Int) by omega)]
    exact groups_l1 D x hDn hn L hL hg L.length 0 id R (by omega) (root_congr hR (fun j hj => by rw [if_pos hj]; rfl)) ⟨fun j hj => hj, fun q a b hq _ => absurd hq (Nat.not_lt_zero q), fun h _ j _ => rfl⟩
  | succ d ih =>
    intro x R hx hR
    have hRl := hR.1
    have hxn : x < n := by omega
    have q1 : (x : Int) < (n : Int) := by omega
    have q2 : (0 : Int) ≤ (x : Int) := by omega
    have q3 : (x : Int) < (R.length : Int) := by omega
    have hw := w1 x n hxn (by omega)
    refine Gets.up ?_
    simp only [near_Groups.l0, hw, Int.toNat_natCast]
    simp -implicitDefEqProofs only [if_pos q1, if_pos q2, if_pos q3]
    refine ih (x + 1) _ (by clear hw; omega) (root_congr (root_set (v := x) hR hxn) (fun j hj => ?_))
    by_cases c1 : j = x
    · subst c1; rw [if_pos rfl, if_pos (Nat.lt_succ_self j)]
    · rw [if_neg c1]
      by_cases c2 : j < x
      · rw [if_pos c2, if_pos (show j < x + 1 by clear hw; omega)]
      · rw [if_neg c2, if_neg (show ¬ j < x + 1 by clear hw; omega)]
theorem groups_f (D : List (List Int)) (S : List (List ByteArray)) (c : Nat → Nat → Nat) (m : Int) (hn : D.length ≤ 8) (hD : ∀ x ∈ D, x.length ≤ 40) (hSh : Sh D S) (hc : Cm S c) (h0 : 0 ≤ m) (h1 : m ≤ 10) :
    Gets (fun k => near_Groups.f k D m 10) (fun r => ∃ f, Fine D.length (Ed S c m) f ∧ r = (GR D.length f, 0)) := by
  simp only [near_Groups.f]
  refine (pairs_f D S c m hn hD hSh hc h0 h1).bind ?_
  rintro ⟨L, z⟩ ⟨hz, hsp⟩
  simp only at hz hsp
  subst hz
  have q1 : (0 : Int) ≤ (D.length : Int) := by omega
  have q2 : D.length ≤ 35184372088832 := by omega
  simp only [if_true, if_pos q1, if_pos q2, Option.bind_some, Int.toNat_natCast, List.length_replicate]
  have hl := hSh.1
  refine (groups_l0 D D.length rfl hn L hsp.len (fun p hp => ?_) D.length 0 (List.replicate D.length 0) (by omega) ⟨by simp, fun j hj => ?_⟩).imp ?_
  · obtain ⟨a, b, e, hab, hb, -⟩ := hsp.good p hp
    exact ⟨a, b, e, hab, by omega⟩
  · simp only [if_neg (Nat.not_lt_zero j)]; rw [List.getD_eq_getElem?_getD, List.getElem?_replicate, if_pos hj]; rfl
  · rintro r ⟨f, hP, e⟩
    refine ⟨f, ⟨hP.lt, fun a b hab hb he => ?_, fun h hh j hj => hP.fac h (fun a b hm => ?_) j hj⟩, e⟩
    · have hm := hsp.all a b hab (by omega) he
      obtain ⟨q, hq, eq⟩ := List.getElem_of_mem hm
      exact hP.eq q a b hq (by rw [List.getD_eq_getElem?_getD, List.getElem?_eq_getElem hq, eq]; rfl)
    · obtain ⟨a', b', e', hab', hb', he'⟩ := hsp.good _ hm
      injection e' with e1 e2
      obtain rfl : a = a' := by omega
      obtain rfl : b = b' := by omega
      exact hh a b hab' (by omega) he'
end NearP
end Go.Proofs.Ytcgflahchpeakaa.Pure
