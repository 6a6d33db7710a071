/- wrackkeep3.PieceLess: no order weighs more than the best one, and one that weighs as much does not come before it. For every input. -/
import Derived.Test.YtehkplafehlkgaaPPieceLessx7
import Derived.Test.YtehkplafehlkgaaPureTablePieceLess
import Derived.Test.YtehkplafehlkgaaPureOrderedPieceLess
namespace Go.Proofs.Ytehkplafehlkgaa.Pure
set_option linter.unusedSimpArgs false
set_option linter.unusedVariables false
open Go.RowKit Go.Proofs.Ytehkplafehlkgaa.PPieceLess Go.Proofs.YtehkplafehlkgaaW.PrintWords Go.Proofs.YtehkplafehlkgaaW.PrintLast Go.Proofs.YtehkplafehlkgaaW.PrintMore Go.Proofs.YtehkplafehlkgaaW.Plib Go.Proofs.Ytehkplafehlkgaa.Pure.BestPieceLess
namespace LessP

theorem cs_get (p : List Nat) (i : Nat) (h : i < p.length) : (cs p).getD i 0 = ((p.getD i 0 : Nat) : Int) := by
  rw [List.getD_eq_getElem?_getD, List.getD_eq_getElem?_getD, cs, List.getElem?_map, List.getElem?_eq_getElem h]
  rfl
theorem cs_app (p q : List Nat) : cs (p ++ q) = cs p ++ cs q := List.map_append
theorem all_len : ∀ (n : Nat) (p : List Nat), (∀ k, k < n → k ∈ p) → n ≤ p.length := by
  intro n
  induction n with
  | zero => intro p _; exact Nat.zero_le _
  | succ n ih =>
    intro p h
    have h1 := h n (by omega)
    have h2 := ih (p.erase n) (fun k hk => (List.mem_erase_of_ne (by omega)).2 (h k (by omega)))
    have h3 := List.length_erase_of_mem h1
    have h4 := List.length_pos_of_mem h1
    omega
theorem comp0 {n : Nat} {p : List Nat} : Comp n 0 p ↔ p.Nodup ∧ ∀ k, k ∈ p ↔ k < n := by
  unfold Comp
  simp only [Nat.zero_testBit, and_true]
theorem comp_len {n : Nat} {p : List Nat} (h : Comp n 0 p) : p.length = n := by
  have h1 := h.len
  have h2 := all_len n p (fun k hk => ((comp0.1 h).2 k).2 hk)
  omega
theorem comp_perm {n : Nat} {p q : List Nat} (hp : q.Perm p) (h : Comp n 0 p) : Comp n 0 q := by
  have h1 := comp0.1 h
  exact comp0.2 ⟨hp.nodup_iff.2 h1.1, fun k => hp.mem_iff.trans (h1.2 k)⟩

/-! ## Contains -/
theorem index_l0 {xs : List Int} {a : Int} (hn : xs.length < 4096) (ha : ∀ j, j < xs.length → xs.getD j 0 ≠ a) (d : Nat) : ∀ q : Nat, q + d = xs.length → Gets (fun k => slices_Index_int_int.l0 k xs a (xs.length : Int) (q : Int)) (· = -1) := by
  induction d with
  | zero =>
    intro q hq
    refine Gets.up ?_
    simp only [slices_Index_int_int.l0, if_neg (show ¬ (q : Int) < (xs.length : Int) by omega)]
    exact Gets.ret rfl
  | succ d ih =>
    intro q hq
    have h := ha q (by omega)
    refine Gets.up ?_
    simp only [slices_Index_int_int.l0, if_pos (show (q : Int) < (xs.length : Int) by omega), if_pos (show (0 : Int) ≤ (q : Int) by omega), at_one, if_neg (show ¬ a = xs.getD q 0 from fun e => h e.symm), w1 q xs.length (by omega) (by omega)]
    exact ih (q + 1) (by omega)
theorem contains_f {xs : List Int} {a : Int} (hn : xs.length < 4096) (ha : ∀ j, j < xs.length → xs.getD j 0 ≠ a) : Gets (fun k => slices_Contains_int_int.f k xs a) (· = false) := by
  simp only [slices_Contains_int_int.f, slices_Index_int_int.f]
  refine (index_l0 hn ha xs.length 0 (by omega)).bind fun r hr => ?_
  subst hr
  exact Gets.ret (by decide)

/-! ## Weight -/
section
variable {n : Nat} {F L : List Int} {N : List (List Int)} {p : List Nat}
/-- The sum ahead of step j. -/
def part (F L : List Int) (N : List (List Int)) (p : List Nat) (n j : Nat) : Int := tot F L N p - wt L N (p.getD (j - 1) 0) (p.drop j) + L.getD (p.getD (n - 1) 0) 0
theorem p_lt (h : Comp n 0 p) {j : Nat} (hj : j < n) : p.getD j 0 < n := by
  have hl := comp_len h
  rw [List.getD_eq_getElem?_getD, List.getElem?_eq_getElem (by omega : j < p.length)]
  exact ((comp0.1 h).2 _).1 (List.getElem_mem _)
theorem part_bound (T : TabOk n F L N) (h : Comp n 0 p) {j : Nat} (h1 : 1 ≤ j) (hj : j ≤ n) : -30000000 ≤ part F L N p n j ∧ part F L N p n j ≤ 30000000 := by
  have hn := T.n12
  have b1 := tot_bound T h
  have b2 := wt_bound T (p.drop j) (p.getD (j - 1) 0) (p_lt h (by omega)) (fun k hk => ((comp0.1 h).2 k).1 (List.mem_of_mem_drop hk))
  have b3 := T.wl _ (p_lt h (show n - 1 < n by omega))
  have b4 : (p.drop j).length ≤ 12 := by rw [List.length_drop, comp_len h]; omega
  unfold part
  omega
theorem part_step (h : Comp n 0 p) {j : Nat} (h1 : 1 ≤ j) (hj : j < n) : part F L N p n j + (N.getD (p.getD (j - 1) 0) []).getD (p.getD j 0) 0 = part F L N p n (j + 1) := by
  have hl := comp_len h
  unfold part
  rw [List.drop_eq_getElem_cons (show j < p.length by omega), wt, Nat.add_sub_cancel]
  have e : p.getD j 0 = p[j]'(by omega) := by rw [List.getD_eq_getElem?_getD, List.getElem?_eq_getElem (by omega : j < p.length)]; rfl
  rw [e]
  omega
theorem part_last (h : Comp n 0 p) (hn : 0 < n) : part F L N p n n = tot F L N p := by
  have hl := comp_len h
  unfold part
  rw [List.drop_eq_nil_of_le (by omega), wt]
  omega
theorem part_first (h : Comp n 0 p) (hn : 0 < n) : F.getD (p.getD 0 0) 0 + L.getD (p.getD (n - 1) 0) 0 = part F L N p n 1 := by
  have hl := comp_len h
  unfold part
  match p, hl with
  | [], hl => simp at hl; omega
  | a :: t, _ =>
    simp only [tot, List.drop_one, List.tail_cons, Nat.sub_self, List.getD_cons_zero]
    omega
theorem weight_l1 (T : TabOk n F L N) (h : Comp n 0 p) (d : Nat) : ∀ j : Nat, j + d = n → 1 ≤ j → Gets (fun k => piece_Weight.l1 k (cs p) (n : Int) (part F L N p n j) (j : Int) F L N) (· = (tot F L N p, 0)) := by
  have hl := comp_len h
  have hcl : (cs p).length = n := by rw [cs_len, hl]
  induction d with
  | zero =>
    intro j hj h1
    obtain rfl : j = n := by omega
    refine Gets.up ?_
    simp only [piece_Weight.l1, if_neg (show ¬ (j : Int) < (j : Int) by omega)]
    exact Gets.ret (by rw [part_last h (by omega)])
  | succ d ih =>
    intro j hj h1
    have hn := T.n12
    have a1 := p_lt h (show j - 1 < n by omega)
    have a2 := p_lt h (show j < n by omega)
    have e1 := cs_get p (j - 1) (by omega)
    have e2 := cs_get p j (by omega)
    have rw1 := T.row _ a1
    have b := part_bound T h (show 1 ≤ j + 1 by omega) (show j + 1 ≤ n by omega) (F := F) (L := L) (N := N)
    have st := part_step (F := F) (L := L) (N := N) h h1 (show j < n by omega)
    have key := ih (j + 1) (by omega) (by omega)
    have q1 : (j : Int) < (n : Int) := by omega
    have q2 : (0 : Int) ≤ ((j - 1 : Nat) : Int) := by omega
    have q3 : ((j - 1 : Nat) : Int) < (n : Int) := by omega
    have q4 : (0 : Int) ≤ (j : Int) := by omega
    generalize hA : p.getD (j - 1) 0 = A at *
    generalize hB : p.getD j 0 = B at *
    have q5 : (0 : Int) ≤ (A : Int) := by omega
    have q6 : (A : Int) < (n : Int) := by omega
    have q7 : (0 : Int) ≤ (B : Int) := by omega
    have q8 : (B : Int) < (n : Int) := by omega
    have w0 := w1 j n (by omega) (by omega)
    have w2 : wrap64 ((j : Int) - 1) = ((j - 1 : Nat) : Int) := by clear w0; rw [w64] <;> omega
    have w3 : wrap64 (part F L N p n (j + 1)) = part F L N p n (j + 1) := w64 (by clear w0 w2; omega) (by clear w0 w2; omega)
    refine Gets.up ?_
    simp only [piece_Weight.l1]
    rw [w2, w0, hcl, at_one, at_one, e1, e2, T.m, at_row, rw1, at_one, st, w3]
    simp -implicitDefEqProofs only [if_pos q1, if_pos q2, if_pos q3, if_pos q4, if_pos q5, if_pos q6, if_pos q7, if_pos q8]
    exact key
theorem weight_l0 (T : TabOk n F L N) (h : Comp n 0 p) (d : Nat) : ∀ i : Nat, i + d = n → Gets (fun k => piece_Weight.l0 k (cs p) (n : Int) (cs p) (n : Int) (i : Int) F L N) (· = (tot F L N p, 0)) := by
  have hl := comp_len h
  have hcl : (cs p).length = n := by rw [cs_len, hl]
  have hn := T.n12
  induction d with
  | zero =>
    intro i hi
    obtain rfl : i = n := by omega
    refine Gets.up ?_
    simp only [piece_Weight.l0]
    have q0 : ¬ (i : Int) < (i : Int) := by omega
    by_cases c : i = 0
    · subst c
      simp -implicitDefEqProofs only [if_neg q0]
      simp -implicitDefEqProofs only [if_pos (show ((0 : Nat) : Int) = 0 from rfl)]
      have hp : p = [] := List.eq_nil_of_length_eq_zero hl
      subst hp
      exact Gets.ret rfl
    · have a1 := p_lt h (show 0 < i by omega)
      have a2 := p_lt h (show i - 1 < i by omega)
      have e1 := cs_get p 0 (by omega)
      have e2 := cs_get p (i - 1) (by omega)
      have b := part_bound T h (show 1 ≤ 1 by omega) (show 1 ≤ i by omega) (F := F) (L := L) (N := N)
      have st := part_first (F := F) (L := L) (N := N) h (show 0 < i by omega)
      have key := weight_l1 T h (i - 1) 1 (by omega) (by omega)
      have q1 : ¬ (i : Int) = 0 := by omega
      have q2 : (0 : Int) < (i : Int) := by omega
      have q3 : (0 : Int) ≤ ((i - 1 : Nat) : Int) := by omega
      have q4 : ((i - 1 : Nat) : Int) < (i : Int) := by omega
      generalize hA : p.getD 0 0 = A at *
      generalize hB : p.getD (i - 1) 0 = B at *
      have q5 : (0 : Int) ≤ (A : Int) := by omega
      have q6 : (A : Int) < (i : Int) := by omega
      have q7 : (0 : Int) ≤ (B : Int) := by omega
      have q8 : (B : Int) < (i : Int) := by omega
      have w2 : wrap64 ((i : Int) - 1) = ((i - 1 : Nat) : Int) := by rw [w64] <;> omega
      have w3 : wrap64 (part F L N p i 1) = part F L N p i 1 := w64 (by clear w2; omega) (by clear w2; omega)
      have r0 : rd (cs p) 0 = (A : Int) := (at_one (cs p) 0).trans e1
      simp -implicitDefEqProofs only [if_neg q0]
      rw [w2, hcl, r0, at_one, e2, T.f, T.l, at_one, at_one, st, w3]
      simp -implicitDefEqProofs only [if_neg q1, if_pos q2, if_pos q3, if_pos q4, if_pos q5, if_pos q6, if_pos q7, if_pos q8]
      exact key
  | succ d ih =>
    intro i hi
    have a1 := p_lt h (show i < n by omega)
    have e1 := cs_get p i (by omega)
    have hc : Gets (fun k => slices_Contains_int_int.f k ((cs p).take i) ((p.getD i 0 : Nat) : Int)) (· = false) := by
      refine contains_f (by rw [List.length_take, hcl]; omega) fun j hj => ?_
      rw [List.length_take, hcl] at hj
      have e : ((cs p).take i).getD j 0 = ((p.getD j 0 : Nat) : Int) := by
        rw [List.getD_eq_getElem?_getD, List.getElem?_take, if_pos (by omega), ← List.getD_eq_getElem?_getD]
        exact cs_get p j (by omega)
      rw [e]
      intro e2
      have e3 : p[j]'(by omega) = p[i]'(by omega) := by
        have e4 : p.getD j 0 = p.getD i 0 := by omega
        rw [List.getD_eq_getElem?_getD, List.getD_eq_getElem?_getD, List.getElem?_eq_getElem (by omega : j < p.length), List.getElem?_eq_getElem (by omega : i < p.length)] at e4
        exact e4
      have := (List.getElem_inj (comp0.1 h).1).1 e3
      omega
    have key := ih (i + 1) (by omega)
    generalize hA : p.getD i 0 = A at *
    have q1 : (i : Int) < (n : Int) := by omega
    have q2 : (0 : Int) ≤ (i : Int) := by omega
    have q3 : ¬ (A : Int) < 0 := by omega
    have q4 : decide ((A : Int) ≥ (n : Int)) = false := decide_eq_false (by omega)
    have q5 : (i : Int) ≤ (n : Int) := by omega
    have w0 := w1 i n (by omega) (by omega)
    refine Gets.up ?_
    simp only [piece_Weight.l0]
    rw [hcl, at_one, e1, q4]
    simp -implicitDefEqProofs only [if_pos q1, if_pos q2, if_neg q3]
    refine Gets.up ?_
    simp only [piece_Weight.j1, if_neg (show ¬ (false = true) by decide)]
    rw [hcl, w0, Int.toNat_natCast]
    simp -implicitDefEqProofs only [if_pos q2, if_pos q5]
    refine hc.bind fun r hr => ?_
    subst hr
    simp only [if_neg (show ¬ (false = true) by decide)]
    exact key
theorem weight_f (T : TabOk n F L N) (h : Comp n 0 p) : Gets (fun k => piece_Weight.f k F L N (cs p)) (· = (tot F L N p, 0)) := by
  have hcl : (cs p).length = n := by rw [cs_len, comp_len h]
  simp only [piece_Weight.f]
  refine (check_f T).bind fun r hr => ?_
  subst hr
  rw [hcl, T.f]
  simp -implicitDefEqProofs only [if_pos (rfl : (0 : Int) = 0), if_pos (rfl : (n : Int) = (n : Int))]
  exact weight_l0 T h n 0 (by omega)
end

/-! ## Compare -/
theorem compare_l0 {xs ys : List Int} {m : Nat} (hn : xs.length < 4096) (hx : m ≤ xs.length) (hy : m ≤ ys.length) (he : ∀ i, i < m → xs.getD i 0 = ys.getD i 0) {P : Int → Prop}
    (K : Gets (fun k => slices_Compare_int_int.l0 k xs ys xs (xs.length : Int) (m : Int)) P) (d : Nat) : ∀ i : Nat, i + d = m → Gets (fun k => slices_Compare_int_int.l0 k xs ys xs (xs.length : Int) (i : Int)) P := by
  induction d with
  | zero =>
    intro i hi
    obtain rfl : i = m := by omega
    exact K
  | succ d ih =>
    intro i hi
    have h := he i (by omega)
    have q1 : (i : Int) < (xs.length : Int) := by omega
    have q2 : (0 : Int) ≤ (i : Int) := by omega
    have q3 : ¬ (i : Int) ≥ (ys.length : Int) := by omega
    have q4 : (i : Int) < (ys.length : Int) := by omega
    have hc : cmp_Compare_int.f (ys.getD i 0) (ys.getD i 0) = some 0 := by simp [cmp_Compare_int.f, cmp_isNaN_int.f]
    refine Gets.up ?_
    simp only [slices_Compare_int_int.l0]
    rw [at_one, at_one, h, hc, w1 i xs.length (by omega) (by omega)]
    simp -implicitDefEqProofs only [if_pos q1, if_pos q2, if_neg q3, if_pos q4, Option.bind_some, if_true]
    exact ih (i + 1) (by omega)
theorem compare_f {p c : List Nat} (hc : c.length < 4096) (hl : c.length = p.length) (h : c = p ∨ LexLt p c) : Gets (fun k => slices_Compare_int_int.f k (cs c) (cs p)) (fun t => t ≥ 0) := by
  have l1 : (cs c).length = c.length := cs_len c
  have l2 : (cs p).length = p.length := cs_len p
  unfold slices_Compare_int_int.f
  rcases h with rfl | ⟨r, a, b, x, y, rfl, rfl, hab⟩
  · refine compare_l0 (by omega) (Nat.le_refl _) (Nat.le_refl _) (fun i _ => rfl) ?_ (cs c).length 0 (by omega)
    refine Gets.up ?_
    simp only [slices_Compare_int_int.l0, if_neg (show ¬ ((cs c).length : Int) < ((cs c).length : Int) by omega)]
    exact Gets.ret (by decide)
  · have hg : ∀ (z : Nat) (t : List Nat) (i : Nat), i < r.length → (cs (r ++ z :: t)).getD i 0 = (cs r).getD i 0 := by
      intro z t i hi
      rw [cs_app, List.getD_eq_getElem?_getD, List.getElem?_append_left (by rw [cs_len]; exact hi), ← List.getD_eq_getElem?_getD]
    have hm : ∀ (z : Nat) (t : List Nat), (cs (r ++ z :: t)).getD r.length 0 = (z : Int) := by
      intro z t
      rw [cs_app, List.getD_eq_getElem?_getD, List.getElem?_append_right (by rw [cs_len]; exact Nat.le_refl _), cs_len, Nat.sub_self]
      rfl
    have h1 : r.length < (cs (r ++ b :: y)).length := by rw [cs_len, List.length_append, List.length_cons]; omega
    have h2 : r.length < (cs (r ++ a :: x)).length := by rw [cs_len, List.length_append, List.length_cons]; omega
    have e1 := hm b y
    have e2 := hm a x
    refine compare_l0 (m := r.length) (by omega) (by omega) (by omega) (fun i hi => by rw [hg b y i hi, hg a x i hi]) ?_ r.length 0 (by omega)
    generalize cs (r ++ b :: y) = X at *
    generalize cs (r ++ a :: x) = Y at *
    have q1 : (r.length : Int) < (X.length : Int) := by omega
    have q2 : (0 : Int) ≤ (r.length : Int) := by omega
    have q3 : ¬ (r.length : Int) ≥ (Y.length : Int) := by omega
    have q4 : (r.length : Int) < (Y.length : Int) := by omega
    have hcm : cmp_Compare_int.f (b : Int) (a : Int) = some 1 := by
      have u1 : ¬ (b : Int) < (a : Int) := by omega
      have u2 : (b : Int) > (a : Int) := by omega
      simp [cmp_Compare_int.f, cmp_isNaN_int.f, u1, u2]
    refine Gets.up ?_
    simp only [slices_Compare_int_int.l0]
    rw [at_one, at_one, e1, e2, hcm]
    simp -implicitDefEqProofs only [if_pos q1, if_pos q2, if_neg q3, if_pos q4, Option.bind_some, if_neg (show ¬ (1 : Int) = 0 by decide)]
    exact Gets.ret (by decide)

/-! ## The law -/
section
variable {n : Nat} {F L : List Int} {N : List (List Int)} {p : List Nat} {S : Int}
theorem final (T : TabOk n F L N) (hp : Comp n 0 p) (hS : tot F L N p = S) (hmax : ∀ c, Comp n 0 c → tot F L N c ≤ S) (hlex : ∀ c, Comp n 0 c → tot F L N c = S → c = p ∨ LexLt p c) (d : Nat) :
    ∀ (lf od : List Nat) (s : List Int), lf.length = d → Comp n 0 (od ++ lf) → Gets (fun k => wrackkeep3_PieceLess.l1 k (cs p) S 0 (cs lf) (cs od) F L N s) (· = true) := by
  have hn := T.n12
  induction d with
  | zero =>
    intro lf od s hl h
    obtain rfl := List.eq_nil_of_length_eq_zero hl
    rw [List.append_nil] at h
    have hm := hmax od h
    have hx := hlex od h
    have hlen := comp_len h
    have hlen2 := comp_len hp
    refine Gets.up ?_
    simp only [wrackkeep3_PieceLess.l1, if_neg (show ¬ (((cs []).length : Nat) : Int) > 0 from by decide)]
    refine (weight_f T h).bind fun r hr => ?_
    subst hr
    refine (weight_f T hp).bind fun r hr => ?_
    subst hr
    refine ordered_f.bind fun r hr => ?_
    subst hr
    simp only [if_true, hS]
    by_cases c : tot F L N od < S
    · simp only [if_pos c]
      exact Gets.ret rfl
    · have e : tot F L N od = S := by omega
      simp only [e, if_neg (show ¬ S < S by omega), if_true]
      refine (compare_f (by omega) (by omega) (hx e)).bind fun t ht => ?_
      exact Gets.ret (decide_eq_true ht)
  | succ d ih =>
    intro lf od s hl h
    have hlen := comp_len h
    rw [List.length_append] at hlen
    obtain ⟨v, s2, hv, hv0, hv1⟩ := next_f s (n := (lf.length : Int)) (by omega) (by omega)
    obtain ⟨j, rfl⟩ : ∃ j : Nat, v = (j : Int) := ⟨v.toNat, by omega⟩
    have hj : j < lf.length := by omega
    have hcl : (cs lf).length = lf.length := cs_len lf
    have hod : (cs od).length < 17592186044416 := by rw [cs_len]; omega
    have e1 := cs_get lf j hj
    have eg : lf.getD j 0 = lf[j] := by rw [List.getD_eq_getElem?_getD, List.getElem?_eq_getElem hj]; rfl
    have hsplit : lf = lf.take j ++ lf[j] :: lf.drop (j + 1) := by rw [← List.drop_eq_getElem_cons hj, List.take_append_drop]
    have hperm : ((od ++ [lf[j]]) ++ (lf.take j ++ lf.drop (j + 1))).Perm (od ++ lf) := by
      rw [List.append_assoc]
      refine List.Perm.append_left _ ?_
      conv => rhs; rw [hsplit]
      rw [List.singleton_append]
      exact List.perm_middle.symm
    have hl2 : (lf.take j ++ lf.drop (j + 1)).length = d := by rw [List.length_append, List.length_take, List.length_drop]; omega
    have key := ih _ _ s2 hl2 (comp_perm hperm h)
    have ed : (cs lf).take j ++ (cs lf).drop (j + 1) = cs (lf.take j ++ lf.drop (j + 1)) := by rw [cs_app]; simp [cs, List.map_take, List.map_drop]
    have eo : cs od ++ [((lf[j] : Nat) : Int)] = cs (od ++ [lf[j]]) := by rw [cs_app]; rfl
    have q1 : ((lf.length : Nat) : Int) > 0 := by omega
    have q2 : (0 : Int) ≤ (j : Int) := by omega
    have q3 : (j : Int) < (lf.length : Int) := by omega
    have q4 : (j : Int) ≤ ((j + 1 : Nat) : Int) := by omega
    have q5 : ((j + 1 : Nat) : Int) ≤ (lf.length : Int) := by omega
    have w0 := w1 j lf.length hj (by omega)
    have hdel : slices_Delete_int_int.f (cs lf) (j : Int) ((j + 1 : Nat) : Int) = some (cs (lf.take j ++ lf.drop (j + 1))) := by
      unfold slices_Delete_int_int.f
      rw [if_pos q2, if_pos q4, hcl, if_pos q5, Int.toNat_natCast, Int.toNat_natCast, ed]
    refine Gets.up ?_
    simp only [wrackkeep3_PieceLess.l1]
    rw [hcl, hv]
    simp -implicitDefEqProofs only [if_pos q1, Option.bind_some, if_pos q2, if_pos q3, if_pos hod]
    rw [w0, hdel, at_one, e1, eg, eo]
    simp -implicitDefEqProofs only [Option.bind_some]
    exact key
theorem start (T : TabOk n F L N) (hp : Comp n 0 p) (hS : tot F L N p = S) (hmax : ∀ c, Comp n 0 c → tot F L N c ≤ S) (hlex : ∀ c, Comp n 0 c → tot F L N c = S → c = p ∨ LexLt p c) (s : List Int) (d : Nat) :
    ∀ q : Nat, q + d = n → Gets (fun k => wrackkeep3_PieceLess.l0 k (cs p) S 0 (cs (List.range q)) (n : Int) (q : Int) F L N s) (· = true) := by
  have hn := T.n12
  induction d with
  | zero =>
    intro q hq
    obtain rfl : q = n := by omega
    refine Gets.up ?_
    simp only [wrackkeep3_PieceLess.l0, if_neg (show ¬ (q : Int) < (q : Int) by omega)]
    refine final T hp hS hmax hlex q (List.range q) [] s List.length_range (comp0.2 ⟨by rw [List.nil_append]; exact List.nodup_range, fun k => by rw [List.nil_append, List.mem_range]⟩)
  | succ d ih =>
    intro q hq
    have e : cs (List.range q) ++ [(q : Int)] = cs (List.range (q + 1)) := by rw [List.range_succ, cs_app]; rfl
    have hlen : (cs (List.range q)).length < 17592186044416 := by rw [cs_len, List.length_range]; omega
    refine Gets.up ?_
    simp only [wrackkeep3_PieceLess.l0, if_pos (show (q : Int) < (n : Int) by omega), if_pos hlen, e, w1 q n (by omega) (by omega)]
    exact ih (q + 1) (by omega)
end
theorem law_f (l0 l1 : List Int) : Gets (fun k => wrackkeep3_PieceLess.f k l0 l1) (· = true) := by
  simp only [wrackkeep3_PieceLess.f]
  refine (table_f l0).bind fun t ht => ?_
  obtain ⟨F, L, N⟩ := t
  obtain ⟨n, hn9, T⟩ := ht
  simp only at T
  refine (best_f T).bind fun r hr => ?_
  obtain ⟨B, S, e⟩ := r
  obtain ⟨p, h1, h2, h3, h4, h5, h6⟩ := hr
  simp only at h1 h2 h4 h5 h6
  subst h1 h2
  simp only [T.f]
  exact start T h3 h4 h5 h6 l1 n 0 (by omega)
end LessP
theorem PieceLess : wrackkeep3_PieceLess.Pure := by
  intro l0 l1 _ _ _ _ _ _
  obtain ⟨k, r, h1, h2⟩ := (LessP.law_f l0 l1).get
  refine ⟨k, ?_⟩
  rw [← h2]
  exact h1
end Go.Proofs.Ytehkplafehlkgaa.Pure
