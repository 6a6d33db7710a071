/- wrackkeep3.StatOwn: a sample has the distance 0 from its own profile, and is nearest to it. For every input. -/
import Derived.Test.YtehkplafehlkgaaPStatOwnx4
import Derived.Test.YtehkplafehlkgaaPlibBits
namespace Go.Proofs.Ytehkplafehlkgaa.Pure
set_option linter.unusedVariables false
set_option linter.unusedSimpArgs false
open Go.RowKit Go.Proofs.Ytehkplafehlkgaa.PStatOwn Go.Proofs.YtehkplafehlkgaaW.PrintWords Go.Proofs.YtehkplafehlkgaaW.PrintLast Go.Proofs.YtehkplafehlkgaaW.PrintMore Go.Proofs.YtehkplafehlkgaaW.PrintMine Go.Proofs.YtehkplafehlkgaaW.Plib
namespace StatP
theorem at_one (X : List Int) (i : Nat) : rd X (i : Int) = X.getD i 0 := by simp only [rd, Int.toNat_natCast]
theorem w1 (q n : Nat) (h : q < n) (hn : n ≤ 4096) : wrap64 ((q : Int) + 1) = ((q + 1 : Nat) : Int) := by rw [w64] <;> omega
theorem rd_at (X : List Int) (i : Nat) (h : i < X.length) : rd X (i : Int) = X[i] := by rw [at_one, List.getD_eq_getElem?_getD, List.getElem?_eq_getElem h]; rfl

/-! ## Sums -/
def Pos (X : List Int) : Prop := ∀ x ∈ X, 0 ≤ x
theorem sum_app (X Y : List Int) : (X ++ Y).sum = X.sum + Y.sum := by simp
theorem sum_pos : ∀ X : List Int, Pos X → 0 ≤ X.sum
  | [], _ => by simp
  | x :: t, h => by
    have h1 := sum_pos t (fun y hy => h y (List.mem_cons_of_mem _ hy))
    have h2 := h x List.mem_cons_self
    rw [List.sum_cons]; omega
theorem sum_take_succ (X : List Int) (i : Nat) (h : i < X.length) : (X.take (i + 1)).sum = (X.take i).sum + X[i] := by
  rw [List.take_succ_eq_append_getElem h, sum_app]; simp
theorem sum_take_le (X : List Int) (hX : Pos X) (i : Nat) : (X.take i).sum ≤ X.sum := by
  have h := sum_app (X.take i) (X.drop i)
  rw [List.take_append_drop] at h
  have := sum_pos (X.drop i) (fun y hy => hX y (List.mem_of_mem_drop hy))
  omega
theorem sum_take_pos (X : List Int) (hX : Pos X) (i : Nat) : 0 ≤ (X.take i).sum := sum_pos _ (fun y hy => hX y (List.mem_of_mem_take hy))
theorem sum_set : ∀ (X : List Int) (i : Nat) (v : Int) (h : i < X.length), (X.set i v).sum = X.sum - X[i] + v
  | [], i, v, h => absurd h (by simp)
  | x :: t, 0, v, h => by simp only [List.set_cons_zero, List.sum_cons, List.getElem_cons_zero]; omega
  | x :: t, i + 1, v, h => by
    have := sum_set t i v (by simpa using h)
    simp only [List.set_cons_succ, List.sum_cons, List.getElem_cons_succ]
    omega
theorem elem_le (X : List Int) (hX : Pos X) (i : Nat) (h : i < X.length) : 0 ≤ X[i] ∧ (X.take i).sum + X[i] ≤ X.sum := by
  refine ⟨hX _ (List.getElem_mem _), ?_⟩
  rw [← sum_take_succ X i h]
  exact sum_take_le X hX _

/-! ## Counts -/
def Byt (l : List Int) : Prop := ∀ x ∈ l, 0 ≤ x ∧ x < 256
def cn (l : List Int) : List Int := (List.range 256).map fun (c : Nat) => ((l.count (c : Int) : Nat) : Int)
theorem cn_len (l : List Int) : (cn l).length = 256 := by simp [cn]
theorem cn_at (l : List Int) (c : Nat) (h : c < (cn l).length) : (cn l)[c] = ((l.count (c : Int) : Nat) : Int) := by simp [cn]
theorem cn_pos (l : List Int) : Pos (cn l) := by
  intro x hx
  obtain ⟨c, _, rfl⟩ := List.mem_map.1 hx
  exact Int.natCast_nonneg _
theorem cn_nil : cn [] = List.replicate 256 0 := by
  apply List.ext_getElem (by rw [cn_len, List.length_replicate])
  intro i h1 h2
  rw [cn_at, List.getElem_replicate, List.count_nil]; rfl
theorem cn_snoc (l : List Int) (x : Nat) (hx : x < 256) : cn (l ++ [(x : Int)]) = (cn l).set x ((cn l)[x]'(by rw [cn_len]; exact hx) + 1) := by
  have hx2 : x < (cn l).length := by rw [cn_len]; exact hx
  obtain ⟨v, hv⟩ : ∃ v, v = (cn l)[x] := ⟨_, rfl⟩
  rw [← hv]
  rw [cn_at] at hv
  apply List.ext_getElem (by rw [List.length_set, cn_len, cn_len])
  intro i h1 h2
  rw [cn_at, List.getElem_set, List.count_append, List.count_singleton]
  by_cases c : x = i
  · subst c; rw [if_pos rfl, hv]; simp
  · have c2 : ¬ ((x : Int) = (i : Int)) := by omega
    rw [if_neg c, cn_at]; simp [c2]
theorem cn_sum (l : List Int) (hl : Byt l) (d : Nat) : ∀ i, i + d = l.length → (cn (l.take i)).sum = (i : Int) → (cn l).sum = (l.length : Int) := by
  induction d with
  | zero =>
    intro i hi e
    rw [List.take_of_length_le (by omega)] at e
    rw [e]; omega
  | succ d ih =>
    intro i hi e
    have h : i < l.length := by omega
    refine ih (i + 1) (by omega) ?_
    have hx := hl l[i] (List.getElem_mem _)
    obtain ⟨x, hxe⟩ : ∃ x : Nat, l[i] = (x : Int) := ⟨l[i].toNat, by omega⟩
    rw [List.take_succ_eq_append_getElem h, hxe, cn_snoc _ x (by omega), sum_set _ _ _ (by rw [cn_len]; omega), e]
    omega
theorem sum_zeros : ∀ n : Nat, (List.replicate n (0 : Int)).sum = 0
  | 0 => by simp
  | n + 1 => by rw [List.replicate_succ, List.sum_cons, sum_zeros n]; rfl
theorem cn_total (l : List Int) (hl : Byt l) : (cn l).sum = (l.length : Int) := cn_sum l hl l.length 0 (by omega) (by rw [List.take_zero, cn_nil, sum_zeros]; rfl)
theorem cn_app (a b : List Int) (i : Nat) (h : i < 256) : (cn (a ++ b))[i]'(by rw [cn_len]; exact h) = (cn a)[i]'(by rw [cn_len]; exact h) + (cn b)[i]'(by rw [cn_len]; exact h) := by
  rw [cn_at, cn_at, cn_at, List.count_append]; omega
theorem cn_comm (a b : List Int) : cn (a ++ b) = cn (b ++ a) := by
  apply List.ext_getElem (by rw [cn_len, cn_len])
  intro i h1 h2
  rw [cn_at, cn_at, List.count_append, List.count_append, Nat.add_comm]
theorem cn_le (l : List Int) (c : Nat) (h : c < (cn l).length) : (cn l)[c] ≤ (l.length : Int) := by
  rw [cn_at]
  have := List.count_le_length (a := (c : Int)) (l := l)
  omega
theorem counts_l0 (l : List Int) (hl : l.length ≤ 4000) (hb : Byt l) (d : Nat) : ∀ i : Nat, i + d = l.length → Gets (fun k => stat_Counts.l0 k (cn (l.take i)) l (l.length : Int) (i : Int)) (· = cn l) := by
  induction d with
  | zero =>
    intro i hi
    refine Gets.up ?_
    simp only [stat_Counts.l0, if_neg (show ¬ (i : Int) < (l.length : Int) by omega)]
    refine Gets.ret ?_
    rw [List.take_of_length_le (by omega)]
  | succ d ih =>
    intro i hi
    have hi2 : i < l.length := by omega
    have hx := hb l[i] (List.getElem_mem _)
    obtain ⟨x, hxe⟩ : ∃ x : Nat, l[i] = (x : Int) := ⟨l[i].toNat, by omega⟩
    have q1 : (i : Int) < (l.length : Int) := by omega
    have q2 : (0 : Int) ≤ (i : Int) := by omega
    have e1 : rd l (i : Int) = (x : Int) := by rw [rd_at l i hi2, hxe]
    rw [hxe] at hx
    have hx2 : x < 256 := by omega
    have q3 : (0 : Int) ≤ (x : Int) := by omega
    have q4 : (x : Int) < ((cn (l.take i)).length : Int) := by rw [cn_len]; omega
    have hx3 : x < (cn (l.take i)).length := by rw [cn_len]; omega
    have h5 := cn_le (l.take i) x hx3
    have h6 := cn_pos (l.take i) _ (List.getElem_mem hx3)
    have h7 : (l.take i).length ≤ 4000 := by rw [List.length_take]; omega
    have e2 : wrap64 (rd (cn (l.take i)) (x : Int) + 1) = (cn (l.take i))[x] + 1 := by rw [rd_at _ x hx3, w64 (by omega) (by omega)]
    have hw := w1 i l.length hi2 (by omega)
    have e3 : cn (l.take (i + 1)) = (cn (l.take i)).set x ((cn (l.take i))[x] + 1) := by rw [List.take_succ_eq_append_getElem hi2, hxe, cn_snoc _ x hx2]
    have key := ih (i + 1) (by clear e2 hw; omega)
    rw [e3] at key
    refine Gets.up ?_
    simp only [stat_Counts.l0, hw, e1, e2, Int.toNat_natCast]
    simp -implicitDefEqProofs only [if_pos q1, if_pos q2, if_pos q3, if_pos q4]
    exact key
theorem counts_f (l : List Int) (hl : l.length ≤ 4000) (hb : Byt l) : Gets (fun k => stat_Counts.f k l) (· = cn l) := by
  simp only [stat_Counts.f, if_pos (show 256 ≤ 35184372088832 by omega)]
  rw [← cn_nil]
  exact counts_l0 l hl hb l.length 0 (by omega)

/-! ## Learn -/
theorem mix_set (X Y : List Int) (h : X.length = Y.length) (i : Nat) (hi : i < Y.length) : (Y.take i ++ X.drop i).set i Y[i] = Y.take (i + 1) ++ X.drop (i + 1) := by
  rw [List.set_append_right _ _ (by rw [List.length_take]; omega), List.length_take, Nat.min_eq_left (by omega), Nat.sub_self, List.drop_eq_getElem_cons (show i < X.length by omega), List.set_cons_zero,
    List.take_succ_eq_append_getElem hi, List.append_assoc, List.singleton_append]
theorem mix_at (X Y : List Int) (h : X.length = Y.length) (i : Nat) (hi : i < Y.length) : rd (Y.take i ++ X.drop i) (i : Int) = X[i] := by
  rw [rd_at _ i (by simp; omega), List.getElem_append_right (by rw [List.length_take]; omega)]
  simp [List.length_take, Nat.min_eq_left (Nat.le_of_lt hi)]
theorem learn_l1 (n : Int) (ls : List (List Int)) (L j : Int) (p b : List Int) (nm : ByteArray) (hlen : (p ++ b).length ≤ 4000) {P : ByteArray × List Int × Int → Prop}
    (K : Gets (fun k => stat_Learn.l0 k n ls L (wrap64 (j + 1)) nm (cn (p ++ b))) P) (d : Nat) : ∀ i : Nat, i + d = 256 →
    Gets (fun k => stat_Learn.l1 k n ls L j (cn b) 256 (i : Int) nm ((cn (p ++ b)).take i ++ (cn p).drop i)) P := by
  have hc : (cn p).length = (cn (p ++ b)).length := by rw [cn_len, cn_len]
  induction d with
  | zero =>
    intro i hi
    have q1 : ¬ (i : Int) < 256 := by omega
    refine Gets.up ?_
    simp only [stat_Learn.l1]
    simp -implicitDefEqProofs only [if_neg q1]
    have e : (cn (p ++ b)).take i ++ (cn p).drop i = cn (p ++ b) := by
      rw [List.take_of_length_le (by rw [cn_len]; omega), List.drop_of_length_le (by rw [cn_len]; omega), List.append_nil]
    rw [e]
    exact K
  | succ d ih =>
    intro i hi
    have hi2 : i < (cn (p ++ b)).length := by rw [cn_len]; omega
    have hi3 : i < (cn b).length := by rw [cn_len]; omega
    have q1 : (i : Int) < 256 := by omega
    have q2 : (0 : Int) ≤ (i : Int) := by omega
    have q3 : (i : Int) < ((cn b).length : Int) := by rw [cn_len]; omega
    have q4 : (i : Int) < (((cn (p ++ b)).take i ++ (cn p).drop i).length : Int) := by simp only [List.length_append, List.length_take, List.length_drop, cn_len]; omega
    have e0 := cn_app p b i (by omega)
    have h5 := cn_le (p ++ b) i hi2
    have h6 := cn_pos (p ++ b) _ (List.getElem_mem hi2)
    have e1 : wrap64 (rd ((cn (p ++ b)).take i ++ (cn p).drop i) (i : Int) + rd (cn b) (i : Int)) = (cn (p ++ b))[i]'hi2 := by
      rw [mix_at _ _ hc i hi2, rd_at _ i hi3, ← e0, w64 (by omega) (by omega)]
    have hw := w1 i 256 (by omega) (by omega)
    have key := ih (i + 1) (by clear e1 hw; omega)
    rw [← mix_set _ _ hc i hi2] at key
    refine Gets.up ?_
    simp only [stat_Learn.l1, hw, e1, Int.toNat_natCast]
    simp -implicitDefEqProofs only [if_pos q1, if_pos q2, if_pos q3, if_pos q4]
    exact key
theorem rdL0 (a b : List Int) : rd_L2 [a, b] 0 = a := rfl
theorem rdL1 (a b : List Int) : rd_L2 [a, b] 1 = b := rfl
theorem byt_app {a b : List Int} (ha : Byt a) (hb : Byt b) : Byt (a ++ b) := fun x hx => (List.mem_append.1 hx).elim (ha x) (hb x)
theorem learn_f (nm : ByteArray) (a b : List Int) (ha : Byt a) (hb : Byt b) (hla : a.length ≤ 500) (hlb : b.length ≤ 4) (hb0 : 0 < b.length) :
    Gets (fun k => stat_Learn.f k nm [a, b]) (· = (nm, cn (a ++ b), 0)) := by
  have c2 : wrap64 (1 + 1 : Int) = 2 := by decide +kernel
  have c1 : wrap64 (0 + 1 : Int) = 1 := by decide +kernel
  have n1 : wrap64 (0 + (a.length : Int)) = (a.length : Int) := by rw [w64] <;> omega
  have n2 : wrap64 ((a.length : Int) + (b.length : Int)) = (a.length : Int) + (b.length : Int) := by rw [w64] <;> omega
  have q1 : ¬ (a.length : Int) > 65535 := by omega
  have q2 : ¬ (a.length : Int) + (b.length : Int) > 65535 := by omega
  have q3 : ¬ (a.length : Int) + (b.length : Int) = 0 := by omega
  have l2 : (([a, b] : List (List Int)).length : Int) = 2 := rfl
  simp only [stat_Learn.f, if_pos (show 256 ≤ 35184372088832 by omega)]
  refine Gets.up ?_
  simp only [stat_Learn.l0, l2, rdL0, n1, if_pos (show (0 : Int) < 2 by decide), if_pos (show (0 : Int) ≤ 0 by decide), if_neg q1]
  refine (counts_f a (by omega) ha).bind fun x e => ?_
  rw [e]; clear e x
  rw [← cn_nil, cn_len]
  have key := fun K => learn_l1 (a.length : Int) [a, b] 2 0 [] a nm (by simp; omega) (P := (· = (nm, cn (a ++ b), 0))) K 256 0 (Nat.zero_add 256)
  rw [List.take_zero, List.drop_zero, List.nil_append, List.nil_append] at key
  refine key ?_
  clear key
  rw [c1]
  refine Gets.up ?_
  simp only [stat_Learn.l0, l2, rdL1, n2, if_pos (show (1 : Int) < 2 by decide), if_pos (show (0 : Int) ≤ 1 by decide), if_neg q2]
  refine (counts_f b (by omega) hb).bind fun x e => ?_
  rw [e]; clear e x
  rw [cn_len]
  have key := fun K => learn_l1 ((a.length : Int) + (b.length : Int)) [a, b] 2 1 a b nm (by rw [List.length_append]; clear n1 n2; omega) (P := (· = (nm, cn (a ++ b), 0))) K 256 0 (Nat.zero_add 256)
  rw [List.take_zero, List.drop_zero, List.nil_append] at key
  refine key ?_
  clear key
  rw [c2]
  refine Gets.up ?_
  simp only [stat_Learn.l0, if_neg (show ¬ (2 : Int) < 2 by decide), if_neg q3]
  exact Gets.ret rfl

/-! ## Concat -/
theorem concat_f (a b : List Int) (hla : a.length ≤ 4) (hlb : b.length ≤ 500) : Gets (fun k => slices_Concat_byte_byte.f k [a, b]) (· = a ++ b) := by
  have c2 : wrap64 (1 + 1 : Int) = 2 := by decide +kernel
  have c1 : wrap64 (0 + 1 : Int) = 1 := by decide +kernel
  have n1 : wrap64 (0 + (a.length : Int)) = (a.length : Int) := by rw [w64] <;> omega
  have n2 : wrap64 ((a.length : Int) + (b.length : Int)) = (a.length : Int) + (b.length : Int) := by rw [w64] <;> omega
  have q1 : ¬ (a.length : Int) < 0 := by omega
  have q2 : ¬ (a.length : Int) + (b.length : Int) < 0 := by omega
  have q3 : (0 : Int) ≤ (a.length : Int) + (b.length : Int) := by omega
  have q4 : ((a.length : Int) + (b.length : Int)).toNat * 1 ≤ 140737488355328 := by clear n1 n2; omega
  have q5 : ([] : List Int).length + a.length < 140737488355328 := by simp only [List.length_nil]; clear n1 n2; omega
  have q6 : ([] ++ a).length + b.length < 140737488355328 := by simp only [List.nil_append]; clear n1 n2; omega
  have l2 : (([a, b] : List (List Int)).length : Int) = 2 := rfl
  simp only [slices_Concat_byte_byte.f, l2]
  refine Gets.up ?_
  simp only [slices_Concat_byte_byte.l0, l2, rdL0, n1, c1, if_pos (show (0 : Int) < 2 by decide), if_pos (show (0 : Int) ≤ 0 by decide), if_neg q1]
  refine Gets.up ?_
  simp only [slices_Concat_byte_byte.l0, l2, rdL1, n2, c2, if_pos (show (1 : Int) < 2 by decide), if_pos (show (0 : Int) ≤ 1 by decide), if_neg q2]
  refine Gets.up ?_
  simp only [slices_Concat_byte_byte.l0, if_neg (show ¬ (2 : Int) < 2 by decide), slices_Grow_byte_byte.f, List.length_nil, if_pos (show ((0 : Nat) : Int) = 0 by rfl)]
  simp -implicitDefEqProofs only [if_pos q3, if_pos q4, Option.bind_some]
  refine Gets.up ?_
  simp only [slices_Concat_byte_byte.l1, l2, rdL0, c1, if_pos (show (0 : Int) < 2 by decide), if_pos (show (0 : Int) ≤ 0 by decide)]
  simp -implicitDefEqProofs only [if_pos q5]
  refine Gets.up ?_
  simp only [slices_Concat_byte_byte.l1, l2, rdL1, c2, if_pos (show (1 : Int) < 2 by decide), if_pos (show (0 : Int) ≤ 1 by decide)]
  simp -implicitDefEqProofs only [if_pos q6]
  refine Gets.up ?_
  simp only [slices_Concat_byte_byte.l1, if_neg (show ¬ (2 : Int) < 2 by decide)]
  exact Gets.ret (by rw [List.nil_append])

/-! ## Distance -/
theorem check_l0 (X : List Int) (hX : Pos X) (hs : X.sum ≤ 65535) (h0 : 0 < X.sum) (hl : X.length = 256) (d : Nat) : ∀ i : Nat, i + d = 256 → Gets (fun k => stat_check.l0 k (X.take i).sum X 256 (i : Int)) (· = (X.sum, 0)) := by
  induction d with
  | zero =>
    intro i hi
    refine Gets.up ?_
    have e : X.take i = X := List.take_of_length_le (by omega)
    simp only [stat_check.l0, if_neg (show ¬ (i : Int) < 256 by omega), e, if_neg (show ¬ X.sum = 0 by omega)]
    exact Gets.ret rfl
  | succ d ih =>
    intro i hi
    have hi2 : i < X.length := by omega
    obtain ⟨a1, a2⟩ := elem_le X hX i hi2
    have a3 := sum_take_pos X hX i
    have q1 : (i : Int) < 256 := by omega
    have q2 : (0 : Int) ≤ (i : Int) := by omega
    have q3 : (i : Int) < (X.length : Int) := by omega
    have e1 : rd X (i : Int) = X[i] := rd_at X i hi2
    have e4 := sum_take_succ X i hi2
    have key := ih (i + 1) (by omega)
    rw [e4] at key
    generalize (X.take i).sum = s at *
    generalize X[i] = x at *
    have q4 : ¬ x < 0 := by omega
    have q5 : ¬ x > 65535 - s := by omega
    have e2 : wrap64 (65535 - s) = 65535 - s := by rw [w64] <;> omega
    have e3 : wrap64 (s + x) = s + x := by rw [w64] <;> omega
    have hw := w1 i 256 (by clear e2 e3; omega) (by omega)
    refine Gets.up ?_
    simp only [stat_check.l0, e1, hw, e2, e3]
    simp -implicitDefEqProofs only [if_pos q1, if_pos q2, if_pos q3, if_neg q4, if_neg q5]
    exact key
theorem check_f (nm : ByteArray) (X : List Int) (hX : Pos X) (hs : X.sum ≤ 65535) (h0 : 0 < X.sum) (hl : X.length = 256) : Gets (fun k => stat_check.f k nm X) (· = (X.sum, 0)) := by
  simp only [stat_check.f, hl, if_pos (show ((256 : Nat) : Int) = 256 by rfl)]
  exact check_l0 X hX hs h0 hl 256 0 rfl
def ds (X Y : List Int) (m n : Int) : Nat → Int
  | 0 => 0
  | i + 1 => ds X Y m n i + mx (X.getD i 0 * m - Y.getD i 0 * n) (-(X.getD i 0 * m - Y.getD i 0 * n))
theorem mx_abs {x y M : Int} (hx : 0 ≤ x) (hy : 0 ≤ y) : 0 ≤ mx (x - y) (-(x - y)) ∧ mx (x - y) (-(x - y)) ≤ x + y := by unfold mx; split <;> omega
theorem getD_at (X : List Int) (i : Nat) (h : i < X.length) : X.getD i 0 = X[i] := by rw [List.getD_eq_getElem?_getD, List.getElem?_eq_getElem h]; rfl
theorem ds_bound (X Y : List Int) (m n : Int) (hX : Pos X) (hY : Pos Y) (hm : 0 ≤ m) (hn : 0 ≤ n) : ∀ i, i ≤ X.length → i ≤ Y.length → 0 ≤ ds X Y m n i ∧ ds X Y m n i ≤ (X.take i).sum * m + (Y.take i).sum * n
  | 0, _, _ => by simp [ds]
  | i + 1, h1, h2 => by
    obtain ⟨b1, b2⟩ := ds_bound X Y m n hX hY hm hn i (by omega) (by omega)
    have hx := hX _ (List.getElem_mem (show i < X.length by omega))
    have hy := hY _ (List.getElem_mem (show i < Y.length by omega))
    have p1 := Int.mul_nonneg hx hm
    have p2 := Int.mul_nonneg hy hn
    obtain ⟨c1, c2⟩ := mx_abs (M := 0) p1 p2
    rw [ds, getD_at X i (by omega), getD_at Y i (by omega), sum_take_succ X i (by omega), sum_take_succ Y i (by omega), Int.add_mul, Int.add_mul]
    generalize X[i] * m = u at *
    generalize Y[i] * n = v at *
    generalize (X.take i).sum * m = u1 at *
    generalize (Y.take i).sum * n = v1 at *
    generalize ds X Y m n i = w at *
    generalize mx (u - v) (-(u - v)) = z at *
    omega
theorem ds_self (X : List Int) (m : Int) : ∀ i, ds X X m m i = 0
  | 0 => rfl
  | i + 1 => by rw [ds, ds_self X m i, Int.sub_self]; rfl
theorem mul_lt {x m : Int} (hx : 0 ≤ x) (hx2 : x ≤ 4000) (hm : 0 ≤ m) (hm2 : m ≤ 4000) : 0 ≤ x * m ∧ x * m ≤ 16000000 := by
  refine ⟨Int.mul_nonneg hx hm, ?_⟩
  have := Int.mul_le_mul hx2 hm2 hm (by omega)
  omega
theorem dist_l0 (X Y : List Int) (nm : ByteArray) (m n : Int) (hX : Pos X) (hY : Pos Y) (hXs : X.sum ≤ 4000) (hYs : Y.sum ≤ 4000) (hm : 0 ≤ m) (hm2 : m ≤ 4000) (hn : 0 ≤ n) (hn2 : n ≤ 4000)
    (hl : X.length = 256) (hl2 : Y.length = 256) (d : Nat) : ∀ i : Nat, i + d = 256 → Gets (fun k => stat_Distance.l0 k m n (ds X Y m n i) X 256 (i : Int) nm Y) (· = (ds X Y m n 256, n * m, 0)) := by
  obtain ⟨g1, g2⟩ := mul_lt hn hn2 hm hm2
  have e0 : wrap64 (n * m) = n * m := by rw [w64] <;> omega
  induction d with
  | zero =>
    intro i hi
    obtain rfl : i = 256 := by clear e0; omega
    refine Gets.up ?_
    simp only [stat_Distance.l0, if_neg (show ¬ ((256 : Nat) : Int) < 256 by decide), e0]
    exact Gets.ret rfl
  | succ d ih =>
    intro i hi
    have hi2 : i < X.length := by clear e0; omega
    have hi3 : i < Y.length := by clear e0; omega
    have q1 : (i : Int) < 256 := by clear e0; omega
    have q2 : (0 : Int) ≤ (i : Int) := by clear e0; omega
    have q3 : (i : Int) < (X.length : Int) := by clear e0; omega
    have q4 : (i : Int) < (Y.length : Int) := by clear e0; omega
    have e1 : rd X (i : Int) = X[i] := rd_at X i hi2
    have e2 : rd Y (i : Int) = Y[i] := rd_at Y i hi3
    obtain ⟨a1, a2⟩ := elem_le X hX i hi2
    obtain ⟨b1, b2⟩ := elem_le Y hY i hi3
    have a3 := sum_take_pos X hX i
    have b3 := sum_take_pos Y hY i
    obtain ⟨s1, s2⟩ := ds_bound X Y m n hX hY hm hn i (by clear e0; omega) (by clear e0; omega)
    obtain ⟨u1, u2⟩ := mul_lt (x := X[i]) (m := m) a1 (by clear e0; omega) hm hm2
    obtain ⟨v1, v2⟩ := mul_lt (x := Y[i]) (m := n) b1 (by clear e0; omega) hn hn2
    obtain ⟨x1, x2⟩ := mul_lt (x := (X.take i).sum) (m := m) a3 (by clear e0; omega) hm hm2
    obtain ⟨y1, y2⟩ := mul_lt (x := (Y.take i).sum) (m := n) b3 (by clear e0; omega) hn hn2
    obtain ⟨z1, z2⟩ := mx_abs (M := 0) u1 v1
    have key := ih (i + 1) (by clear e0; omega)
    rw [ds, getD_at X i hi2, getD_at Y i hi3] at key
    clear e0 a1 a2 b1 b2 a3 b3
    have f1 : wrap64 (X[i] * m) = X[i] * m := w64 (by omega) (by omega)
    have f2 : wrap64 (Y[i] * n) = Y[i] * n := by clear f1; exact w64 (by omega) (by omega)
    have f3 : wrap64 (X[i] * m - Y[i] * n) = X[i] * m - Y[i] * n := by clear f1 f2; exact w64 (by omega) (by omega)
    have f4 : wrap64 (-(X[i] * m - Y[i] * n)) = -(X[i] * m - Y[i] * n) := by clear f1 f2 f3; exact w64 (by omega) (by omega)
    have f5 : wrap64 (ds X Y m n i + mx (X[i] * m - Y[i] * n) (-(X[i] * m - Y[i] * n))) = ds X Y m n i + mx (X[i] * m - Y[i] * n) (-(X[i] * m - Y[i] * n)) := by clear f1 f2 f3 f4; exact w64 (by omega) (by omega)
    have hw := w1 i 256 (by clear f1 f2 f3 f4 f5; omega) (by decide)
    refine Gets.up ?_
    simp only [stat_Distance.l0, e1, e2, hw, f1, f2, f3, f4, f5]
    simp -implicitDefEqProofs only [if_pos q1, if_pos q2, if_pos q3, if_pos q4]
    exact key
theorem dist_f (o Y : List Int) (nm : ByteArray) (ho : Byt o) (hlo : o.length ≤ 4000) (hlo1 : 0 < o.length) (hY : Pos Y) (hYs : Y.sum ≤ 4000) (hY0 : 0 < Y.sum) (hl2 : Y.length = 256) :
    Gets (fun k => stat_Distance.f k o nm Y) (· = (ds (cn o) Y Y.sum (o.length : Int) 256, (o.length : Int) * Y.sum, 0)) := by
  simp only [stat_Distance.f]
  refine (check_f nm Y hY (by omega) hY0 hl2).bind fun r e => ?_
  rw [e]; clear e r
  simp only [if_true, if_neg (show ¬ (o.length : Int) > 65535 by omega), if_neg (show ¬ (o.length : Int) = 0 by omega)]
  refine (counts_f o hlo ho).bind fun r e => ?_
  rw [e]; clear e r
  have ht := cn_total o ho
  rw [cn_len]
  exact dist_l0 (cn o) Y nm Y.sum (o.length : Int) (cn_pos o) hY (by omega) hYs (by omega) hYs (by omega) (by omega) (cn_len o) hl2 256 0 rfl

/-! ## Nearest -/
theorem u64s {a : Int} (h0 : 0 ≤ a) (h1 : a < 18446744073709551616) : IntKind.u64.wrap a = a := by rw [u64w]; omega
theorem and_mask {a : Int} (h0 : 0 ≤ a) (h1 : a < 4294967296) : Go.bits .and .u64 a 4294967295 = a := by
  obtain ⟨n, rfl⟩ : ∃ n : Nat, a = (n : Int) := ⟨a.toNat, by omega⟩
  have hn : n < 2 ^ 32 := by omega
  have h := (bits_nat .u64 64 (by decide) (fun n h0 h1 => u64s h0 (by omega)) n 4294967295 (by omega) (by decide)).1
  rw [show ((4294967295 : Nat) : Int) = 4294967295 from rfl] at h
  rw [h]
  have e : n &&& 4294967295 = n := by
    have := Nat.and_two_pow_sub_one_of_lt_two_pow hn
    exact this
  rw [e]
theorem mul_f {a b : Int} (ha : 0 ≤ a) (ha2 : a < 1073741824) (hb : 0 ≤ b) (hb2 : b < 1073741824) : bits_Mul64.f a b = some (0, a * b) := by
  have p1 : 0 ≤ a * b := Int.mul_nonneg ha hb
  have p2 : a * b ≤ 1073741824 * 1073741824 := Int.mul_le_mul (by omega) (by omega) hb (by omega)
  have e1 : a / 4294967296 = 0 := by omega
  have e2 : b / 4294967296 = 0 := by omega
  unfold bits_Mul64.f
  rw [and_mask ha (by omega), and_mask hb (by omega), e1, e2, Int.zero_mul, Int.mul_zero, Int.zero_mul]
  generalize a * b = p at *
  have h0 : IntKind.u64.wrap 0 = 0 := by decide
  have h1 : IntKind.u64.wrap p = p := u64s p1 (by omega)
  rw [h1, h0]
  have h2 : IntKind.u64.wrap (0 + p / 4294967296) = p / 4294967296 := by rw [Int.zero_add]; exact u64s (by omega) (by omega)
  rw [h2, and_mask (by omega) (by omega)]
  have h3 : p / 4294967296 / 4294967296 = 0 := by omega
  rw [Int.add_zero, u64s (show 0 ≤ p / 4294967296 by omega) (by omega), h3]
  simp only [Int.add_zero, h0]
theorem cmp_ne {a b : Int} (h : a < b) : cmp_Compare_uint64.f a b = some (-1) := by
  simp [cmp_Compare_uint64.f, cmp_isNaN_uint64.f, if_pos h]
theorem cmp_zero : cmp_Compare_uint64.f 0 0 = some 0 := by decide
theorem or_f : cmp_Or_int.f 9 [0, -1] = some (-1) := by decide +kernel
theorem compare_f {a b c : Int} (ha : 0 < a) (ha2 : a < 1073741824) (hb : 0 < b) (hb2 : b < 1073741824) (hc : 0 ≤ c) (hc2 : c < 1073741824) : stat_compare.f 9 0 b a c = some (-1) := by
  have p1 : 0 < a * b := Int.mul_pos ha hb
  unfold stat_compare.f
  rw [u64s (show (0 : Int) ≤ 0 by decide) (by decide), u64s hc (by omega), u64s (by omega : 0 ≤ a) (by omega), u64s (by omega : 0 ≤ b) (by omega),
    mul_f (by decide) (by decide) hc hc2, mul_f (by omega : 0 ≤ a) ha2 (by omega : 0 ≤ b) hb2]
  simp only [Option.bind_some, Int.zero_mul, cmp_zero, cmp_ne p1, or_f]
theorem srt_two (x y : S178) : stat_far.srt [x, y] = if Go.Proofs.ltOf stat_far.cf y x = true then [y, x] else [x, y] := by
  unfold stat_far.srt
  rw [show ([x, y] : List S178).toArray = #[x, y] from rfl]
  have e1 : ∀ d : Array S178, Go.Sort.insOuter (Go.Proofs.ltOf stat_far.cf) 0 2 2 d = d := fun d => by rw [Go.Sort.insOuter, if_neg (by decide)]
  have e2 : Go.Sort.swp #[x, y] 1 0 = #[y, x] := rfl
  unfold Go.Sort.insertionSort
  rw [show ([x, y] : List S178).length = 2 from rfl, Go.Sort.insOuter, if_pos (by decide), e1, Go.Sort.insInner]
  rw [show (#[x, y] : Array S178)[0 + 1]! = y from rfl, show (#[x, y] : Array S178)[0]! = x from rfl, e2, Go.Sort.insInner]
  by_cases c : Go.Proofs.ltOf stat_far.cf y x = true
  · rw [if_pos c, c]; rfl
  · rw [if_neg c, Bool.eq_false_iff.mpr c]; rfl
theorem far_f (x y : S178) : stat_far.f [x, y] 120 = some (if Go.Proofs.ltOf stat_far.cf y x = true then [y, x] else [x, y]) := by
  unfold stat_far.f
  rw [if_pos rfl, if_pos (show 0 < ([x, y] : List S178).length by simp), if_pos (show ([x, y] : List S178).length < 20 by simp), srt_two]
theorem rdT0 (a b : S117) : rd_T117 [a, b] 0 = a := rfl
theorem rdT1 (a b : S117) : rd_T117 [a, b] 1 = b := rfl
theorem rdU0 (a b : S178) : rd_T178 [a, b] 0 = a := rfl
theorem rdU1 (a b : S178) : rd_T178 [a, b] 1 = b := rfl
theorem near_l1 (u v : S178) : Gets (fun k => stat_Nearest.l1 k [] [u, v] 2 0) (· = ([u.f0, v.f0], 0)) := by
  have c2 : wrap64 (1 + 1 : Int) = 2 := by decide +kernel
  have c1 : wrap64 (0 + 1 : Int) = 1 := by decide +kernel
  have l2 : (([u, v] : List S178).length : Int) = 2 := rfl
  refine Gets.up ?_
  simp only [stat_Nearest.l1, l2, rdU0, c1, if_pos (show (0 : Int) < 2 by decide), if_pos (show (0 : Int) ≤ 0 by decide), List.length_nil, if_pos (show 0 < 17592186044416 by decide), List.nil_append]
  refine Gets.up ?_
  simp only [stat_Nearest.l1, l2, rdU1, c2, if_pos (show (1 : Int) < 2 by decide), if_pos (show (0 : Int) ≤ 1 by decide), List.length_singleton, if_pos (show 1 < 17592186044416 by decide), List.singleton_append]
  refine Gets.up ?_
  simp only [stat_Nearest.l1, if_neg (show ¬ (2 : Int) < 2 by decide)]
  exact Gets.ret rfl
theorem near_f (o : List Int) (a b : S117) (s t ofs oft : Int) (g1 : Gets (fun k => stat_Distance.f k o a.f0 a.f1) (· = (s, ofs, 0))) (g2 : Gets (fun k => stat_Distance.f k o b.f0 b.f1) (· = (t, oft, 0))) :
    Gets (fun k => stat_Nearest.f k o [a, b]) (· = (if Go.Proofs.ltOf stat_far.cf ⟨1, t, oft⟩ ⟨0, s, ofs⟩ = true then [1, 0] else [0, 1], 0)) := by
  have c2 : wrap64 (1 + 1 : Int) = 2 := by decide +kernel
  have c1 : wrap64 (0 + 1 : Int) = 1 := by decide +kernel
  have l2 : (([a, b] : List S117).length : Int) = 2 := rfl
  simp only [stat_Nearest.f, l2]
  refine Gets.up ?_
  simp only [stat_Nearest.l0, l2, rdT0, c1, if_pos (show (0 : Int) < 2 by decide), if_pos (show (0 : Int) ≤ 0 by decide)]
  refine g1.bind fun r e => ?_
  rw [e]; clear e r
  simp only [if_true, List.length_nil, if_pos (show 0 < 5864062014805 by decide), List.nil_append]
  refine Gets.up ?_
  simp only [stat_Nearest.l0, l2, rdT1, c2, if_pos (show (1 : Int) < 2 by decide), if_pos (show (0 : Int) ≤ 1 by decide)]
  refine g2.bind fun r e => ?_
  rw [e]; clear e r
  simp only [if_true, List.length_singleton, if_pos (show 1 < 5864062014805 by decide), List.singleton_append]
  refine Gets.up ?_
  simp only [stat_Nearest.l0, if_neg (show ¬ (2 : Int) < 2 by decide), far_f, Option.bind_some]
  rw [show (([(⟨0, s, ofs⟩ : S178), ⟨1, t, oft⟩]).length : Int) = 2 from rfl]
  by_cases c : Go.Proofs.ltOf stat_far.cf ⟨1, t, oft⟩ ⟨0, s, ofs⟩ = true
  · rw [if_pos c, if_pos c]
    exact near_l1 _ _
  · rw [if_neg c, if_neg c]
    exact near_l1 _ _

/-! ## The law -/
theorem counted_ok : wrackkeep3_counted.f 300 = some true := by decide +kernel
theorem counted_g : Gets (fun k => wrackkeep3_counted.f k) (· = true) := Gets.of_mono wrackkeep3_counted.mono counted_ok rfl
theorem law_f (l0 l1 : List Int) (h0 : Byt l0) (h1 : Byt l1) : Gets (fun k => wrackkeep3_StatOwn.f k l0 l1) (· = true) := by
  simp only [wrackkeep3_StatOwn.f]
  obtain ⟨a, ha⟩ : ∃ a, a = l0.take (min (l0.length : Int) 500).toNat := ⟨_, rfl⟩
  obtain ⟨b, hb⟩ : ∃ b, b = l1.take (min (l1.length : Int) 500).toNat := ⟨_, rfl⟩
  have hla : a.length ≤ 500 := by rw [ha, List.length_take]; omega
  have hlb : b.length ≤ 500 := by rw [hb, List.length_take]; omega
  have hBa : Byt a := fun x hx => h0 x (List.mem_of_mem_take (ha ▸ hx))
  have hBb : Byt b := fun x hx => h1 x (List.mem_of_mem_take (hb ▸ hx))
  rw [← ha, ← hb]
  clear ha hb
  have hx : Byt [120] := fun x hx => by simp at hx; omega
  have hyz : Byt [121, 122] := fun x hx => by simp at hx; omega
  have hP : Byt (a ++ [120]) := byt_app hBa hx
  have hQ : Byt (b ++ [121, 122]) := byt_app hBb hyz
  have hO : Byt ([120] ++ a) := byt_app hx hBa
  obtain ⟨o, ho⟩ : ∃ o, o = [120] ++ a := ⟨_, rfl⟩
  have tP := cn_total _ hP
  have tQ := cn_total _ hQ
  have lP : (a ++ [120]).length = a.length + 1 := by simp
  have lQ : (b ++ [121, 122]).length = b.length + 2 := by simp
  have lO : o.length = a.length + 1 := by rw [ho]; simp
  have eP : cn (a ++ [120]) = cn o := by rw [ho]; exact cn_comm _ _
  rw [← ho] at hO
  have tO := cn_total o hO
  rw [lO] at tO
  rw [lQ] at tQ
  have lO2 : (o.length : Int) = (a.length : Int) + 1 := by omega
  have d1 := dist_f o (cn o) ⟨#[112]⟩ hO (by omega) (by omega) (cn_pos o) (by omega) (by omega) (cn_len o)
  have d2 := dist_f o (cn (b ++ [121, 122])) ⟨#[113]⟩ hO (by omega) (by omega) (cn_pos _) (by omega) (by omega) (cn_len _)
  rw [tO, lO2] at d1
  rw [show (((a.length + 1 : Nat)) : Int) = (a.length : Int) + 1 by omega, ds_self] at d1
  have bnd := ds_bound (cn o) (cn (b ++ [121, 122])) (cn (b ++ [121, 122])).sum (o.length : Int) (cn_pos _) (cn_pos _) (by omega) (by omega) 256 (by rw [cn_len]; omega) (by rw [cn_len]; omega)
  rw [List.take_of_length_le (by rw [cn_len]; omega), List.take_of_length_le (by rw [cn_len]; omega), tO, tQ] at bnd
  rw [tQ] at d2
  have nf := near_f o ⟨⟨#[113]⟩, cn (b ++ [121, 122])⟩ ⟨⟨#[112]⟩, cn o⟩ _ _ _ _ d2 d1
  have n1 : (o.length : Int) = ((a.length + 1 : Nat) : Int) := by omega
  have m1 : (o.length : Int) * ((b.length + 2 : Nat) : Int) = ((b.length + 2 : Nat) : Int) * (o.length : Int) := Int.mul_comm _ _
  have lB : ((b.length + 2 : Nat) : Int) ≤ 502 := by omega
  have lB0 : 0 < ((b.length + 2 : Nat) : Int) := by omega
  have lA : (o.length : Int) ≤ 501 := by omega
  have lA0 : 0 < (o.length : Int) := by omega
  rw [← n1] at bnd
  rw [← lO2] at d1 nf
  generalize hQe : cn (b ++ [121, 122]) = Q at *
  generalize ((b.length + 2 : Nat) : Int) = m at *
  generalize ds (cn o) Q m (o.length : Int) 256 = z at *
  obtain ⟨b1, b2⟩ := bnd
  rw [← m1] at b2
  have p1 : (o.length : Int) * m ≤ 501 * 502 := Int.mul_le_mul lA lB (by omega) (by omega)
  have p2 : (o.length : Int) * (o.length : Int) ≤ 501 * 501 := Int.mul_le_mul lA lA (by omega) (by omega)
  have p3 : 0 < (o.length : Int) * m := Int.mul_pos lA0 lB0
  have p4 : 0 < (o.length : Int) * (o.length : Int) := Int.mul_pos lA0 lA0
  refine (learn_f _ a [120] hBa hx hla (by simp) (by simp)).bind fun r e => ?_
  rw [e]; clear e r
  refine (learn_f _ b [121, 122] hBb hyz hlb (by simp) (by simp)).bind fun r e => ?_
  rw [e]; clear e r
  refine (concat_f [120] a (by simp) hla).bind fun r e => ?_
  rw [e]; clear e r
  rw [← ho, eP, hQe]
  dsimp only
  refine d1.bind fun r e => ?_
  rw [e]; clear e r
  refine nf.bind fun r e => ?_
  rw [e]; clear e r
  refine counted_g.bind fun r e => ?_
  rw [e]; clear e r
  refine d2.bind fun r e => ?_
  rw [e]; clear e r
  have f1 : wrap64 ((o.length : Int) * (o.length : Int)) = (o.length : Int) * (o.length : Int) := w64 (by omega) (by omega)
  have f2 : wrap64 (2 * ((o.length : Int) * m)) = 2 * ((o.length : Int) * m) := by clear f1; exact w64 (by omega) (by omega)
  have z2 : z ≤ 2 * ((o.length : Int) * m) := by clear f1 f2; omega
  by_cases hz : z = 0
  · by_cases c : Go.Proofs.ltOf stat_far.cf ⟨1, 0, (o.length : Int) * (o.length : Int)⟩ ⟨0, z, (o.length : Int) * m⟩ = true
    · rw [if_pos c]
      rw [if_pos ⟨rfl, rfl, rfl, rfl, rfl, rfl, rfl, f1.symm, rfl, by rw [f2]; exact z2, .inr hz⟩]
      exact Gets.ret rfl
    · rw [if_neg c]
      rw [if_pos ⟨rfl, rfl, rfl, rfl, rfl, rfl, rfl, f1.symm, rfl, by rw [f2]; exact z2, .inr hz⟩]
      exact Gets.ret rfl
  · have c : Go.Proofs.ltOf stat_far.cf ⟨1, 0, (o.length : Int) * (o.length : Int)⟩ ⟨0, z, (o.length : Int) * m⟩ = true := by
      unfold Go.Proofs.ltOf stat_far.cf
      dsimp only
      rw [compare_f (by clear f1 f2; omega) (by clear f1 f2; omega) (by clear f1 f2; omega) (by clear f1 f2; omega) (by clear f1 f2; omega) (by clear f1 f2; omega)]
      rfl
    rw [if_pos c]
    rw [if_pos ⟨rfl, rfl, rfl, rfl, rfl, rfl, rfl, f1.symm, rfl, by rw [f2]; exact z2, .inl rfl⟩]
    exact Gets.ret rfl
theorem all_u8 {l : List Int} (h : ∀ x ∈ l, (Lit.int .u8 x).wf = true) : Byt l := fun x hx => by
  have := h x hx
  simp [Lit.wf, IntKind.min, IntKind.max, IntKind.bits, IntKind.signed] at this
  omega
end StatP
theorem StatOwn : wrackkeep3_StatOwn.Pure := by
  intro l0 l1 _ _ h0 _ _ h1
  obtain ⟨k, r, e, hr⟩ := (StatP.law_f l0 l1 (StatP.all_u8 h0) (StatP.all_u8 h1)).get
  refine ⟨k, ?_⟩
  rw [← hr]
  exact e
end Go.Proofs.Ytehkplafehlkgaa.Pure
