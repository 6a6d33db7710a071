/- wrackkeep3.NearMerges: the groups are all texts, each once; the more alike texts must be, the smaller are their groups. For every input. -/
import Derived.Test.YtcgflahchpeakaaPureNearGroups
namespace Go.Proofs.Ytcgflahchpeakaa.Pure
set_option linter.unusedVariables false
set_option linter.unusedSimpArgs false
open Go.RowKit Go.Proofs.Ytcgflahchpeakaa.PNearMerges Go.Proofs.YtcgflahchpeakaaW.PrintWords Go.Proofs.YtcgflahchpeakaaW.PrintLast Go.Proofs.YtcgflahchpeakaaW.PrintMore Go.Proofs.YtcgflahchpeakaaW.PrintMine Go.Proofs.YtcgflahchpeakaaW.Plib
namespace NearP
/-! ## lists -/
theorem nodup_sub {l1 : List Nat} : ∀ {l2 : List Nat}, l1.Nodup → (∀ x ∈ l1, x ∈ l2) → l1.length ≤ l2.length := by
  induction l1 with
  | nil => intro l2 _ _; exact Nat.zero_le _
  | cons a t ih =>
    intro l2 hn hs
    obtain ⟨h1, h2⟩ := List.nodup_cons.1 hn
    have ha := hs a List.mem_cons_self
    have hp : 0 < l2.length := List.length_pos_of_mem ha
    have e := List.length_erase_of_mem ha
    have := ih (l2 := l2.erase a) h2 (fun x hx => (List.mem_erase_of_ne (fun e : x = a => h1 (by rw [← e]; exact hx))).2 (hs x (List.mem_cons_of_mem _ hx)))
    rw [List.length_cons]
    omega
theorem flat_none {g : Nat → List Int} (h : ∀ i, g i = []) : ∀ m, (List.range m).flatMap g = []
  | 0 => rfl
  | m + 1 => by rw [List.range_succ, List.flatMap_append, flat_none h m]; simp [h]
theorem flat_ins {x : Int} {c : Nat} {A : Nat → List Int} : ∀ m, c < m → ((List.range m).flatMap fun i => if i = c then A i ++ [x] else A i).Perm ((List.range m).flatMap A ++ [x])
  | 0, h => absurd h (Nat.not_lt_zero c)
  | m + 1, h => by
    rw [List.range_succ, List.flatMap_append, List.flatMap_append]
    simp only [List.flatMap_cons, List.flatMap_nil, List.append_nil]
    by_cases e : m = c
    · rw [if_pos e]
      have hs : (List.range m).flatMap (fun i => if i = c then A i ++ [x] else A i) = (List.range m).flatMap A := by
        rw [List.flatMap_def, List.flatMap_def]; congr 1; exact List.map_congr_left fun i hi => if_neg (by have := List.mem_range.1 hi; omega)
      rw [hs, ← List.append_assoc]
    · rw [if_neg e]
      have := (flat_ins (x := x) (c := c) (A := A) m (by omega)).append_right (A m)
      refine this.trans ?_
      rw [List.append_assoc, List.append_assoc]
      exact List.Perm.append_left _ List.perm_append_comm
theorem grp_perm {n : Nat} {f : Nat → Nat} (hf : ∀ j, j < n → f j < n) : ∀ s, s ≤ n → ((List.range n).flatMap fun i => ((List.range s).filter fun k => decide (f k = i)).map fun k => ((k : Nat) : Int)).Perm ((List.range s).map fun k => ((k : Nat) : Int))
  | 0, _ => by rw [flat_none (g := fun i => ((List.range 0).filter fun k => decide (f k = i)).map fun k => ((k : Nat) : Int)) (fun i => rfl)]; exact List.Perm.refl _
  | s + 1, h => by
    have ih := grp_perm hf s (by omega)
    have e : ((List.range n).flatMap fun i => ((List.range (s + 1)).filter fun k => decide (f k = i)).map fun k => ((k : Nat) : Int)) = (List.range n).flatMap fun i => if i = f s then (((List.range s).filter fun k => decide (f k = i)).map fun k => ((k : Nat) : Int)) ++ [((s : Nat) : Int)] else (((List.range s).filter fun k => decide (f k = i)).map fun k => ((k : Nat) : Int)) := by
      rw [List.flatMap_def, List.flatMap_def]
      congr 1
      refine List.map_congr_left fun i _ => ?_
      rw [List.range_succ, List.filter_append, List.map_append]
      by_cases c : i = f s
      · rw [if_pos c]; simp [c]
      · rw [if_neg c]
        have c' : ¬ f s = i := fun e => c e.symm
        simp [c']
    rw [e]
    refine (flat_ins n (hf s (by omega))).trans ?_
    rw [List.range_succ, List.map_append]
    exact ih.append_right _
theorem flat_filter : ∀ L : List (List Int), (L.filter fun g => decide (0 < g.length)).flatten = L.flatten
  | [] => rfl
  | g :: t => by
    rw [List.filter_cons]
    cases g with
    | nil => simp [flat_filter t]
    | cons a r => simp [flat_filter t]
def N (n : Nat) : List Int := (List.range n).map fun k => ((k : Nat) : Int)
theorem gr_perm {n : Nat} {f : Nat → Nat} (hf : ∀ j, j < n → f j < n) : (GR n f).flatten.Perm (N n) := by
  unfold GR N
  rw [flat_filter]
  have h := grp_perm hf n (Nat.le_refl _)
  rwa [List.flatMap_def] at h
theorem n_len (n : Nat) : (N n).length = n := by simp [N]
theorem n_sorted (n : Nat) : (N n).Pairwise fun a b => a ≤ b := by
  unfold N
  rw [List.pairwise_map]
  exact (List.pairwise_lt_range (n := n)).imp (fun h => by omega)
theorem sort_gr {n : Nat} {l : List Int} (h : l.Perm (N n)) : sortInt l = N n := by
  unfold sortInt
  have hp : (l.mergeSort fun x y => decide (x ≤ y)).Perm (N n) := (List.mergeSort_perm l _).trans h
  have hs : (l.mergeSort fun x y => decide (x ≤ y)).Pairwise fun a b => a ≤ b := (List.pairwise_mergeSort (le := fun x y : Int => decide (x ≤ y)) (fun a b c h1 h2 => by simp only [decide_eq_true_eq] at *; omega) (fun a b => by simp only [Bool.or_eq_true, decide_eq_true_eq]; omega) l).imp (fun h => by simpa using h)
  exact hp.eq_of_pairwise (fun a b _ _ h1 h2 => by omega) hs (n_sorted n)
theorem compact_n (n : Nat) (hn : n ≤ 8) : (Go.Lib.compact (N n)).length = n := by
  have h : ∀ m : Fin 9, (Go.Lib.compact (N m.val)).length = m.val := by decide +kernel
  exact h ⟨n, by omega⟩
/-! ## groups -/
theorem gr_len60 {n : Nat} (hn : n ≤ 8) (f : Nat → Nat) : (GR n f).all (fun x => decide (x.length ≤ 60)) = true := by
  refine List.all_eq_true.2 fun g hg => ?_
  obtain ⟨i, -, rfl⟩ := List.mem_map.1 (List.mem_filter.1 hg).1
  have := grp_len n f i
  exact decide_eq_true (by omega)
theorem gr_le {n : Nat} (f : Nat → Nat) : (GR n f).length ≤ n := by
  unfold GR
  exact Nat.le_trans (List.length_filter_le _ _) (by simp)
theorem mem_grp {n : Nat} {f : Nat → Nat} {i : Nat} {x : Int} : x ∈ grp n f i ↔ ∃ k : Nat, k < n ∧ f k = i ∧ x = (k : Int) := by
  unfold grp
  simp only [List.mem_map, List.mem_filter, List.mem_range, decide_eq_true_eq]
  exact ⟨fun ⟨k, ⟨h1, h2⟩, h3⟩ => ⟨k, h1, h2, h3.symm⟩, fun ⟨k, h1, h2, h3⟩ => ⟨k, ⟨h1, h2⟩, h3.symm⟩⟩
theorem grp_pos {n : Nat} {f : Nat → Nat} {k : Nat} (hk : k < n) : 0 < (grp n f (f k)).length := List.length_pos_of_mem (mem_grp.2 ⟨k, hk, rfl, rfl⟩)
/-- the indexes of the groups -/
def ix (n : Nat) (f : Nat → Nat) : List Nat := (List.range n).filter fun i => decide (0 < (grp n f i).length)
theorem gr_ix (n : Nat) (f : Nat → Nat) : GR n f = (ix n f).map (grp n f) := by
  unfold GR ix
  rw [List.filter_map]
  rfl
theorem ix_mem {n : Nat} {f : Nat → Nat} (hf : ∀ j, j < n → f j < n) {i : Nat} : i ∈ ix n f ↔ ∃ k, k < n ∧ f k = i := by
  unfold ix
  simp only [List.mem_filter, List.mem_range, decide_eq_true_eq]
  refine ⟨fun ⟨h1, h2⟩ => ?_, fun ⟨k, h1, h2⟩ => ⟨by rw [← h2]; exact hf k h1, by rw [← h2]; exact grp_pos h1⟩⟩
  obtain ⟨x, hx⟩ := List.exists_mem_of_length_pos h2
  obtain ⟨k, h3, h4, -⟩ := mem_grp.1 hx
  exact ⟨k, h3, h4⟩
theorem gr_more {n : Nat} {f1 f2 : Nat → Nat} (h1 : ∀ j, j < n → f1 j < n) (h2 : ∀ j, j < n → f2 j < n) (h : ∀ j, j < n → f1 (f2 j) = f1 j) : (GR n f1).length ≤ (GR n f2).length := by
  rw [gr_ix, gr_ix, List.length_map, List.length_map]
  have e : (ix n f2).length = ((ix n f2).map f1).length := (List.length_map ..).symm
  rw [e]
  refine nodup_sub ?_ fun i hi => ?_
  · unfold ix
    exact List.nodup_range.filter _
  · obtain ⟨k, hk, rfl⟩ := (ix_mem h1).1 hi
    exact List.mem_map.2 ⟨f2 k, (ix_mem h2).2 ⟨k, hk, rfl⟩, h k hk⟩
theorem gr_in {n : Nat} {f1 f2 : Nat → Nat} (h1 : ∀ j, j < n → f1 j < n) (h : ∀ j, j < n → f1 (f2 j) = f1 j) {g : List Int} (hg : g ∈ GR n f2) : ((GR n f1).any fun x => g.all fun i => decide (i ∈ x)) = true := by
  rw [gr_ix] at hg
  obtain ⟨i, hi, rfl⟩ := List.mem_map.1 hg
  have hi2 := (List.mem_filter.1 hi).2
  obtain ⟨x, hx⟩ := List.exists_mem_of_length_pos (of_decide_eq_true hi2)
  obtain ⟨k, hk, hki, -⟩ := mem_grp.1 hx
  refine List.any_eq_true.2 ⟨grp n f1 (f1 k), ?_, ?_⟩
  · rw [gr_ix]
    exact List.mem_map.2 ⟨f1 k, (ix_mem h1).2 ⟨k, hk, rfl⟩, rfl⟩
  · refine List.all_eq_true.2 fun y hy => ?_
    obtain ⟨q, hq, hqi, rfl⟩ := mem_grp.1 hy
    refine decide_eq_true (mem_grp.2 ⟨q, hq, ?_, rfl⟩)
    rw [← h q hq, ← h k hk, hqi, hki]
/-! ## Concat -/
theorem conc_l1 (L : List (List Int)) (hL : L.length ≤ 8) (hl : ∀ x ∈ L, x.length ≤ 8) (d : Nat) : ∀ (i : Nat) (A : List Int), i + d = L.length → A.length ≤ 8 * i → A = (L.take i).flatten → Gets (fun k => slices_Concat_int_int.l1 k A L (L.length : Int) (i : Int)) (· = L.flatten) := by
  induction d with
  | zero =>
    intro i A hi hA e
    refine Gets.up ?_
    simp only [slices_Concat_int_int.l1, if_neg (show ¬ (i : Int) < (L.length : Int) by omega)]
    exact Gets.ret (by rw [e, List.take_of_length_le (by omega)])
  | succ d ih =>
    intro i A hi hA e
    have hil : i < L.length := by omega
    have hx := hl _ (getD_mem (d := []) hil)
    have q1 : (i : Int) < (L.length : Int) := by omega
    have q2 : (0 : Int) ≤ (i : Int) := by omega
    have q3 : A.length + (L.getD i []).length < 17592186044416 := by omega
    have hw := w1 i L.length hil (by omega)
    refine Gets.up ?_
    simp only [slices_Concat_int_int.l1, hw, at_L6']
    simp -implicitDefEqProofs only [if_pos q1, if_pos q2, if_pos q3]
    refine ih (i + 1) _ (by clear hw; omega) (by rw [List.length_append]; clear hw; omega) ?_
    rw [e, List.take_add_one, List.getElem?_eq_getElem hil, List.flatten_append, List.getD_eq_getElem?_getD, List.getElem?_eq_getElem hil]
    simp
theorem conc_l0 (L : List (List Int)) (hL : L.length ≤ 8) (hl : ∀ x ∈ L, x.length ≤ 8) (d : Nat) : ∀ (i s : Nat), i + d = L.length → s ≤ 8 * i → Gets (fun k => slices_Concat_int_int.l0 k L (s : Int) L (L.length : Int) (i : Int)) (· = L.flatten) := by
  induction d with
  | zero =>
    intro i s hi hs
    have q1 : (0 : Int) ≤ (s : Int) := by omega
    have q2 : s * 8 ≤ 140737488355328 := by omega
    refine Gets.up ?_
    simp only [slices_Concat_int_int.l0, if_neg (show ¬ (i : Int) < (L.length : Int) by omega), slices_Grow_int_int.f, List.length_nil, Int.toNat_natCast, if_pos (show ((0 : Nat) : Int) = 0 from rfl), if_pos q1, if_pos q2, Option.bind_some]
    exact conc_l1 L hL hl L.length 0 [] (by omega) (by simp) (by simp)
  | succ d ih =>
    intro i s hi hs
    have hil : i < L.length := by omega
    have hx := hl _ (getD_mem (d := []) hil)
    have q1 : (i : Int) < (L.length : Int) := by omega
    have q2 : (0 : Int) ≤ (i : Int) := by omega
    have hw := w1 i L.length hil (by omega)
    have hw2 : wrap64 ((s : Int) + ((L.getD i []).length : Int)) = ((s + (L.getD i []).length : Nat) : Int) := by clear hw; rw [w64] <;> omega
    have q3 : ¬ ((s + (L.getD i []).length : Nat) : Int) < 0 := by clear hw hw2; omega
    refine Gets.up ?_
    simp only [slices_Concat_int_int.l0, hw, at_L6', hw2]
    simp -implicitDefEqProofs only [if_pos q1, if_pos q2, if_neg q3]
    exact ih (i + 1) _ (by clear hw hw2; omega) (by clear hw hw2; omega)
theorem conc_f (L : List (List Int)) (hL : L.length ≤ 8) (hl : ∀ x ∈ L, x.length ≤ 8) : Gets (fun k => slices_Concat_int_int.f k L) (· = L.flatten) := by
  unfold slices_Concat_int_int.f
  exact conc_l0 L hL hl L.length 0 0 (by omega) (by omega)
/-! ## the law -/
theorem law_l1 (W F : List (List Int)) (hF : F.length ≤ 8) (hW : W.all (fun x => decide (x.length ≤ 60)) = true) (hall : ∀ g ∈ F, (W.any fun x => g.all fun i => decide (i ∈ x)) = true) (hle : W.length ≤ F.length) (d : Nat) :
    ∀ i : Nat, i + d = F.length → Gets (fun k => wrackkeep3_NearMerges.l1 k W F F (F.length : Int) (i : Int)) (· = true) := by
  induction d with
  | zero =>
    intro i hi
    refine Gets.up ?_
    simp only [wrackkeep3_NearMerges.l1, if_neg (show ¬ (i : Int) < (F.length : Int) by omega)]
    exact Gets.ret (decide_eq_true (by omega))
  | succ d ih =>
    intro i hi
    have hil : i < F.length := by omega
    have hx := hall _ (getD_mem (d := []) hil)
    have q1 : (i : Int) < (F.length : Int) := by omega
    have q2 : (0 : Int) ≤ (i : Int) := by omega
    have hw := w1 i F.length hil (by omega)
    have hc : slices_ContainsFunc_int_int.f W (F.getD i []) = some true := by unfold slices_ContainsFunc_int_int.f; rw [if_pos hW, hx]
    refine Gets.up ?_
    simp only [wrackkeep3_NearMerges.l1, hw, at_L6', hc, Option.bind_some, if_true]
    simp -implicitDefEqProofs only [if_pos q1, if_pos q2]
    exact ih (i + 1) (by clear hw; omega)
theorem law_end (D : List (List Int)) (hn : D.length ≤ 8) (hD : ∀ x ∈ D, x.length ≤ 40) (l : List (List Int)) (a1 a2 : Int) (hl : l.length ≤ 8) : Gets (fun k => wrackkeep3_NearMerges.l0 k a1 a2 D l (l.length : Int) (l.length : Int)) (· = true) := by
  obtain ⟨S, hS⟩ := sh_ex D hD
  obtain ⟨c, hc⟩ := cm_ex S (fun i hi => (hS.2 i (by rw [← hS.1]; exact hi)).1)
  have b1 := below_f (a := a1) (n := 11) (by omega) (by omega)
  have b2 := below_f (a := a2) (n := 5) (by omega) (by omega)
  have r1 := Int.emod_nonneg a1 (show (11 : Int) ≠ 0 by omega)
  have r2 := Int.emod_lt_of_pos a1 (show (0 : Int) < 11 by omega)
  have r3 := Int.emod_nonneg a2 (show (5 : Int) ≠ 0 by omega)
  have r4 := Int.emod_lt_of_pos a2 (show (0 : Int) < 5 by omega)
  generalize a1 % 11 = p at *
  generalize a2 % 5 = q at *
  have hw : wrap64 (p + q) = p + q := by rw [w64] <;> omega
  have hm : 0 ≤ mn 10 (p + q) ∧ mn 10 (p + q) ≤ 10 ∧ p ≤ mn 10 (p + q) := by clear hw; unfold mn; split <;> omega
  generalize hmm : mn 10 (p + q) = m at hm
  refine Gets.up ?_
  simp only [wrackkeep3_NearMerges.l0, if_neg (show ¬ (l.length : Int) < (l.length : Int) by clear hw; omega), b1, b2, Option.bind_some, hw, hmm]
  clear hw hmm b1 b2
  refine (groups_f D S c p hn hD hS hc r1 (by omega)).bind ?_
  rintro _ ⟨f1, F1, rfl⟩
  refine (groups_f D S c m hn hD hS hc hm.1 hm.2.1).bind ?_
  rintro _ ⟨f2, F2, rfl⟩
  refine shingled_f.bind ?_
  rintro _ rfl
  have hfac : ∀ j, j < D.length → f1 (f2 j) = f1 j := F2.fac f1 (fun a b hab hb he => F1.eq a b hab hb (by
    have hi := (hc a b (by rw [hS.1]; omega) (by rw [hS.1]; exact hb))
    unfold Ed at he ⊢
    have i1 := hi.1
    have i2 := hi.2.1
    have i3 : (0 : Int) ≤ ((S.getD a []).length : Int) + (S.getD b []).length - c a b := by omega
    exact Int.le_trans (Int.mul_le_mul_of_nonneg_right hm.2.2 i3) he))
  have hl2 : ∀ x ∈ GR D.length f2, x.length ≤ 8 := fun x hx => by
    obtain ⟨i, -, rfl⟩ := List.mem_map.1 (List.mem_filter.1 hx).1
    have := grp_len D.length f2 i
    omega
  have hg2 := gr_le (n := D.length) f2
  have hperm := gr_perm F2.lt
  have hso := sort_gr hperm
  have hlen := hperm.length_eq
  rw [n_len] at hlen
  have hco := compact_n D.length hn
  simp only [if_true, show ((0 : Int) != 0) = false from rfl]
  refine Gets.up ?_
  simp only [wrackkeep3_NearMerges.j1, if_neg (show ¬ (false = true) by decide)]
  refine (conc_f (GR D.length f2) (by omega) hl2).bind ?_
  rintro _ rfl
  simp only [slices_Sort_int_int.f, hlen, hso, if_pos (show D.length < 4611686018427387904 by omega), Option.bind_some, if_pos (rfl : (D.length : Int) = (D.length : Int)), slices_Compact_int_int.f, hco, bne_self_eq_false]
  refine Gets.up ?_
  simp only [wrackkeep3_NearMerges.j2, if_neg (show ¬ (false = true) by decide)]
  exact law_l1 (GR D.length f1) (GR D.length f2) (by omega) (gr_len60 hn f1) (fun g hg => gr_in F1.lt hfac hg) (gr_more F1.lt F2.lt hfac) (GR D.length f2).length 0 (Nat.zero_add _)
theorem law_l0 (l : List (List Int)) (a1 a2 : Int) (hl : l.length ≤ 8) (d : Nat) : ∀ (i : Nat) (D : List (List Int)), i + d = l.length → D.length = i → (∀ x ∈ D, x.length ≤ 40) → Gets (fun k => wrackkeep3_NearMerges.l0 k a1 a2 D l (l.length : Int) (i : Int)) (· = true) := by
  induction d with
  | zero =>
    intro i D hi hDl hD
    obtain rfl : i = l.length := by omega
    exact law_end D (by omega) hD l a1 a2 hl
  | succ d ih =>
    intro i D hi hDl hD
    have q1 : (i : Int) < (l.length : Int) := by omega
    have q2 : (0 : Int) ≤ (i : Int) := by omega
    have q3 : D.length < 5864062014805 := by omega
    have hw := w1 i l.length (by omega) (by omega)
    refine Gets.up ?_
    simp only [wrackkeep3_NearMerges.l0, hw]
    simp -implicitDefEqProofs only [if_pos q1, if_pos q2, if_pos q3]
    refine (letters_f _).bind fun t ht => ?_
    exact ih (i + 1) _ (by clear hw; omega) (by rw [List.length_append]; simp only [List.length_singleton]; clear hw; omega) (fun x hx => by
      rcases List.mem_append.1 hx with hx | hx
      · exact hD x hx
      · rw [List.mem_singleton.1 hx]; exact ht)
theorem law_f (l0 : List (List Int)) (a1 a2 : Int) : Gets (fun k => wrackkeep3_NearMerges.f k l0 a1 a2) (· = true) := by
  have h1 : mn (l0.length : Int) 8 = ((min l0.length 8 : Nat) : Int) := by unfold mn; split <;> omega
  simp only [wrackkeep3_NearMerges.f, h1, Int.toNat_natCast, Option.bind_some, if_pos (show (0 : Int) ≤ ((min l0.length 8 : Nat) : Int) by omega), if_pos (show ((min l0.length 8 : Nat) : Int) ≤ (l0.length : Int) by omega)]
  exact law_l0 (l0.take (min l0.length 8)) a1 a2 (by rw [List.length_take]; omega) _ 0 [] (by rw [Nat.zero_add]) rfl (fun x hx => by simp at hx)
end NearP
theorem NearMerges : ∀ (l0 : List (List Int)) (a1 a2 : Int), ∃ k, wrackkeep3_NearMerges.f k l0 a1 a2 = some true := by
  intro l0 a1 a2
  obtain ⟨k, r, h1, h2⟩ := (NearP.law_f l0 a1 a2).get
  refine ⟨k, ?_⟩
  rw [← h2]
  exact h1
end Go.Proofs.Ytcgflahchpeakaa.Pure
