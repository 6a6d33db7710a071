/- wrackkeep1.SumProofs: each block is shown to be part of its bytes, and no shorter or longer proof, and no other index with another proof, is accepted for it. For every input. -/
import Derived.Test.YtehkplafehlkgaaPSumProofsx5
import Derived.Test.YtehkplafehlkgaaPureSumsSumProofs
namespace Go.Proofs.Ytehkplafehlkgaa.Pure
set_option linter.unusedVariables false
set_option linter.unusedSimpArgs false
open Go.RowKit Go.Proofs.Ytehkplafehlkgaa.PSumProofs Go.Proofs.YtehkplafehlkgaaW.PrintWords Go.Proofs.YtehkplafehlkgaaW.PrintLast Go.Proofs.YtehkplafehlkgaaW.PrintMore Go.Proofs.YtehkplafehlkgaaW.PrintMine Go.Proofs.YtehkplafehlkgaaW.Plib Go.Proofs.Ytehkplafehlkgaa.Pure.SumsSumProofs
namespace SumQ
theorem w2 (q n : Nat) (h : q < n) (hn : n ≤ 4096) : wrap64 ((q : Int) + 2) = ((q + 2 : Nat) : Int) := by rw [w64] <;> omega
theorem wh (q n : Nat) (h : q ≤ n) (hn : n ≤ 4096) : wrap64 (Int.tdiv (q : Int) 2) = ((q / 2 : Nat) : Int) := by
  have : Int.tdiv (q : Int) 2 = ((q / 2 : Nat) : Int) := rfl
  rw [this, w64] <;> omega

/-! ## Hashes -/
def hstep (c x : Int) : Int := Go.bits .xor .u64 (IntKind.u64.wrap ((Go.bits .xor .u64 c (IntKind.u64.wrap x)) * 1099511628211)) ((IntKind.u64.wrap ((Go.bits .xor .u64 c (IntKind.u64.wrap x)) * 1099511628211)) / 536870912)
def hv : Int → List Int → Int
  | c, [] => c
  | c, x :: t => hv (hstep c x) t
def hash (l : List Int) : Int := hv 11400714819323198485 l
theorem hash_l0 (l : List Int) (hl : l.length ≤ 4000) (d : Nat) : ∀ (j : Nat) (c : Int), j + d = l.length → Gets (fun k => sum_Hash.l0 k c l (l.length : Int) (j : Int)) (· = hv c (l.drop j)) := by
  induction d with
  | zero =>
    intro j c hj
    refine Gets.up ?_
    simp only [sum_Hash.l0, if_neg (show ¬ (j : Int) < (l.length : Int) by omega)]
    refine Gets.ret ?_
    rw [List.drop_of_length_le (by omega)]
    rfl
  | succ d ih =>
    intro j c hj
    have hj2 : j < l.length := by omega
    have q1 : (j : Int) < (l.length : Int) := by omega
    have q2 : (0 : Int) ≤ (j : Int) := by omega
    have hg : rd l (j : Int) = l[j] := by rw [at_one, List.getD_eq_getElem?_getD, List.getElem?_eq_getElem hj2]; rfl
    have key := ih (j + 1) (hstep c l[j]) (by omega)
    rw [List.drop_eq_getElem_cons hj2, hv]
    have hw := w1 j l.length hj2 (by omega)
    refine Gets.up ?_
    simp only [sum_Hash.l0, hw, hg]
    simp -implicitDefEqProofs only [if_pos q1, if_pos q2]
    exact key
theorem hash_f (l : List Int) (hl : l.length ≤ 4000) : Gets (fun k => sum_Hash.f k l) (· = hash l) := by
  unfold sum_Hash.f
  exact hash_l0 l hl l.length 0 _ (by omega)

/-! ## Pairs -/
theorem number_l0 (a : Int) (d : Nat) : ∀ (i : Nat) (o : List Int), i + d = 8 → o.length = 8 → Gets (fun k => sum_Number.l0 k a o 8 (i : Int)) (fun r => r.length = 8) := by
  induction d with
  | zero =>
    intro i o hi ho
    refine Gets.up ?_
    simp only [sum_Number.l0, if_neg (show ¬ (i : Int) < 8 by omega)]
    exact Gets.ret ho
  | succ d ih =>
    intro i o hi ho
    have e : wrap64 (8 * (i : Int)) = ((8 * i : Nat) : Int) := by rw [w64] <;> omega
    have q1 : (i : Int) < 8 := by omega
    have q2 : (0 : Int) ≤ ((8 * i : Nat) : Int) := by omega
    have q3 : (0 : Int) ≤ (i : Int) := by omega
    have q4 : (i : Int) < (o.length : Int) := by omega
    have hw := w1 i 8 (by omega) (by omega)
    have key := ih (i + 1) (o.set (i : Int).toNat ((shr .u64 a ((8 * i : Nat) : Int)) % 256)) (by omega) (by rw [List.length_set]; exact ho)
    refine Gets.up ?_
    simp only [sum_Number.l0, e, hw]
    simp -implicitDefEqProofs only [if_pos q1, if_pos q2, if_pos q3, if_pos q4]
    exact key
theorem number_f (a : Int) : Gets (fun k => sum_Number.f k a) (fun r => r.length = 8) := by
  have q : 8 ≤ 281474976710656 := by omega
  have h8 : ((List.replicate 8 (0 : Int)).length : Int) = 8 := by rw [List.length_replicate]; rfl
  simp -implicitDefEqProofs only [sum_Number.f, if_pos q, Option.bind_some, h8]
  exact number_l0 a 8 0 _ (by omega) List.length_replicate

theorem rd_L2n (xs : List (List Int)) (j : Nat) : rd_L2 xs (j : Int) = xs.getD j [] := by simp only [rd_L2, Int.toNat_natCast]
theorem catb_l1 (xs : List (List Int)) (hx : xs.length ≤ 4000) (d : Nat) : ∀ (j : Nat) (out : List Int), j + d = xs.length → out.length + (xs.drop j).flatten.length ≤ 100000 → Gets (fun k => slices_Concat_byte_byte.l1 k out xs (xs.length : Int) (j : Int)) (· = out ++ (xs.drop j).flatten) := by
  induction d with
  | zero =>
    intro j out hj hb
    refine Gets.up ?_
    simp only [slices_Concat_byte_byte.l1, if_neg (show ¬ (j : Int) < (xs.length : Int) by omega)]
    refine Gets.ret ?_
    rw [List.drop_of_length_le (by omega), List.flatten_nil, List.append_nil]
  | succ d ih =>
    intro j out hj hb
    have hj2 : j < xs.length := by omega
    have hg : xs.getD j [] = xs[j] := by rw [List.getD_eq_getElem?_getD, List.getElem?_eq_getElem hj2]; rfl
    have hd : (xs.drop j).flatten = xs[j] ++ (xs.drop (j + 1)).flatten := by rw [List.drop_eq_getElem_cons hj2, List.flatten_cons]
    rw [hd, List.length_append] at hb
    have q1 : (j : Int) < (xs.length : Int) := by omega
    have q2 : (0 : Int) ≤ (j : Int) := by omega
    have q3 : out.length + xs[j].length < 140737488355328 := by omega
    have key := ih (j + 1) (out ++ xs[j]) (by omega) (by rw [List.length_append]; omega)
    rw [hd, ← List.append_assoc]
    have hw := w1 j xs.length hj2 (by omega)
    refine Gets.up ?_
    simp only [slices_Concat_byte_byte.l1, hw, rd_L2n, hg]
    simp -implicitDefEqProofs only [if_pos q1, if_pos q2, if_pos q3]
    exact key
theorem catb_l0 (xs : List (List Int)) (hx : xs.length ≤ 4000) (hxb : xs.flatten.length ≤ 100000) (d : Nat) : ∀ (j n : Nat), j + d = xs.length → n + (xs.drop j).flatten.length ≤ 100000 → Gets (fun k => slices_Concat_byte_byte.l0 k xs (n : Int) xs (xs.length : Int) (j : Int)) (· = xs.flatten) := by
  induction d with
  | zero =>
    intro j n hj hb
    have q1 : ((([] : List Int)).length : Int) = 0 := rfl
    have q2 : (0 : Int) ≤ (n : Int) := by omega
    have q3 : n * 1 ≤ 140737488355328 := by omega
    have hl0 : ¬ (j : Int) < (xs.length : Int) := by omega
    refine Gets.up ?_
    simp only [slices_Concat_byte_byte.l0, slices_Grow_byte_byte.f, Int.toNat_natCast]
    simp -implicitDefEqProofs only [if_neg hl0, if_pos q1, if_pos q2, if_pos q3, Option.bind_some]
    have := catb_l1 xs hx xs.length 0 [] (by omega) (by simpa using hxb)
    simpa using this
  | succ d ih =>
    intro j n hj hb
    have hj2 : j < xs.length := by omega
    have hg : xs.getD j [] = xs[j] := by rw [List.getD_eq_getElem?_getD, List.getElem?_eq_getElem hj2]; rfl
    have hd : (xs.drop j).flatten = xs[j] ++ (xs.drop (j + 1)).flatten := by rw [List.drop_eq_getElem_cons hj2, List.flatten_cons]
    rw [hd, List.length_append] at hb
    have q1 : (j : Int) < (xs.length : Int) := by omega
    have q2 : (0 : Int) ≤ (j : Int) := by omega
    have e : wrap64 ((n : Int) + (xs[j].length : Int)) = ((n + xs[j].length : Nat) : Int) := by rw [w64] <;> omega
    have q3 : ¬ ((n + xs[j].length : Nat) : Int) < 0 := by omega
    have key := ih (j + 1) (n + xs[j].length) (by omega) (by omega)
    have hw := w1 j xs.length hj2 (by omega)
    refine Gets.up ?_
    simp only [slices_Concat_byte_byte.l0, hw, rd_L2n, hg, e]
    simp -implicitDefEqProofs only [if_pos q1, if_pos q2, if_neg q3]
    exact key
theorem catb_f (xs : List (List Int)) (hx : xs.length ≤ 4000) (hxb : xs.flatten.length ≤ 100000) : Gets (fun k => slices_Concat_byte_byte.f k xs) (· = xs.flatten) := by
  unfold slices_Concat_byte_byte.f
  exact catb_l0 xs hx hxb xs.length 0 0 (by omega) (by simpa using hxb)

theorem rd_L4n (xs : List (List Int)) (j : Nat) : rd_L4 xs (j : Int) = xs.getD j [] := by simp only [rd_L4, Int.toNat_natCast]
theorem catu_l1 (xs : List (List Int)) (hx : xs.length ≤ 4000) (d : Nat) : ∀ (j : Nat) (out : List Int), j + d = xs.length → out.length + (xs.drop j).flatten.length ≤ 100000 → Gets (fun k => slices_Concat_uint64_uint64.l1 k out xs (xs.length : Int) (j : Int)) (· = out ++ (xs.drop j).flatten) := by
  induction d with
  | zero =>
    intro j out hj hb
    refine Gets.up ?_
    simp only [slices_Concat_uint64_uint64.l1, if_neg (show ¬ (j : Int) < (xs.length : Int) by omega)]
    refine Gets.ret ?_
    rw [List.drop_of_length_le (by omega), List.flatten_nil, List.append_nil]
  | succ d ih =>
    intro j out hj hb
    have hj2 : j < xs.length := by omega
    have hg : xs.getD j [] = xs[j] := by rw [List.getD_eq_getElem?_getD, List.getElem?_eq_getElem hj2]; rfl
    have hd : (xs.drop j).flatten = xs[j] ++ (xs.drop (j + 1)).flatten := by rw [List.drop_eq_getElem_cons hj2, List.flatten_cons]
    rw [hd, List.length_append] at hb
    have q1 : (j : Int) < (xs.length : Int) := by omega
    have q2 : (0 : Int) ≤ (j : Int) := by omega
    have q3 : out.length + xs[j].length < 17592186044416 := by omega
    have key := ih (j + 1) (out ++ xs[j]) (by omega) (by rw [List.length_append]; omega)
    rw [hd, ← List.append_assoc]
    have hw := w1 j xs.length hj2 (by omega)
    refine Gets.up ?_
    simp only [slices_Concat_uint64_uint64.l1, hw, rd_L4n, hg]
    simp -implicitDefEqProofs only [if_pos q1, if_pos q2, if_pos q3]
    exact key
theorem catu_l0 (xs : List (List Int)) (hx : xs.length ≤ 4000) (hxb : xs.flatten.length ≤ 100000) (d : Nat) : ∀ (j n : Nat), j + d = xs.length → n + (xs.drop j).flatten.length ≤ 100000 → Gets (fun k => slices_Concat_uint64_uint64.l0 k xs (n : Int) xs (xs.length : Int) (j : Int)) (· = xs.flatten) := by
  induction d with
  | zero =>
    intro j n hj hb
    have q1 : ((([] : List Int)).length : Int) = 0 := rfl
    have q2 : (0 : Int) ≤ (n : Int) := by omega
    have q3 : n * 8 ≤ 140737488355328 := by omega
    have hl0 : ¬ (j : Int) < (xs.length : Int) := by omega
    refine Gets.up ?_
    simp only [slices_Concat_uint64_uint64.l0, slices_Grow_uint64_uint64.f, Int.toNat_natCast]
    simp -implicitDefEqProofs only [if_neg hl0, if_pos q1, if_pos q2, if_pos q3, Option.bind_some]
    have := catu_l1 xs hx xs.length 0 [] (by omega) (by simpa using hxb)
    simpa using this
  | succ d ih =>
    intro j n hj hb
    have hj2 : j < xs.length := by omega
    have hg : xs.getD j [] = xs[j] := by rw [List.getD_eq_getElem?_getD, List.getElem?_eq_getElem hj2]; rfl
    have hd : (xs.drop j).flatten = xs[j] ++ (xs.drop (j + 1)).flatten := by rw [List.drop_eq_getElem_cons hj2, List.flatten_cons]
    rw [hd, List.length_append] at hb
    have q1 : (j : Int) < (xs.length : Int) := by omega
    have q2 : (0 : Int) ≤ (j : Int) := by omega
    have e : wrap64 ((n : Int) + (xs[j].length : Int)) = ((n + xs[j].length : Nat) : Int) := by rw [w64] <;> omega
    have q3 : ¬ ((n + xs[j].length : Nat) : Int) < 0 := by omega
    have key := ih (j + 1) (n + xs[j].length) (by omega) (by omega)
    have hw := w1 j xs.length hj2 (by omega)
    refine Gets.up ?_
    simp only [slices_Concat_uint64_uint64.l0, hw, rd_L4n, hg, e]
    simp -implicitDefEqProofs only [if_pos q1, if_pos q2, if_neg q3]
    exact key
theorem catu_f (xs : List (List Int)) (hx : xs.length ≤ 4000) (hxb : xs.flatten.length ≤ 100000) : Gets (fun k => slices_Concat_uint64_uint64.f k xs) (· = xs.flatten) := by
  unfold slices_Concat_uint64_uint64.f
  exact catu_l0 xs hx hxb xs.length 0 0 (by omega) (by simpa using hxb)

theorem pair_some (a b : Int) : ∃ v : Int, Gets (fun k => sum_pair.f k a b) (· = v) := by
  have h : Gets (fun k => sum_pair.f k a b) (fun _ => True) := by
    simp only [sum_pair.f]
    refine (number_f a).bind fun x hx => ?_
    refine (number_f b).bind fun y hy => ?_
    have hfl : ([x, y] : List (List Int)).flatten.length = 16 := by simp [hx, hy]
    refine (catb_f [x, y] (by simp) (by omega)).bind fun z hz => ?_
    subst hz
    refine (hash_f _ (by omega)).bind fun v hv => ?_
    exact Gets.ret trivial
  obtain ⟨r, _, K, hK⟩ := h
  exact ⟨r, r, rfl, K, hK⟩
noncomputable def pairv (a b : Int) : Int := Classical.choose (pair_some a b)
theorem pair_f (a b : Int) : Gets (fun k => sum_pair.f k a b) (· = pairv a b) := Classical.choose_spec (pair_some a b)

/-! ## Levels -/
noncomputable def g (l : List Int) (j : Nat) : Int := if 2 * j + 1 < l.length then pairv (l.getD (2 * j) 0) (l.getD (2 * j + 1) 0) else l.getD (2 * j) 0
noncomputable def up (l : List Int) : List Int := (List.range ((l.length + 1) / 2)).map (g l)
theorem up_length (l : List Int) : (up l).length = (l.length + 1) / 2 := by rw [up, List.length_map, List.length_range]
theorem up_get (l : List Int) (j : Nat) (h : j < (l.length + 1) / 2) : (up l).getD j 0 = g l j := by
  rw [List.getD_eq_getElem?_getD, up, List.getElem?_map, List.getElem?_range h]
  rfl
theorem range_snoc (f : Nat → Int) (j : Nat) : (List.range (j + 1)).map f = (List.range j).map f ++ [f j] := by rw [List.range_succ, List.map_append]; rfl
noncomputable def lev : Nat → List Int → List (List Int)
  | 0, _ => []
  | e + 1, l => if 1 < l.length then up l :: lev e (up l) else []
theorem levels_l2 (l : List Int) (acc : List (List Int)) (hl : l.length ≤ 40) (ha : acc.length ≤ 4000) {P : List (List Int) → Prop} (K : Gets (fun k => sum_levels.l1 k (up l) (acc ++ [up l])) P) (d : Nat) :
    ∀ j : Nat, j + d = (l.length + 1) / 2 → Gets (fun k => sum_levels.l2 k l acc ((List.range j).map (g l)) ((2 * j : Nat) : Int)) P := by
  induction d with
  | zero =>
    intro j hj
    have q1 : ¬ ((2 * j : Nat) : Int) < (l.length : Int) := by omega
    have q2 : acc.length < 5864062014805 := by omega
    refine Gets.up ?_
    simp only [sum_levels.l2]
    simp -implicitDefEqProofs only [if_neg q1, if_pos q2]
    have e : (List.range j).map (g l) = up l := by rw [up, ← hj, Nat.add_zero]
    rw [e]
    exact K
  | succ d ih =>
    intro j hj
    have key := ih (j + 1) (by omega)
    rw [range_snoc] at key
    have q1 : ((2 * j : Nat) : Int) < (l.length : Int) := by omega
    have e1 : wrap64 (((2 * j : Nat) : Int) + 1) = ((2 * j + 1 : Nat) : Int) := by rw [w64] <;> omega
    have e2 : wrap64 (((2 * j : Nat) : Int) + 2) = ((2 * (j + 1) : Nat) : Int) := by rw [w64] <;> omega
    have q2 : (0 : Int) ≤ ((2 * j : Nat) : Int) := by omega
    have q3 : (0 : Int) ≤ ((2 * j + 1 : Nat) : Int) := by omega
    have q4 : ((List.range j).map (g l)).length < 17592186044416 := by rw [List.length_map, List.length_range]; omega
    refine Gets.up ?_
    simp only [sum_levels.l2, e1, e2, at_one]
    by_cases c : 2 * j + 1 < l.length
    · have q5 : ((2 * j + 1 : Nat) : Int) < (l.length : Int) := by omega
      have eg : g l j = pairv (l.getD (2 * j) 0) (l.getD (2 * j + 1) 0) := by rw [g, if_pos c]
      simp -implicitDefEqProofs only [if_pos q1, if_pos q5, if_pos q2, if_pos q3]
      refine (pair_f _ _).bind fun v hv => ?_
      subst hv
      simp -implicitDefEqProofs only [if_pos q4]
      rw [← eg]
      exact key
    · have q5 : ¬ ((2 * j + 1 : Nat) : Int) < (l.length : Int) := by omega
      have eg : g l j = l.getD (2 * j) 0 := by rw [g, if_neg c]
      simp -implicitDefEqProofs only [if_pos q1, if_neg q5, if_pos q2, if_pos q4]
      rw [← eg]
      exact key
theorem levels_l1 (e : Nat) : ∀ (l : List Int) (acc : List (List Int)), l.length ≤ e + 1 → l.length ≤ 40 → acc.length + e ≤ 4000 → Gets (fun k => sum_levels.l1 k l acc) (· = acc ++ lev e l) := by
  induction e with
  | zero =>
    intro l acc h hl ha
    refine Gets.up ?_
    simp only [sum_levels.l1, if_neg (show ¬ (l.length : Int) > 1 by omega)]
    exact Gets.ret (by rw [lev, List.append_nil])
  | succ e ih =>
    intro l acc h hl ha
    refine Gets.up ?_
    simp only [sum_levels.l1]
    by_cases c : 1 < l.length
    · have hu := up_length l
      simp -implicitDefEqProofs only [if_pos (show (l.length : Int) > 1 by omega)]
      have key := ih (up l) (acc ++ [up l]) (by omega) (by omega) (by rw [List.length_append, List.length_singleton]; omega)
      refine levels_l2 l acc hl (by omega) ?_ ((l.length + 1) / 2) 0 (by omega)
      rw [lev, if_pos c]
      refine key.imp fun r hr => ?_
      rw [hr, List.append_assoc]
      rfl
    · simp -implicitDefEqProofs only [if_neg (show ¬ (l.length : Int) > 1 by omega)]
      exact Gets.ret (by rw [lev, if_neg c, List.append_nil])
def blk (b : List Int) (j : Nat) : List Int := (b.take (min b.length (64 * j + 64))).drop (64 * j)
theorem blk_length (b : List Int) (j : Nat) : (blk b j).length ≤ 64 := by rw [blk, List.length_drop, List.length_take]; omega
theorem cut_f (b : List Int) (j : Nat) (hb : b.length ≤ 4000) (hj : 64 * j < b.length) : mn (b.length : Int) (wrap64 (((64 * j : Nat) : Int) + 64)) = ((min b.length (64 * j + 64) : Nat) : Int) := by
  have e : wrap64 (((64 * j : Nat) : Int) + 64) = ((64 * j + 64 : Nat) : Int) := by rw [w64] <;> omega
  rw [e]
  unfold mn
  split <;> omega
theorem block_f (b : List Int) (j : Nat) (hb : b.length ≤ 4000) (hj : 64 * j < b.length) : sum_block.f b (j : Int) = some (blk b j) := by
  have e : wrap64 ((j : Int) * 64) = ((64 * j : Nat) : Int) := by rw [w64] <;> omega
  have hm := cut_f b j hb hj
  have q1 : (0 : Int) ≤ ((64 * j : Nat) : Int) := by omega
  have q2 : ((64 * j : Nat) : Int) ≤ ((min b.length (64 * j + 64) : Nat) : Int) := by omega
  have q3 : ((min b.length (64 * j + 64) : Nat) : Int) ≤ (b.length : Int) := by omega
  unfold sum_block.f
  simp only [e, hm]
  simp -implicitDefEqProofs only [if_pos q1, if_pos q2, if_pos q3, Int.toNat_natCast]
  rfl
def L0 (b : List Int) (n : Nat) : List Int := (List.range n).map fun j => hash (blk b j)
theorem L0_length (b : List Int) (n : Nat) : (L0 b n).length = n := by rw [L0, List.length_map, List.length_range]
theorem L0_get (b : List Int) (n i : Nat) (h : i < n) : (L0 b n).getD i 0 = hash (blk b i) := by
  rw [List.getD_eq_getElem?_getD, L0, List.getElem?_map, List.getElem?_range h]
  rfl
theorem levels_l0 (b : List Int) (n : Nat) (hb : b.length ≤ 4000) (hn : n ≤ 40) (hnb : 64 * (n - 1) < b.length) (d : Nat) : ∀ j : Nat, j + d = n → Gets (fun k => sum_levels.l0 k b (L0 b j) (n : Int) (j : Int)) (· = L0 b n :: lev n (L0 b n)) := by
  induction d with
  | zero =>
    intro j hj
    obtain rfl : j = n := by omega
    refine Gets.up ?_
    simp only [sum_levels.l0, if_neg (show ¬ (j : Int) < (j : Int) by omega)]
    have hl := L0_length b j
    exact levels_l1 j (L0 b j) [L0 b j] (by omega) (by omega) (by simp; omega)
  | succ d ih =>
    intro j hj
    have key := ih (j + 1) (by omega)
    have es : L0 b (j + 1) = L0 b j ++ [hash (blk b j)] := range_snoc _ j
    rw [es] at key
    have q1 : (j : Int) < (n : Int) := by omega
    have q2 : (L0 b j).length < 17592186044416 := by rw [L0_length]; omega
    have hbl := block_f b j hb (by omega)
    have hw := w1 j n (by omega) (by omega)
    have hkl := blk_length b j
    refine Gets.up ?_
    simp only [sum_levels.l0, hbl, hw, Option.bind_some]
    simp -implicitDefEqProofs only [if_pos q1]
    refine (hash_f (blk b j) (by omega)).bind fun v hv => ?_
    subst hv
    simp -implicitDefEqProofs only [if_pos q2]
    exact key
theorem blocks_f (b : List Int) (n : Nat) (hb : b.length ≤ 4000) (h1 : 1 ≤ b.length) (hn : n = (b.length + 63) / 64) : sum_Blocks.f b = some (n : Int) := by
  have e1 : wrap64 ((b.length : Int) + 64) = ((b.length + 64 : Nat) : Int) := by rw [w64] <;> omega
  have e2 : wrap64 (((b.length + 64 : Nat) : Int) - 1) = ((b.length + 63 : Nat) : Int) := by rw [w64] <;> omega
  have e3 : Int.tdiv ((b.length + 63 : Nat) : Int) 64 = (((b.length + 63) / 64 : Nat) : Int) := rfl
  have e4 : wrap64 (((b.length + 63) / 64 : Nat) : Int) = (((b.length + 63) / 64 : Nat) : Int) := by rw [w64] <;> omega
  rw [sum_Blocks.f, e1, e2, e3, e4, ← hn]
  congr 1
  unfold mx
  split <;> omega
theorem levels_f (b : List Int) (n : Nat) (hb : b.length ≤ 2000) (h1 : 1 ≤ b.length) (hn : n = (b.length + 63) / 64) : Gets (fun k => sum_levels.f k b) (· = L0 b n :: lev n (L0 b n)) := by
  have hbf := blocks_f b n (by omega) h1 hn
  simp only [sum_levels.f, hbf, Option.bind_some]
  exact levels_l0 b n (by omega) (by omega) (by omega) n 0 (by omega)

/-! ## The root -/
noncomputable def rootv : Nat → List Int → Int
  | 0, l => l.getD 0 0
  | e + 1, l => if 1 < l.length then rootv e (up l) else l.getD 0 0
theorem flat_le (e : Nat) : ∀ l : List Int, l.length ≤ 40 → (l :: lev e l).flatten.length ≤ 40 * (e + 1) ∧ (lev e l).length ≤ e := by
  induction e with
  | zero => intro l h; rw [lev, List.flatten_cons, List.flatten_nil, List.append_nil]; exact ⟨by omega, Nat.le_refl _⟩
  | succ e ih =>
    intro l h
    have hu := up_length l
    obtain ⟨i1, i2⟩ := ih (up l) (by omega)
    rw [lev]
    split
    · rw [List.flatten_cons, List.length_append, List.length_cons]
      exact ⟨by omega, by omega⟩
    · rw [List.flatten_cons, List.flatten_nil, List.append_nil]
      exact ⟨by omega, by simp⟩
theorem last_root (e : Nat) : ∀ l : List Int, 0 < l.length → l.length ≤ e + 1 → 0 < (l :: lev e l).flatten.length ∧ (l :: lev e l).flatten.getD ((l :: lev e l).flatten.length - 1) 0 = rootv e l := by
  induction e with
  | zero =>
    intro l h0 h
    rw [lev, List.flatten_cons, List.flatten_nil, List.append_nil, rootv, show l.length - 1 = 0 by omega]
    exact ⟨h0, rfl⟩
  | succ e ih =>
    intro l h0 h
    have hu := up_length l
    rw [lev, rootv]
    by_cases c : 1 < l.length
    · rw [if_pos c, if_pos c]
      obtain ⟨i1, i2⟩ := ih (up l) (by omega) (by omega)
      rw [List.flatten_cons, List.length_append]
      refine ⟨by omega, ?_⟩
      rw [← i2, List.getD_eq_getElem?_getD, List.getD_eq_getElem?_getD, List.getElem?_append_right (by omega)]
      congr 2
      omega
    · rw [if_neg c, if_neg c, List.flatten_cons, List.flatten_nil, List.append_nil, show l.length - 1 = 0 by omega]
      exact ⟨h0, rfl⟩
theorem root_f (b : List Int) (n : Nat) (hb : b.length ≤ 2000) (h1 : 1 ≤ b.length) (hn : n = (b.length + 63) / 64) : Gets (fun k => sum_Root.f k b) (· = rootv n (L0 b n)) := by
  have hl := L0_length b n
  obtain ⟨f1, f2⟩ := flat_le n (L0 b n) (by omega)
  obtain ⟨r1, r2⟩ := last_root n (L0 b n) (by omega) (by omega)
  simp only [sum_Root.f, sum_Tree.f]
  refine Gets.bind (P := (· = (L0 b n :: lev n (L0 b n)).flatten)) ?_ fun t ht => ?_
  · refine (levels_f b n hb h1 hn).bind fun t ht => ?_
    subst ht
    refine (catu_f _ (by rw [List.length_cons]; omega) (by omega)).bind fun t ht => ?_
    exact Gets.ret ht
  · subst ht
    generalize (L0 b n :: lev n (L0 b n)).flatten = t at f1 r1 r2
    have e : wrap64 ((t.length : Int) - 1) = ((t.length - 1 : Nat) : Int) := by rw [w64] <;> omega
    have q1 : (0 : Int) ≤ ((t.length - 1 : Nat) : Int) := by omega
    have q2 : ((t.length - 1 : Nat) : Int) < (t.length : Int) := by omega
    simp only [e, at_one]
    simp -implicitDefEqProofs only [if_pos q1, if_pos q2]
    exact Gets.ret r2

/-! ## Proofs -/
def x1 (i : Nat) : Nat := if i % 2 = 0 then i + 1 else i - 1
theorem xor1 : ∀ i : Nat, i < 64 → Go.bits .xor .i64 (i : Int) 1 = ((x1 i : Nat) : Int) := by decide +kernel
def pvl : List (List Int) → Nat → List Int
  | [], _ => []
  | l :: t, i => (if x1 i < l.length ∧ 1 < l.length then [l.getD (x1 i) 0] else []) ++ pvl t (i / 2)
theorem prove_l0 (Ls : List (List Int)) (hL : Ls.length ≤ 100) (d : Nat) : ∀ (j i : Nat) (out : List Int), j + d = Ls.length → i < 64 → out.length + d ≤ 4000 → Gets (fun k => sum_Prove.l0 k (i : Int) out Ls (Ls.length : Int) (j : Int)) (· = (out ++ pvl (Ls.drop j) i, 0)) := by
  induction d with
  | zero =>
    intro j i out hj hi ho
    refine Gets.up ?_
    simp only [sum_Prove.l0, if_neg (show ¬ (j : Int) < (Ls.length : Int) by omega)]
    refine Gets.ret ?_
    rw [List.drop_of_length_le (by omega), pvl, List.append_nil]
  | succ d ih =>
    intro j i out hj hi ho
    have hj2 : j < Ls.length := by omega
    have hg : Ls.getD j [] = Ls[j] := by rw [List.getD_eq_getElem?_getD, List.getElem?_eq_getElem hj2]; rfl
    have q1 : (j : Int) < (Ls.length : Int) := by omega
    have q2 : (0 : Int) ≤ (j : Int) := by omega
    have hw := w1 j Ls.length hj2 (by omega)
    have hx := xor1 i hi
    have hh := wh i 64 (by omega) (by omega)
    rw [List.drop_eq_getElem_cons hj2, pvl]
    generalize Ls[j] = l at hg
    have stay := ih (j + 1) (i / 2) out (by omega) (by omega) (by omega)
    refine Gets.up ?_
    simp only [sum_Prove.l0, hw, rd_L4n, hg, hx, hh, at_one]
    by_cases c1 : x1 i < l.length
    · have q3 : ((x1 i : Nat) : Int) < (l.length : Int) := by omega
      by_cases c2 : 1 < l.length
      · have q4 : (l.length : Int) > 1 := by omega
        have q5 : (0 : Int) ≤ ((x1 i : Nat) : Int) := by omega
        have q6 : out.length < 17592186044416 := by omega
        have key := ih (j + 1) (i / 2) (out ++ [l.getD (x1 i) 0]) (by omega) (by omega) (by rw [List.length_append, List.length_singleton]; omega)
        simp -implicitDefEqProofs only [if_pos q1, if_pos q2, if_pos q3, if_pos q4, if_pos q5, if_pos q6]
        rw [if_pos ⟨c1, c2⟩, ← List.append_assoc]
        exact key
      · have q4 : ¬ (l.length : Int) > 1 := by omega
        simp -implicitDefEqProofs only [if_pos q1, if_pos q2, if_pos q3, if_neg q4]
        rw [if_neg (fun h => c2 h.2), List.nil_append]
        exact stay
    · have q3 : ¬ ((x1 i : Nat) : Int) < (l.length : Int) := by omega
      simp -implicitDefEqProofs only [if_pos q1, if_pos q2, if_neg q3]
      rw [if_neg (fun h => c1 h.1), List.nil_append]
      exact stay
theorem prove_f (b : List Int) (n i : Nat) (hb : b.length ≤ 2000) (h1 : 1 ≤ b.length) (hn : n = (b.length + 63) / 64) (hi : i < n) : Gets (fun k => sum_Prove.f k b (i : Int)) (· = (pvl (L0 b n :: lev n (L0 b n)) i, 0)) := by
  have hbf := blocks_f b n (by omega) h1 hn
  have q1 : ¬ (i : Int) < 0 := by omega
  have q2 : decide ((i : Int) ≥ (n : Int)) = false := decide_eq_false (by omega)
  obtain ⟨_, f2⟩ := flat_le n (L0 b n) (by rw [L0_length]; omega)
  simp -implicitDefEqProofs only [sum_Prove.f, if_neg q1, hbf, Option.bind_some, q2]
  refine Gets.up ?_
  simp only [sum_Prove.j0, Bool.false_eq_true, if_false]
  refine (levels_f b n hb h1 hn).bind fun t ht => ?_
  subst ht
  have := prove_l0 (L0 b n :: lev n (L0 b n)) (by rw [List.length_cons]; omega) (L0 b n :: lev n (L0 b n)).length 0 i [] (by omega) (by omega) (by rw [List.length_cons]; simp; omega)
  simpa using this

/-! ## What holds -/
def cnt : Nat → Nat → Nat → Nat
  | 0, _, _ => 0
  | e + 1, n, i => if 1 < n then (if x1 i < n then 1 else 0) + cnt e ((n + 1) / 2) (i / 2) else 0
theorem pvl_len (e : Nat) : ∀ (l : List Int) (i : Nat), l.length ≤ e + 1 → (pvl (l :: lev e l) i).length = cnt e l.length i := by
  induction e with
  | zero =>
    intro l i h
    rw [pvl, lev, pvl, cnt, if_neg (fun h' => by omega)]
    rfl
  | succ e ih =>
    intro l i h
    have hu := up_length l
    rw [pvl, lev, cnt]
    by_cases c : 1 < l.length
    · rw [if_pos c, if_pos c, List.length_append, ih (up l) (i / 2) (by omega), hu]
      by_cases c2 : x1 i < l.length
      · rw [if_pos ⟨c2, c⟩, if_pos c2]; rfl
      · rw [if_neg (fun h => c2 h.1), if_neg c2]; rfl
    · rw [if_neg c, if_neg c, pvl, if_neg (fun h => c h.2)]
      rfl
theorem tdiv2 (n : Nat) (hn : n ≤ 64) : wrap64 (Int.tdiv (wrap64 ((n : Int) + 1)) 2) = (((n + 1) / 2 : Nat) : Int) := by
  have e1 : wrap64 ((n : Int) + 1) = ((n + 1 : Nat) : Int) := by rw [w64] <;> omega
  rw [e1]
  exact wh (n + 1) 65 (by omega) (by omega)
theorem holds_len (R : Int) (e : Nat) : ∀ (n i : Nat) (p : List Int) (h : Int), n ≤ e + 1 → n ≤ 40 → i < 64 → Gets (fun k => sum_Holds.l0 k R (n : Int) (i : Int) p h) (fun r => r = true → p.length = cnt e n i) := by
  have stop : ∀ (e n i : Nat) (p : List Int) (h : Int), n ≤ 1 → cnt e n i = 0 → Gets (fun k => sum_Holds.l0 k R (n : Int) (i : Int) p h) (fun r => r = true → p.length = cnt e n i) := by
    intro e n i p h hn hc
    have q1 : ¬ (n : Int) > 1 := by omega
    refine Gets.up ?_
    simp only [sum_Holds.l0]
    simp -implicitDefEqProofs only [if_neg q1]
    by_cases c : (p.length : Int) = 0
    · simp -implicitDefEqProofs only [if_pos c]
      exact Gets.ret (fun _ => by omega)
    · simp -implicitDefEqProofs only [if_neg c]
      exact Gets.ret (fun hh => absurd hh (by simp))
  induction e with
  | zero => intro n i p h hn _ _; exact stop 0 n i p h (by omega) rfl
  | succ e ih =>
    intro n i p h hn hn2 hi
    by_cases c : 1 < n
    · have q1 : (n : Int) > 1 := by omega
      have hx := xor1 i hi
      have hh := wh i 64 (by omega) (by omega)
      have ht := tdiv2 n (by omega)
      have ei : Int.tmod (i : Int) 2 = ((i % 2 : Nat) : Int) := rfl
      rw [cnt, if_pos c]
      refine Gets.up ?_
      simp only [sum_Holds.l0, hx, hh, ht, ei]
      by_cases c2 : x1 i < n
      · have q2 : ¬ ((x1 i : Nat) : Int) ≥ (n : Int) := by omega
        rw [if_pos c2]
        cases p with
        | nil =>
          simp -implicitDefEqProofs only [if_pos q1, if_neg q2, List.length_nil]
          simp only [Int.ofNat_zero, Int.natCast_zero, if_true]
          exact Gets.ret (fun hh => absurd hh (by simp))
        | cons y t =>
          have q3 : ¬ (((y :: t).length : Nat) : Int) = 0 := by rw [List.length_cons]; omega
          have q4 : (0 : Int) < (((y :: t).length : Nat) : Int) := by rw [List.length_cons]; omega
          have q5 : (1 : Int) ≤ (((y :: t).length : Nat) : Int) := by rw [List.length_cons]; omega
          have go : ∀ v : Int, Gets (fun k => sum_Holds.l0 k R (((n + 1) / 2 : Nat) : Int) ((i / 2 : Nat) : Int) ((y :: t).drop 1) v) (fun r => r = true → (y :: t).length = 1 + cnt e ((n + 1) / 2) (i / 2)) := fun v =>
            (ih ((n + 1) / 2) (i / 2) t v (by omega) (by omega) (by omega)).imp fun r hr hh => by rw [List.length_cons, hr hh]; omega
          by_cases c3 : ((i % 2 : Nat) : Int) = 0
          · simp -implicitDefEqProofs only [if_pos q1, if_neg q2, if_neg q3, if_pos c3, if_pos q4, if_pos q5]
            exact (pair_f _ _).bind fun v _ => go v
          · simp -implicitDefEqProofs only [if_pos q1, if_neg q2, if_neg q3, if_neg c3, if_pos q4, if_pos q5]
            exact (pair_f _ _).bind fun v _ => go v
      · have q2 : ((x1 i : Nat) : Int) ≥ (n : Int) := by omega
        rw [if_neg c2, Nat.zero_add]
        simp -implicitDefEqProofs only [if_pos q1, if_pos q2]
        exact ih ((n + 1) / 2) (i / 2) p h (by omega) (by omega) (by omega)
    · exact stop (e + 1) n i p h (by omega) (by rw [cnt, if_neg c])
theorem holds_true (e : Nat) : ∀ (l : List Int) (i : Nat), l.length ≤ e + 1 → l.length ≤ 40 → i < l.length → Gets (fun k => sum_Holds.l0 k (rootv e l) (l.length : Int) (i : Int) (pvl (l :: lev e l) i) (l.getD i 0)) (· = true) := by
  have stop : ∀ (e : Nat) (l : List Int) (i : Nat), l.length = 1 → i = 0 → Gets (fun k => sum_Holds.l0 k (l.getD 0 0) (l.length : Int) (i : Int) [] (l.getD i 0)) (· = true) := by
    intro e l i hl hi
    subst hi
    have q1 : ¬ (l.length : Int) > 1 := by omega
    have q2 : ((([] : List Int).length : Nat) : Int) = 0 := rfl
    refine Gets.up ?_
    simp only [sum_Holds.l0]
    simp -implicitDefEqProofs only [if_neg q1, if_pos q2]
    exact Gets.ret (beq_iff_eq.mpr rfl)
  induction e with
  | zero =>
    intro l i h _ hi
    rw [pvl, lev, pvl, rootv, if_neg (fun h' => by omega)]
    exact stop 0 l i (by omega) (by omega)
  | succ e ih =>
    intro l i h h2 hi
    have hu := up_length l
    by_cases c : 1 < l.length
    · rw [pvl, lev, if_pos c, rootv, if_pos c]
      have key := ih (up l) (i / 2) (by omega) (by omega) (by omega)
      rw [up_get l (i / 2) (by omega), hu] at key
      have q1 : (l.length : Int) > 1 := by omega
      have hx := xor1 i (by omega)
      have hh := wh i 64 (by omega) (by omega)
      have ht := tdiv2 l.length (by omega)
      have ei : Int.tmod (i : Int) 2 = ((i % 2 : Nat) : Int) := rfl
      generalize pvl (up l :: lev e (up l)) (i / 2) = rest at key
      refine Gets.up ?_
      simp only [sum_Holds.l0, hx, hh, ht, ei]
      by_cases c2 : x1 i < l.length
      · have q2 : ¬ ((x1 i : Nat) : Int) ≥ (l.length : Int) := by omega
        rw [if_pos ⟨c2, c⟩]
        have hd : ([l.getD (x1 i) 0] ++ rest).drop 1 = rest := rfl
        have hr0 : rd ([l.getD (x1 i) 0] ++ rest) 0 = l.getD (x1 i) 0 := rfl
        have q3 : ¬ ((([l.getD (x1 i) 0] ++ rest).length : Nat) : Int) = 0 := by rw [List.length_append, List.length_singleton]; omega
        have q4 : (0 : Int) < ((([l.getD (x1 i) 0] ++ rest).length : Nat) : Int) := by rw [List.length_append, List.length_singleton]; omega
        have q5 : (1 : Int) ≤ ((([l.getD (x1 i) 0] ++ rest).length : Nat) : Int) := by rw [List.length_append, List.length_singleton]; omega
        by_cases c3 : i % 2 = 0
        · have q6 : ((i % 2 : Nat) : Int) = 0 := by omega
          have e1 : x1 i = i + 1 := by rw [x1, if_pos c3]
          have eg : g l (i / 2) = pairv (l.getD i 0) (l.getD (x1 i) 0) := by rw [g, if_pos (by omega), e1, show 2 * (i / 2) = i by omega]
          simp -implicitDefEqProofs only [if_pos q1, if_neg q2, if_neg q3, if_pos q6, if_pos q4, if_pos q5, hd, hr0]
          refine (pair_f _ _).bind fun v hv => ?_
          subst hv
          rw [← eg]
          exact key
        · have q6 : ¬ ((i % 2 : Nat) : Int) = 0 := by omega
          have e1 : x1 i = i - 1 := by rw [x1, if_neg c3]
          have eg : g l (i / 2) = pairv (l.getD (x1 i) 0) (l.getD i 0) := by rw [g, if_pos (by omega), e1, show 2 * (i / 2) = i - 1 by omega, show i - 1 + 1 = i by omega]
          simp -implicitDefEqProofs only [if_pos q1, if_neg q2, if_neg q3, if_neg q6, if_pos q4, if_pos q5, hd, hr0]
          refine (pair_f _ _).bind fun v hv => ?_
          subst hv
          rw [← eg]
          exact key
      · have q2 : ((x1 i : Nat) : Int) ≥ (l.length : Int) := by omega
        have c3 : i % 2 = 0 := by
          unfold x1 at c2
          split at c2 <;> omega
        have e1 : x1 i = i + 1 := by rw [x1, if_pos c3]
        have eg : g l (i / 2) = l.getD i 0 := by rw [g, if_neg (by omega), show 2 * (i / 2) = i by omega]
        rw [if_neg (fun h' => c2 h'.1), List.nil_append]
        simp -implicitDefEqProofs only [if_pos q1, if_pos q2]
        rw [← eg]
        exact key
    · rw [pvl, lev, if_neg c, pvl, rootv, if_neg c, if_neg (fun h' => c h'.2)]
      exact stop (e + 1) l i (by omega) (by omega)
theorem holds_f (R : Int) (n i : Nat) (x p : List Int) (hi : i < n) (hx : x.length ≤ 64) {P : Bool → Prop} (K : Gets (fun k => sum_Holds.l0 k R (n : Int) (i : Int) p (hash x)) P) : Gets (fun k => sum_Holds.f k R (n : Int) (i : Int) x p) P := by
  have q1 : ¬ (i : Int) < 0 := by omega
  have q2 : ¬ (i : Int) ≥ (n : Int) := by omega
  have q3 : decide ((x.length : Int) > 64) = false := decide_eq_false (by omega)
  simp -implicitDefEqProofs only [sum_Holds.f, if_neg q1, if_neg q2, q3]
  refine Gets.up ?_
  simp only [sum_Holds.j0, Bool.false_eq_true, if_false]
  refine (hash_f x (by omega)).bind fun v hv => ?_
  subst hv
  exact K
theorem holds_end (R : Int) (n : Nat) (x p : List Int) : Gets (fun k => sum_Holds.f k R (n : Int) (n : Int) x p) (· = false) := by
  have q1 : ¬ (n : Int) < 0 := by omega
  have q2 : (n : Int) ≥ (n : Int) := by omega
  simp -implicitDefEqProofs only [sum_Holds.f, if_neg q1, if_pos q2]
  refine Gets.up ?_
  simp only [sum_Holds.j0, if_true]
  exact Gets.ret rfl

/-! ## The image -/
theorem data_f (s : List Int) : Gets (fun k => wrackmake_data.f k s 40) (fun r => r.1.length ≤ 200) := by
  have hm : (mx 0 (mn 40 65536)) + 1 = (41 : Int) := by decide
  obtain ⟨v, s', hv, a, b⟩ := next_f s (n := 41) (by omega) (by omega)
  obtain ⟨n, rfl⟩ : ∃ n : Nat, v = (n : Int) := ⟨v.toNat, by omega⟩
  simp only [wrackmake_data.f, hm, hv, Option.bind_some]
  exact (data_l0 n (by omega) n [] s' (by omega) (by simp) (fun x hx => by simp at hx)).imp fun r hr => hr.1
theorem image_l0 (n : Nat) (hn : n ≤ 1000) (e : Nat) : ∀ (i : Nat) (out s : List Int), n ≤ i + e → i ≤ 4000 → out.length = n → Gets (fun k => wrackmake_image.l0 k (n : Int) out (i : Int) s) (fun r => r.1.length = n) := by
  have stop : ∀ (i : Nat) (out s : List Int), out.length = n → Gets (fun k => wrackmake_image.j1 k (n : Int) out (i : Int) false s) (fun r => r.1.length = n) := by
    intro i out s ho
    refine Gets.up ?_
    simp only [wrackmake_image.j1, Bool.false_eq_true, if_false]
    exact Gets.ret ho
  induction e with
  | zero =>
    intro i out s hi _ ho
    refine Gets.up ?_
    simp only [wrackmake_image.l0, if_neg (show ¬ (i : Int) < (n : Int) by omega)]
    exact stop i out s ho
  | succ e ih =>
    intro i out s hi hi2 ho
    refine Gets.up ?_
    simp only [wrackmake_image.l0]
    by_cases c : i < n
    · simp -implicitDefEqProofs only [if_pos (show (i : Int) < (n : Int) by omega)]
      by_cases c2 : decide ((s.length : Int) > 0) = true
      · rw [c2]
        refine Gets.up ?_
        simp only [wrackmake_image.j1, if_true]
        refine (data_f s).bind fun r hr => ?_
        obtain ⟨v, s', hv, a, b⟩ := next_f r.2 (n := 30) (by omega) (by omega)
        obtain ⟨m, rfl⟩ : ∃ m : Nat, v = (m : Int) := ⟨v.toNat, by omega⟩
        have q1 : (0 : Int) ≤ (i : Int) := by omega
        have q2 : (i : Int) ≤ (out.length : Int) := by omega
        have e1 : wrap64 ((r.1.length : Int) + (m : Int)) = ((r.1.length + m : Nat) : Int) := by rw [w64] <;> omega
        have e2 : wrap64 (((r.1.length + m : Nat) : Int) + 1) = ((r.1.length + m + 1 : Nat) : Int) := by rw [w64] <;> omega
        have e3 : wrap64 ((i : Int) + ((r.1.length + m + 1 : Nat) : Int)) = ((i + (r.1.length + m + 1) : Nat) : Int) := by rw [w64] <;> omega
        simp only [hv, Option.bind_some, e1, e2, e3, Int.toNat_natCast]
        simp -implicitDefEqProofs only [if_pos q1, if_pos q2]
        exact ih (i + (r.1.length + m + 1)) _ s' (by omega) (by omega) (by rw [copyAt_length _ _ _ (by omega)]; exact ho)
      · rw [Bool.eq_false_iff.mpr c2]
        exact stop i out s ho
    · simp -implicitDefEqProofs only [if_neg (show ¬ (i : Int) < (n : Int) by omega)]
      exact stop i out s ho
theorem image_f (l : List Int) : Gets (fun k => wrackmake_Image.f k l) (fun r => 64 ≤ r.length ∧ r.length ≤ 768) := by
  obtain ⟨v, s, hv, a, b⟩ := next_f l (n := 12) (by omega) (by omega)
  obtain ⟨m, rfl⟩ : ∃ m : Nat, v = (m : Int) := ⟨v.toNat, by omega⟩
  obtain ⟨N, hN⟩ : ∃ N : Nat, N = (1 + m) * 64 := ⟨_, rfl⟩
  have e2 : wrap64 (wrap64 (1 + (m : Int)) * 64) = (N : Int) := by
    have e1 : wrap64 (1 + (m : Int)) = ((1 + m : Nat) : Int) := by rw [w64] <;> omega
    rw [e1, w64] <;> omega
  have hN1 : 64 ≤ N := by omega
  have hN2 : N ≤ 768 := by omega
  have q1 : (0 : Int) ≤ (N : Int) := by omega
  have q2 : (N : Int).toNat ≤ 281474976710656 := by rw [Int.toNat_natCast]; omega
  clear hN a b
  have key := image_l0 N (by omega) N 0 (List.replicate (N : Int).toNat 0) s (by omega) (by omega) (by rw [List.length_replicate, Int.toNat_natCast])
  simp -implicitDefEqProofs only [wrackmake_Image.f, wrackmake_image.f, hv, Option.bind_some, e2]
  simp -implicitDefEqProofs only [if_pos q1, if_pos q2]
  refine key.bind fun r hr => ?_
  exact Gets.ret (by omega)

/-! ## The law -/
theorem law_f (l0 : List Int) (a1 a2 : Int) : Gets (fun k => wrackkeep1_SumProofs.f k l0 a1 a2) (· = true) := by
  simp only [wrackkeep1_SumProofs.f]
  refine (image_f l0).bind fun t ht => ?_
  have hk0 := Int.emod_nonneg a2 (show (64 : Int) ≠ 0 by omega)
  have hk1 := Int.emod_lt_of_pos a2 (show (0 : Int) < 64 by omega)
  have hke := below_f (a := a2) (n := 64) (by omega) (by omega)
  obtain ⟨q, hq⟩ : ∃ q : Nat, a2 % 64 = (q : Int) := ⟨(a2 % 64).toNat, by omega⟩
  rw [hq] at hke hk0 hk1
  clear hq
  have e1 : wrap64 ((t.length : Int) - (q : Int)) = ((t.length - q : Nat) : Int) := by rw [w64] <;> omega
  have e2 : mx 1 (((t.length - q : Nat)) : Int) = ((t.length - q : Nat) : Int) := by unfold mx; split <;> omega
  have q1 : (0 : Int) ≤ ((t.length - q : Nat) : Int) := by omega
  have q2 : ((t.length - q : Nat) : Int) ≤ (t.length : Int) := by omega
  simp only [hke, Option.bind_some, e1, e2, Int.toNat_natCast]
  simp -implicitDefEqProofs only [if_pos q1, if_pos q2]
  obtain ⟨b, hb⟩ : ∃ b, b = t.take (t.length - q) := ⟨_, rfl⟩
  have hbl : b.length = t.length - q := by rw [hb, List.length_take]; omega
  rw [← hb]
  clear hb e1 e2 q1 q2
  have hb1 : 1 ≤ b.length := by omega
  have hb2 : b.length ≤ 2000 := by omega
  clear hbl ht hke hk0 hk1
  obtain ⟨n, hn⟩ : ∃ n, n = (b.length + 63) / 64 := ⟨_, rfl⟩
  have hbf := blocks_f b n (by omega) hb1 hn
  simp only [hbf, Option.bind_some]
  refine sums_f.bind fun _ e => ?_
  subst e
  have e3 : ((n : Int) != wrap64 (Int.tdiv (wrap64 ((b.length : Int) + 63)) 64)) = false := by
    have e1 : wrap64 ((b.length : Int) + 63) = ((b.length + 63 : Nat) : Int) := by rw [w64] <;> omega
    have e2 : Int.tdiv ((b.length + 63 : Nat) : Int) 64 = (((b.length + 63) / 64 : Nat) : Int) := rfl
    have e4 : wrap64 (((b.length + 63) / 64 : Nat) : Int) = (((b.length + 63) / 64 : Nat) : Int) := by rw [w64] <;> omega
    rw [e1, e2, e4, ← hn, bne_eq_false_iff_eq]
  simp only [if_true, e3]
  clear e3
  refine Gets.up ?_
  simp only [wrackkeep1_SumProofs.j0, Bool.false_eq_true, if_false]
  have hi0 := Int.emod_nonneg a1 (show (n : Int) ≠ 0 by omega)
  have hi1 := Int.emod_lt_of_pos a1 (show (0 : Int) < (n : Int) by omega)
  have hie := below_f (a := a1) (n := (n : Int)) (by omega) (by omega)
  obtain ⟨i, hi⟩ : ∃ i : Nat, a1 % (n : Int) = (i : Int) := ⟨(a1 % (n : Int)).toNat, by omega⟩
  rw [hi] at hie hi0 hi1
  clear hi
  have hin : i < n := by omega
  simp only [hie, Option.bind_some]
  refine (prove_f b n i hb2 hb1 hn hin).bind fun _ e => ?_
  subst e
  have hl := L0_length b n
  have hpl := pvl_len n (L0 b n) i (by omega)
  have hg := L0_get b n i hin
  have hT := holds_true n (L0 b n) i (by omega) (by omega) (by omega)
  have hL : ∀ p : List Int, Gets (fun k => sum_Holds.l0 k (rootv n (L0 b n)) (n : Int) (i : Int) p (hash (blk b i))) (fun r => r = true → p.length = cnt n n i) := fun p => holds_len _ n n i p _ (by omega) (by omega) (by omega)
  rw [hl, hg] at hT
  rw [hl] at hpl
  have hcl : cnt n n i ≤ 100 := by
    rw [← hpl]
    have : ∀ (Ls : List (List Int)) (i : Nat), (pvl Ls i).length ≤ Ls.length := by
      intro Ls
      induction Ls with
      | nil => intro i; exact Nat.le_refl _
      | cons l t ih =>
        intro i
        rw [pvl, List.length_append, List.length_cons]
        have := ih (i / 2)
        split
        · rw [List.length_singleton]; omega
        · rw [List.length_nil]; omega
    have h2 := this (L0 b n :: lev n (L0 b n)) i
    have h3 := (flat_le n (L0 b n) (by omega)).2
    rw [List.length_cons] at h2
    omega
  generalize pvl (L0 b n :: lev n (L0 b n)) i = p at hpl hT
  have hkl := blk_length b i
  have hR := root_f b n hb2 hb1 hn
  generalize rootv n (L0 b n) = R at hT hL hR
  have q1 : (0 : Int) ≤ ((64 * i : Nat) : Int) := by omega
  have q2 : ((64 * i : Nat) : Int) ≤ ((min b.length (64 * i + 64) : Nat) : Int) := by omega
  have q3 : ((min b.length (64 * i + 64) : Nat) : Int) ≤ (b.length : Int) := by omega
  have hclo : slices_Clone_uint64_uint64.f p = some p := by unfold slices_Clone_uint64_uint64.f; rw [if_pos (by omega)]
  have q4 : p.length < 17592186044416 := by omega
  have hi64 : 64 * i < b.length := by omega
  have hb4 : b.length ≤ 4000 := by omega
  have e4 : wrap64 (64 * (i : Int)) = ((64 * i : Nat) : Int) := by rw [w64] <;> omega
  have hm := cut_f b i hb4 hi64
  have hbk : (b.take (min b.length (64 * i + 64))).drop (64 * i) = blk b i := rfl
  simp only [e4, hm, Int.toNat_natCast]
  simp -implicitDefEqProofs only [if_pos q1, if_pos q2, if_pos q3, hclo, Option.bind_some, if_pos q4, hbk]
  clear e4 hm hclo hbk hbf hie
  refine sums_f.bind fun _ e => ?_
  subst e
  simp only [if_true]
  refine hR.bind fun _ e => ?_
  subst e
  refine (holds_f _ n i _ _ hin hkl hT).bind fun _ e => ?_
  subst e
  simp only [if_true]
  refine hR.bind fun _ e => ?_
  subst e
  refine (holds_f _ n i _ _ hin hkl (hL (p ++ [7]))).bind fun r1 h1 => ?_
  have hr1 : r1 = false := by
    cases r1 with
    | false => rfl
    | true =>
      have := h1 rfl
      rw [List.length_append, List.length_singleton] at this
      omega
  subst hr1
  simp only [Bool.false_eq_true, if_false]
  by_cases c : (p.length : Int) = 0
  · simp -implicitDefEqProofs only [if_pos c]
    refine hR.bind fun _ e => ?_
    subst e
    refine (holds_end _ n _ _).bind fun _ e => ?_
    subst e
    exact Gets.ret rfl
  · simp -implicitDefEqProofs only [if_neg c]
    refine hR.bind fun _ e => ?_
    subst e
    have q5 : (1 : Int) ≤ (p.length : Int) := by omega
    simp -implicitDefEqProofs only [if_pos q5]
    refine (holds_f _ n i _ _ hin hkl (hL (p.drop 1))).bind fun r2 h2 => ?_
    have hr2 : r2 = false := by
      cases r2 with
      | false => rfl
      | true =>
        have := h2 rfl
        rw [List.length_drop] at this
        omega
    subst hr2
    simp only [Bool.false_eq_true, if_false]
    refine hR.bind fun _ e => ?_
    subst e
    refine (holds_end _ n _ _).bind fun _ e => ?_
    subst e
    exact Gets.ret rfl
end SumQ
theorem SumProofs : wrackkeep1_SumProofs.Pure := by
  intro l0 a1 a2 _ _ _ _ _
  obtain ⟨k, r, h1, h2⟩ := (SumQ.law_f l0 a1 a2).get
  exact ⟨k, by rw [h1, h2]⟩
end Go.Proofs.Ytehkplafehlkgaa.Pure
