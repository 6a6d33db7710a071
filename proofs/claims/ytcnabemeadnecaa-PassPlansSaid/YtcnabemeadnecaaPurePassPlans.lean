/- wrackkeep1.PassPlans: plans with the same number of attempts read the same bytes in the same time; the cheapest of three plans is the first or the third, and none reads more. For every input. -/
import Derived.Test.YtcnabemeadnecaaPurePassDrive
namespace Go.Proofs.Ytcnabemeadnecaa.Pure
set_option linter.unusedVariables false
set_option linter.unusedSimpArgs false
open Go.RowKit Go.Proofs.Ytcnabemeadnecaa.PPassPlans Go.Proofs.YtcnabemeadnecaaW.PrintWords Go.Proofs.YtcnabemeadnecaaW.PrintLast Go.Proofs.YtcnabemeadnecaaW.PrintMore Go.Proofs.YtcnabemeadnecaaW.PrintMine Go.Proofs.YtcnabemeadnecaaW.Plib
namespace PassP
theorem equalI_l0 (l : List Int) (hl : l.length ≤ 4000) (m : Nat) : ∀ d i : Nat, i + d = l.length → slices_Equal_int_int.l0 (d + 1 + m) l l (l.length : Int) (i : Int) = some true
  | 0, i, hi => by
    rw [show 0 + 1 + m = m + 1 by omega]
    simp only [slices_Equal_int_int.l0, if_neg (show ¬ (i : Int) < (l.length : Int) by omega)]
  | d + 1, i, hi => by
    have q1 : (i : Int) < (l.length : Int) := by omega
    have q2 : (0 : Int) ≤ (i : Int) := by omega
    have hw := w1 i l.length (by omega) (by omega)
    have key := equalI_l0 l hl m d (i + 1) (by clear hw; omega)
    rw [show d + 1 + 1 + m = (d + 1 + m) + 1 by clear hw; omega]
    simp only [slices_Equal_int_int.l0, hw, if_true]
    simp -implicitDefEqProofs only [if_pos q1, if_pos q2]
    exact key
theorem equalI_all (l : List Int) (hl : l.length ≤ 4000) (k : Nat) (hk : l.length + 1 ≤ k) : slices_Equal_int_int.f k l l = some true := by
  simp only [slices_Equal_int_int.f, if_true]
  have := equalI_l0 l hl (k - (l.length + 1)) l.length 0 (by omega)
  rw [show l.length + 1 + (k - (l.length + 1)) = k by omega] at this
  exact this
/-- The time of all attempts. -/
def sumT (ft : Nat → Int × Int × Int) (mp : Int → Int) : Nat → Int
  | 0 => 0
  | n + 1 => sumT ft mp n + mp (n : Int) * ansT (ft n)
theorem sumT_far (ft : Nat → Int × Int × Int) (mp : Int → Int) (x : Nat) (v : Int) : ∀ n, n ≤ x → sumT ft (upd mp x v) n = sumT ft mp n
  | 0, _ => rfl
  | n + 1, h => by
    unfold sumT
    rw [sumT_far ft mp x v n (by omega)]
    unfold upd
    rw [if_neg (by omega)]
theorem sumT_upd (ft : Nat → Int × Int × Int) (mp : Int → Int) (x : Nat) : ∀ n, x < n → sumT ft (upd mp x (mp x + 1)) n = sumT ft mp n + ansT (ft x)
  | 0, h => by omega
  | n + 1, h => by
    unfold sumT
    by_cases c : x = n
    · subst c
      rw [sumT_far ft mp x _ x (Nat.le_refl _)]
      unfold upd
      rw [if_pos rfl, Int.add_mul, Int.one_mul]
      omega
    · rw [sumT_upd ft mp x n (by omega)]
      unfold upd
      rw [if_neg (by omega)]
      omega
theorem sumT_congr (ft : Nat → Int × Int × Int) {m1 m2 : Int → Int} : ∀ n : Nat, (∀ a, a < n → m1 (a : Int) = m2 (a : Int)) → sumT ft m1 n = sumT ft m2 n
  | 0, _ => rfl
  | n + 1, h => by
    unfold sumT
    rw [sumT_congr ft n (fun a ha => h a (by omega)), h n (by omega)]
section
variable {D : List Int} {ft : Nat → Int × Int × Int} {n : Nat}
def TmOk (ft : Nat → Int × Int × Int) (n : Nat) (j : JS) : Prop := j.tm = sumT ft j.mp n
theorem tryJ_tm {j : JS} {x : Nat} (h : TmOk ft n j) (hx : x < n) : TmOk ft n (tryJ D ft j x) := by
  unfold TmOk at h ⊢
  simp only [tryJ]
  rw [sumT_upd ft j.mp x n hx, h]
theorem skipJ_tm {j : JS} (h : TmOk ft n j) (x : Nat) : ∀ s, TmOk ft n (skipJ s x j)
  | 0 => h
  | s + 1 => skipJ_tm h x s
theorem fwd_tm (K : Nat) : ∀ (fu i : Nat) (j : JS), TmOk ft n j → TmOk ft n (fwdJ D ft K n fu i j)
  | 0, i, j, h => h
  | fu + 1, i, j, h => by
    unfold fwdJ
    by_cases g : i < n
    · rw [if_pos g]
      have h2 := tryJ_tm (D := D) h g
      split
      · exact fwd_tm K fu _ _ h2
      · exact fwd_tm K fu _ _ (skipJ_tm h2 _ _)
    · rw [if_neg g]; exact h
theorem bwd_tm : ∀ (d : Nat) (s : Bool) (j : JS), d ≤ n → TmOk ft n j → TmOk ft n (bwdJ D ft d s j)
  | 0, s, j, _, h => h
  | d + 1, s, j, hd, h => by
    unfold bwdJ
    split
    · split
      · exact bwd_tm d _ _ (by omega) h
      · exact bwd_tm d _ _ (by omega) (tryJ_tm h (by omega))
    · exact bwd_tm d _ _ (by omega) h
theorem each_tm (v : Int) : ∀ (d i : Nat) (j : JS), i + d ≤ n → TmOk ft n j → TmOk ft n (eachJ D ft v d i j)
  | 0, i, j, _, h => h
  | d + 1, i, j, hd, h => by
    unfold eachJ
    refine each_tm v d (i + 1) _ (by omega) ?_
    split
    · exact tryJ_tm h (by omega)
    · exact h
theorem rounds_tm : ∀ (r : Nat) (j : JS), TmOk ft n j → TmOk ft n (eachR D ft n r j)
  | 0, j, h => h
  | r + 1, j, h => by
    unfold eachR
    exact rounds_tm r _ (each_tm 2 n 0 j (by omega) h)
theorem sumT_zero (ft : Nat → Int × Int × Int) : ∀ n, sumT ft (fun _ => 0) n = 0
  | 0 => rfl
  | n + 1 => by
    unfold sumT
    rw [sumT_zero ft n, Int.zero_mul]
    rfl
theorem run_tm (K T : Nat) : (runJ D ft K T n).tm = sumT ft (runJ D ft K T n).mp n :=
  rounds_tm (T - 1) _ (each_tm 3 n 0 _ (by omega) (bwd_tm n false _ (Nat.le_refl _) (fwd_tm K n 0 _ (by
    unfold TmOk startJ
    exact (sumT_zero ft n).symm))))
/-- How often a block is tried does not hang on how many are skipped. -/
theorem run_mp (hD : D.length = 64 * n) (K K' T : Nat) (hT : 1 ≤ T) (a : Nat) (ha : a < n) : (runJ D ft K T n).mp (a : Int) = (runJ D ft K' T n).mp (a : Int) := by
  obtain ⟨t, b1, b2⟩ := (run_all (ft := ft) hD K T hT).2 a ha
  obtain ⟨t', c1, c2⟩ := (run_all (ft := ft) hD K' T hT).2 a ha
  rw [b1.hm, c1.hm]
  have key : ∀ {j : JS} {t : Nat}, Bk D ft j a t → Fin j a t T → (1 ≤ t ∧ t ≤ T ∧ ansE (ft a) t = 0) ∨ (t = T ∧ ansE (ft a) T ≠ 0) := by
    intro j t h1 h2
    rcases h2 with ⟨e, t1, t2⟩ | ⟨e, rfl⟩
    · rcases h1.hst with ⟨_, g | g⟩ | ⟨_, g, _⟩ | ⟨_, _, g⟩
      · rw [e] at g; exact absurd g (by decide)
      · rw [e] at g; exact absurd g (by decide)
      · exact Or.inl ⟨t1, t2, g⟩
      · rw [e] at g; exact absurd g (by decide)
    · rcases h1.hst with ⟨_, g | g⟩ | ⟨_, _, g⟩ | ⟨_, g, _⟩
      · rw [e] at g; exact absurd g (by decide)
      · rw [e] at g; exact absurd g (by decide)
      · rw [e] at g; exact absurd g (by decide)
      · exact Or.inr ⟨rfl, g⟩
  rcases key b1 b2 with ⟨x1, x2, x3⟩ | ⟨rfl, x3⟩
  · rcases key c1 c2 with ⟨y1, y2, y3⟩ | ⟨rfl, y3⟩
    · rcases Nat.lt_trichotomy t t' with g | g | g
      · exact absurd x3 (c1.hs t x1 g)
      · rw [g]
      · exact absurd y3 (b1.hs t' y1 g)
    · exact absurd (ansE_mono x3 (by omega)) y3
  · rcases key c1 c2 with ⟨y1, y2, y3⟩ | ⟨rfl, y3⟩
    · exact absurd (ansE_mono y3 (by omega)) x3
    · rfl
theorem run_same_tm (hD : D.length = 64 * n) (K K' T : Nat) (hT : 1 ≤ T) : (runJ D ft K T n).tm = (runJ D ft K' T n).tm := by
  rw [run_tm, run_tm]
  exact sumT_congr ft n fun a ha => run_mp hD K K' T hT a ha
theorem run_same_S (hD : D.length = 64 * n) (K K' T : Nat) (hT : 1 ≤ T) : (runJ D ft K T n).S = (runJ D ft K' T n).S := by
  have l1 := (run_all (ft := ft) hD K T hT).1.1
  have l2 := (run_all (ft := ft) hD K' T hT).1.1
  apply List.ext_getElem (by rw [l1, l2])
  intro i h1 h2
  have e1 := run_states (ft := ft) hD K T hT i (by omega)
  have e2 := run_states (ft := ft) hD K' T hT i (by omega)
  unfold rdOf at e1 e2
  rw [Int.toNat_natCast, List.getD_eq_getElem?_getD, List.getElem?_eq_getElem h1] at e1
  rw [Int.toNat_natCast, List.getD_eq_getElem?_getD, List.getElem?_eq_getElem h2] at e2
  exact e1.trans e2.symm
theorem run_same_B (hD : D.length = 64 * n) (K K' T : Nat) (hT : 1 ≤ T) : (runJ D ft K T n).B = (runJ D ft K' T n).B := by
  have l1 := (run_all (ft := ft) hD K T hT).1.2
  have l2 := (run_all (ft := ft) hD K' T hT).1.2
  apply List.ext_getElem?
  intro i
  by_cases hi : i < 64 * n
  · have e1 := run_bytes (ft := ft) hD K T hT (i / 64) (by omega)
    have e2 := run_bytes (ft := ft) hD K' T hT (i / 64) (by omega)
    have e := congrArg (fun l : List Int => l[i % 64]?) (e1.trans e2.symm)
    simp only [blk_get] at e
    rw [if_pos (by omega), if_pos (by omega), show 64 * (i / 64) + i % 64 = i by omega] at e
    exact e
  · rw [List.getElem?_eq_none (by omega), List.getElem?_eq_none (by omega)]
end
theorem bestJ_max (Js : Nat → JS) : ∀ n i, i ≤ n → (Js i).S.count 1 ≤ (Js (bestJ Js n)).S.count 1
  | 0, i, h => by
    obtain rfl : i = 0 := by omega
    exact Nat.le_refl _
  | n + 1, i, h => by
    unfold bestJ
    by_cases c : better (Js (n + 1)) (Js (bestJ Js n))
    · rw [if_pos c]
      have hc : (Js (bestJ Js n)).S.count 1 ≤ (Js (n + 1)).S.count 1 := by
        rcases c with c | ⟨c, _⟩
        · omega
        · omega
      rcases Nat.lt_or_ge n i with g | g
      · obtain rfl : i = n + 1 := by omega
        exact Nat.le_refl _
      · exact Nat.le_trans (bestJ_max Js n i g) hc
    · rw [if_neg c]
      rcases Nat.lt_or_ge n i with g | g
      · obtain rfl : i = n + 1 := by omega
        have : ¬ (Js (bestJ Js n)).S.count 1 < (Js (n + 1)).S.count 1 := fun g => c (Or.inl g)
        omega
      · exact bestJ_max Js n i g
theorem bestJ_ne (Js : Nat → JS) (h1 : (Js 1).S = (Js 0).S) (h2 : (Js 1).tm = (Js 0).tm) : bestJ Js 2 ≠ 1 := by
  have h : bestJ Js 1 = 0 := by
    show (if better (Js 1) (Js 0) then 1 else 0) = 0
    refine if_neg ?_
    unfold better
    rw [h1, h2]
    rintro (g | ⟨_, g⟩)
    · omega
    · omega
  show (if better (Js 2) (Js (bestJ Js 1)) then 2 else bestJ Js 1) ≠ 1
  rw [h]
  split <;> decide
theorem plan_f (a b : Int) : wrackkeep1_plan.f a b = some (a % 8, 1 + b % 8) := by
  have p2 := Int.emod_nonneg b (show (8 : Int) ≠ 0 by omega)
  have p3 := Int.emod_lt_of_pos b (show 0 < (8 : Int) by omega)
  have hw : wrap64 (1 + b % 8) = 1 + b % 8 := by rw [w64] <;> omega
  simp only [wrackkeep1_plan.f, below_f (a := a) (n := 8) (by omega) (by omega), below_f (a := b) (n := 8) (by omega) (by omega), Option.bind_some, hw]
theorem law_f (l0 : List Int) (a1 a2 a3 a4 : Int) : Gets (fun k => wrackkeep1_PassPlans.f k l0 a1 a2 a3 a4) (· = true) := by
  simp only [wrackkeep1_PassPlans.f]
  refine (drive_f l0).bind fun x hx => ?_
  obtain ⟨D, F⟩ := x
  obtain ⟨n, n1, n2, hD, hF⟩ := hx
  simp only at hD hF ⊢
  refine (new_f D n n2 hD F hF).bind fun _ _ => ?_
  simp only [plan_f, Option.bind_some]
  generalize hc : wrap64 (a3 + a4) = a5
  clear hc
  have i1 := Int.emod_nonneg a1 (show (8 : Int) ≠ 0 by omega)
  have i2 := Int.emod_lt_of_pos a1 (show 0 < (8 : Int) by omega)
  have i3 := Int.emod_nonneg a2 (show (8 : Int) ≠ 0 by omega)
  have i4 := Int.emod_lt_of_pos a2 (show 0 < (8 : Int) by omega)
  have i5 := Int.emod_nonneg a3 (show (8 : Int) ≠ 0 by omega)
  have i6 := Int.emod_lt_of_pos a3 (show 0 < (8 : Int) by omega)
  have i7 := Int.emod_nonneg a5 (show (8 : Int) ≠ 0 by omega)
  have i8 := Int.emod_lt_of_pos a5 (show 0 < (8 : Int) by omega)
  generalize a1 % 8 = p at *
  generalize a2 % 8 = q at *
  generalize a3 % 8 = r at *
  generalize a5 % 8 = s at *
  refine (new_f (List.replicate 192 0) 3 (by omega) (by rw [List.length_replicate]) _ small_ok).bind fun _ _ => ?_
  refine (Gets.of_mono (slices_Equal_int_int.mono _ _) (k := 10) (r := true) (P := (· = true)) (by decide +kernel) rfl).bind fun e he => ?_
  subst he
  have hn : D.length / 64 = n := by omega
  have hD' : D.length = 64 * n := by omega
  have hft : ∀ a < n, (∀ k, drive_fault.f k D F (a : Int) = some (wrackkeep1_PassPlans.ft 0 D F a)) ∧ 0 ≤ ansT (wrackkeep1_PassPlans.ft 0 D F a) ∧ ansT (wrackkeep1_PassPlans.ft 0 D F a) ≤ 100 := by
    intro a ha
    obtain ⟨f, h1, h2⟩ := fault_f D n n2 F hF (a : Int)
    have e : wrackkeep1_PassPlans.ft 0 D F a = f := by unfold wrackkeep1_PassPlans.ft; rw [h1 0]; rfl
    rw [e]
    exact ⟨h1, h2⟩
  have hkf : ∀ k, wrackkeep1_PassPlans.ft k D F = wrackkeep1_PassPlans.ft 0 D F := fun k => rfl
  obtain ⟨J, hJ⟩ : ∃ J, wrackkeep1_PassPlans.J 0 D F (p, 1 + r) (q, 1 + r) (q, 1 + s) = J := ⟨_, rfl⟩
  have hkJ : ∀ k, wrackkeep1_PassPlans.J k D F (p, 1 + r) (q, 1 + r) (q, 1 + s) = J := fun k => hJ
  have t1 : 1 ≤ (1 + r).toNat := by omega
  have t2 : 1 ≤ (1 + s).toNat := by omega
  have J0 : J 0 = runJ D (wrackkeep1_PassPlans.ft 0 D F) p.toNat (1 + r).toNat n := by rw [← hJ, ← hn]; rfl
  have J1 : J 1 = runJ D (wrackkeep1_PassPlans.ft 0 D F) q.toNat (1 + r).toNat n := by rw [← hJ, ← hn]; rfl
  have J2 : J 2 = runJ D (wrackkeep1_PassPlans.ft 0 D F) q.toNat (1 + s).toNat n := by rw [← hJ, ← hn]; rfl
  have hS : (J 1).S = (J 0).S := by rw [J0, J1]; exact run_same_S hD' _ _ _ t1
  have hB : (J 1).B = (J 0).B := by rw [J0, J1]; exact run_same_B hD' _ _ _ t1
  have hT : (J 1).tm = (J 0).tm := by rw [J0, J1]; exact run_same_tm hD' _ _ _ t1
  have L0 : (J 0).S.length = n := by rw [J0]; exact (run_all hD' _ _ t1).1.1
  have L2 : (J 2).S.length = n := by rw [J2]; exact (run_all hD' _ _ t2).1.1
  have B0 : (J 0).B.length = 64 * n := by rw [J0]; exact (run_all hD' _ _ t1).1.2
  clear J0 J1 J2 hJ
  simp only [hkJ, hn]
  refine (guardU 0 fun k _ => ⟨by first | exact trivial | rfl, n1, by omega, by omega⟩).bind fun _ _ => ?_
  refine (guardU 0 fun k _ => ⟨⟨i1, by omega, by omega, by omega⟩, ⟨i3, by omega, by omega, by omega⟩, ⟨i3, by omega, by omega, by omega⟩⟩).bind fun _ _ => ?_
  refine (guardU 0 fun k _ a ha => by rw [hkf]; exact ⟨(hft a ha).1 k, (hft a ha).2⟩).bind fun _ _ => ?_
  refine (guardU 0 fun k _ a ha => small_fault k a ha).bind fun _ _ => ?_
  refine (guardU 0 fun k _ y hy => by
    have h3 : y = 0 ∨ y = 1 ∨ y = 2 := by omega
    rcases h3 with rfl | rfl | rfl
    · exact L0
    · rw [hS]; exact L0
    · exact L2).bind fun _ _ => ?_
  refine (guardU 1000 fun k hk => by rw [hB]; exact equal_all _ (by omega) k (by omega)).bind fun _ _ => ?_
  refine (guardU 1000 fun k hk => by rw [hS]; exact equalI_all _ (by omega) k (by omega)).bind fun _ _ => ?_
  refine (guardU 0 fun k _ => hT.symm).bind fun _ _ => ?_
  exact guardT 0 fun k _ => ⟨bestJ_ne J hS hT, bestJ_max J 2 0 (by omega), bestJ_max J 2 2 (by omega)⟩
end PassP
/-- The law, plain. -/
theorem PassPlans : wrackkeep1_PassPlans.Pure := by
  intro l0 a1 a2 a3 a4 _ _ _ _ _ _ _
  obtain ⟨k, r, h1, h2⟩ := (PassP.law_f l0 a1 a2 a3 a4).get
  refine ⟨k, ?_⟩
  rw [← h2]
  exact h1
end Go.Proofs.Ytcnabemeadnecaa.Pure
