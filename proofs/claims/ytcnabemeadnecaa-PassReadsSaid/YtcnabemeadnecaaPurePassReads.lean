/- wrackkeep1.PassReads: a pass over a drive reads all that can be read within its attempts, no block once more behind that, none more often than the plan says. For every input. -/
import Derived.Test.YtcnabemeadnecaaPurePassDrive
namespace Go.Proofs.Ytcnabemeadnecaa.Pure
set_option linter.unusedVariables false
set_option linter.unusedSimpArgs false
open Go.RowKit Go.Proofs.Ytcnabemeadnecaa.PPassReads Go.Proofs.YtcnabemeadnecaaW.PrintWords Go.Proofs.YtcnabemeadnecaaW.PrintLast Go.Proofs.YtcnabemeadnecaaW.PrintMore Go.Proofs.YtcnabemeadnecaaW.PrintMine Go.Proofs.YtcnabemeadnecaaW.Plib
namespace PassP
theorem needL_bad {f : Int × Int × Int} : ∀ (n : Nat) (v : Int), (∀ s : Nat, 1 ≤ s → s ≤ n → ansE f s ≠ 0) → needL f n v = v
  | 0, v, _ => rfl
  | n + 1, v, h => by
    unfold needL
    rw [if_neg (by have := h (n + 1) (by omega) (Nat.le_refl _); rw [show ((n + 1 : Nat) : Int) = (n : Int) + 1 by omega] at this; exact this)]
    exact needL_bad n v fun s h1 h2 => h s h1 (by omega)
theorem needL_good {f : Int × Int × Int} {t : Nat} (t1 : 1 ≤ t) (hg : ansE f t = 0) (hs : ∀ s : Nat, 1 ≤ s → s < t → ansE f s ≠ 0) : ∀ (n : Nat) (v : Int), t ≤ n → needL f n v = t
  | 0, v, h => by omega
  | n + 1, v, h => by
    unfold needL
    rcases Nat.lt_or_ge n t with c | c
    · obtain rfl : t = n + 1 := by omega
      rw [show ((n + 1 : Nat) : Int) = (n : Int) + 1 by omega] at hg ⊢
      rw [if_pos hg]
      exact needL_bad n _ fun s h1 h2 => hs s h1 (by omega)
    · exact needL_good t1 hg hs n _ c
theorem run_count {D : List Int} {ft : Nat → Int × Int × Int} {n : Nat} (hD : D.length = 64 * n) (K T : Nat) (hT : 1 ≤ T) (a : Nat) (ha : a < n) : (((runJ D ft K T n).R.count (a : Int) : Nat) : Int) = needL (ft a) T T := by
  obtain ⟨t, b1, b2⟩ := (run_all (ft := ft) hD K T hT).2 a ha
  rw [b1.hc]
  rcases b2 with ⟨e, t1, t2⟩ | ⟨e, rfl⟩
  · rcases b1.hst with ⟨_, g | g⟩ | ⟨_, g, _⟩ | ⟨_, _, g⟩
    · rw [e] at g; exact absurd g (by decide)
    · rw [e] at g; exact absurd g (by decide)
    · rw [needL_good t1 g b1.hs T T t2]
    · rw [e] at g; exact absurd g (by decide)
  · rcases b1.hst with ⟨_, g | g⟩ | ⟨_, _, g⟩ | ⟨_, g, _⟩
    · rw [e] at g; exact absurd g (by decide)
    · rw [e] at g; exact absurd g (by decide)
    · rw [e] at g; exact absurd g (by decide)
    · rw [needL_bad]
      intro s s1 s2 hz
      exact g (ansE_mono hz (by omega))
theorem law_f (l0 : List Int) (a1 a2 : Int) : Gets (fun k => wrackkeep1_PassReads.f k l0 a1 a2) (· = true) := by
  simp only [wrackkeep1_PassReads.f]
  refine (drive_f l0).bind fun x hx => ?_
  obtain ⟨D, F⟩ := x
  obtain ⟨n, n1, n2, hD, hF⟩ := hx
  simp only at hD hF ⊢
  refine (new_f D n n2 hD F hF).bind fun _ _ => ?_
  refine drives_f.bind fun s e => ?_
  subst e
  have p0 := Int.emod_nonneg a1 (show (8 : Int) ≠ 0 by omega)
  have p1 := Int.emod_lt_of_pos a1 (show 0 < (8 : Int) by omega)
  have p2 := Int.emod_nonneg a2 (show (8 : Int) ≠ 0 by omega)
  have p3 := Int.emod_lt_of_pos a2 (show 0 < (8 : Int) by omega)
  have hw : wrap64 (1 + a2 % 8) = 1 + a2 % 8 := by rw [w64] <;> omega
  simp only [wrackkeep1_plan.f, below_f (a := a1) (n := 8) (by omega) (by omega), below_f (a := a2) (n := 8) (by omega) (by omega), Option.bind_some, hw]
  clear hw
  generalize a1 % 8 = p at *
  generalize a2 % 8 = q at *
  refine (check_f D n n2 hD F hF).bind fun c e => ?_
  subst e
  refine (new_f (List.replicate 192 0) 3 (by omega) (by rw [List.length_replicate]) _ small_ok).bind fun _ _ => ?_
  refine (Gets.of_mono (slices_Equal_int_int.mono _ _) (k := 10) (r := true) (P := (· = true)) (by decide +kernel) rfl).bind fun e he => ?_
  subst he
  have hn : D.length / 64 = n := by omega
  have hD' : D.length = 64 * n := by omega
  rw [hn]
  obtain ⟨T, hT⟩ : ∃ T, (1 + q).toNat = T := ⟨_, rfl⟩
  have t1 : 1 ≤ T := by omega
  have t2 : T ≤ 16 := by omega
  rw [hT]
  have hft : ∀ a < n, (∀ k, drive_fault.f k D F (a : Int) = some (wrackkeep1_PassReads.ft 0 D F a)) ∧ 0 ≤ ansT (wrackkeep1_PassReads.ft 0 D F a) ∧ ansT (wrackkeep1_PassReads.ft 0 D F a) ≤ 100 := by
    intro a ha
    obtain ⟨f, h1, h2⟩ := fault_f D n n2 F hF (a : Int)
    have e : wrackkeep1_PassReads.ft 0 D F a = f := by unfold wrackkeep1_PassReads.ft; rw [h1 0]; rfl
    rw [e]
    exact ⟨h1, h2⟩
  have hk : ∀ k, wrackkeep1_PassReads.ft k D F = wrackkeep1_PassReads.ft 0 D F := fun k => rfl
  have hok := run_ok (D := D) (fun a ha => (hft a ha).2) p.toNat T
  have hle : (T - 1) * n ≤ 15 * 12 := Nat.mul_le_mul (by omega) n2
  refine (guardU 0 fun k _ => ⟨(by first | exact trivial | rfl), (by first | exact trivial | rfl), (by first | exact trivial | rfl), p0, by omega, by omega, by omega, n1, by omega, by omega⟩).bind fun _ _ => ?_
  refine (guardU 0 fun k _ a ha => by rw [hk]; exact ⟨(hft a ha).1 k, (hft a ha).2⟩).bind fun _ _ => ?_
  refine (guardU 0 fun k _ a ha => small_fault k a ha).bind fun _ _ => ?_
  refine (guardU 0 fun k _ => by rw [hk]; exact ⟨hok.hS, hok.hB, by have := hok.hR; omega⟩).bind fun _ _ => ?_
  refine (guardU 0 fun k _ a ha => by rw [hk]; exact run_states hD' _ T t1 a ha).bind fun _ _ => ?_
  refine (guardU 100 fun k hk2 a ha hz => by
    rw [hk] at hz ⊢
    have := run_bytes (ft := wrackkeep1_PassReads.ft 0 D F) hD' p.toNat T t1 a ha
    unfold blk at this
    rw [this, if_pos hz]
    exact equal_all _ (by rw [ansR_len64 hD' ha hz]; omega) k (by rw [ansR_len64 hD' ha hz]; omega)).bind fun _ _ => ?_
  exact guardT 0 fun k _ a ha => by rw [hk]; exact run_count hD' _ T t1 a ha
end PassP
/-- The law, plain. -/
theorem PassReads : wrackkeep1_PassReads.Pure := by
  intro l0 a1 a2 _ _ _ _ _
  obtain ⟨k, r, h1, h2⟩ := (PassP.law_f l0 a1 a2).get
  refine ⟨k, ?_⟩
  rw [← h2]
  exact h1
end Go.Proofs.Ytcnabemeadnecaa.Pure
