-- written by prn.py, a program of this session, over the kit's printer
import Derived.Test.YtcnabemeadnecaaPPassPlansx0
import Derived.Test.YtcnabemeadnecaaPPassPlansx4
import Derived.Test.YtcnabemeadnecaaPPassPlansx5
namespace Go.Proofs.Ytcnabemeadnecaa.PPassPlans
open Go.RowKit Go.Proofs.YtcnabemeadnecaaW.PrintWords Go.Proofs.YtcnabemeadnecaaW.PrintLast Go.Proofs.YtcnabemeadnecaaW.PrintMore Go.Proofs.YtcnabemeadnecaaW.PrintMine
attribute [local go_sem] max2_int min2_int max_two min_two max_three min_three max_four min_four   -- for this text's walks alone
set_option linter.unusedVariables false
set_option linter.unusedSimpArgs false

/-! ### wrackkeep1_passed: function 18 -/
theorem put4 {W : World} {g : Nat} {t : TypeId} {a b c d : Value} (h : W.heap[g]? = some (.cells #[a, b, c, d] t (0, 0))) (a' b' c' d' : Value) :
    ((((W.setCell ⟨g, 0, none⟩ a').setCell ⟨g, 1, none⟩ b').setCell ⟨g, 2, none⟩ c').setCell ⟨g, 3, none⟩ d').heap[g]? = some (.cells #[a', b', c', d'] t (0, 0)) ∧
    (∀ k, k ≠ g → ((((W.setCell ⟨g, 0, none⟩ a').setCell ⟨g, 1, none⟩ b').setCell ⟨g, 2, none⟩ c').setCell ⟨g, 3, none⟩ d').heap[k]? = W.heap[k]?) ∧
    (∀ (m : Nat) (w : World), Below m w W → m ≤ g → Below m w ((((W.setCell ⟨g, 0, none⟩ a').setCell ⟨g, 1, none⟩ b').setCell ⟨g, 2, none⟩ c').setCell ⟨g, 3, none⟩ d')) :=
  ⟨blk_put (blk_put (blk_put (blk_put h 0 _ rfl) 1 _ rfl) 2 _ rfl) 3 _ rfl,
   fun k hk => (((Below.heap_setCell _ ⟨g, 3, none⟩ _ k hk).trans (Below.heap_setCell _ ⟨g, 2, none⟩ _ k hk)).trans (Below.heap_setCell _ ⟨g, 1, none⟩ _ k hk)).trans (Below.heap_setCell _ ⟨g, 0, none⟩ _ k hk),
   fun m w hb hg => Below.setCell (Below.setCell (Below.setCell (Below.setCell hb (p := ⟨g, 0, none⟩) hg _) (p := ⟨g, 1, none⟩) hg _) (p := ⟨g, 2, none⟩) hg _) (p := ⟨g, 3, none⟩) hg _⟩
def pft (a : Nat) : Int × Int × Int := if a = 0 then (0, 1, 0) else (0, 0, 0)
theorem passed_reads : (runJ (List.replicate 192 0) pft 1 1 3).R = [0, 2, 1] := by rfl
set_option maxHeartbeats 4000000 in
set_option maxRecDepth 100000 in
theorem wrackkeep1_passed.calls (k : Nat) (w : World) (hN : drive_New.f k (List.replicate 192 0) [(⟨0, 1, 0⟩ : S59)] = some ()) (hf : ∀ a < 3, drive_fault.f k (List.replicate 192 0) [(⟨0, 1, 0⟩ : S59)] ((a : Nat) : Int) = some (pft a)) (hE : slices_Equal_int_int.f k [0, 2, 1] [0, 2, 1] = some true) :
    Calls Try.prog 18 #[] w fun e w' => e = .returned (.bool true) ∧ Below w.heap.size w w' := by
  have hT : ∀ a < 3, drive_fault.f k (List.replicate 192 0) [(⟨0, 1, 0⟩ : S59)] ((a : Nat) : Int) = some (pft a) ∧ 0 ≤ ansT (pft a) ∧ ansT (pft a) ≤ 100 := fun a ha => ⟨hf a ha, by unfold pft ansT; split <;> simp, by unfold pft ansT; split <;> simp⟩
  obtain ⟨D, hD⟩ : ∃ x, (List.replicate 192 0 : List Int) = x := ⟨_, rfl⟩
  obtain ⟨F, hF⟩ : ∃ x, [(⟨0, 1, 0⟩ : S59)] = x := ⟨_, rfl⟩
  obtain ⟨Q, hQ⟩ : ∃ x : List Int, [0, 2, 1] = x := ⟨_, rfl⟩
  have hR := passed_reads
  rw [hD, hF] at hN hT
  rw [hD, hQ] at hR
  rw [hQ] at hE
  have hlD : D.length = 64 * 3 := by rw [← hD]; rfl
  have hlQ : Q.length = 3 := by rw [← hQ]; rfl
  have RL := Aside0.mk hlD
  have QL := Aside0.mk hlQ
  have NN := Aside0.mk hN
  have TT := Aside0.mk hT
  have EE := Aside0.mk hE
  have RR := Aside0.mk hR
  have ND := Aside0.mk hD
  have NF := Aside0.mk hF
  have NQ := Aside0.mk hQ
  have hu59 := Try.underlying59
  have hu26 := Try.underlying26
  have hu43 := Try.underlying43
  have hu46 := Try.underlying46
  obtain ⟨J, hJ⟩ : ∃ x, runJ D pft 1 1 3 = x := ⟨_, rfl⟩
  rw [hJ] at hR
  have RR2 := Aside0.mk hR
  have HJ := Aside0.mk hJ
  clear hJ RR
  clear hlD hlQ hN hT hE hR hD hF hQ hf
  go_enter Try.func18, Try.ntmps18
  go_upto_region 2 with (first | ((with_reducible refine gate_dst (N := 4) rfl ?_); refine Kd.R_make (Kd.int .u8) _ 5 rfl (N := 4) rfl 23 _ _ rfl 192 rfl rfl Try.underlying23 (.int .u8 0) 1 info5 rfl (by decide) (by omega) 0 (ok := fun _ => True) (okp := fun _ => True) rfl (fun _ hk => hk) trivial (by omega) (by omega) (Below.refl _ _) (Nat.le_refl _) ?_; intro v1 w1 ho hb hg_ hnew_; clear hg_ hnew_; (first | rw [ND.out] at ho | (simp only [Int.reduceToNat] at ho; rw [ND.out] at ho)); have HD1 := Aside0.mk ho; have HB1 := Aside0.mk hb; clear hb ho) | ((with_reducible refine gate_dst (N := 6) rfl ?_); refine Kd.R_lit k59 _ 59 ?hg (N := 6) ?hd (xs := ([(⟨0, 1, 0⟩ : S59)] : List (S59))) (inner := [.int .i64 0, .int .i64 1, .int .i64 0]) (ok := fun _ => True) (okp := fun _ => True) ?hr ?hp (fun _ hk => hk) trivial (Below.refl _ _) (Nat.le_refl _) (by simp) ?_; (case hd => rfl); (case hg => rfl); (case hr => first | (go_simp; done) | (go_simp; rfl)); (case hp => exact (Reps.c3 (show Kd.M k59 _ _ _ (⟨0, 1, 0⟩ : S59) [.int .i64 0, .int .i64 1, .int .i64 0] from (k59_mkM _ _ _ (⟨0, 1, 0⟩ : S59) )) (Reps.none _ _))); intro v2 w2 ho hb hg_ hnew_; clear hg_ hnew_; rw [NF.out] at ho; have HD2 := Aside0.mk (Kd.R_below HD1.out hb); have HF2 := Aside0.mk (Kd.R_lower ho HB1.out.size); have HB2 := Aside0.mk (below_step HB1.out hb); clear hb ho; obtain ⟨AD, cD, eD⟩ := Kd.R_slice HD2.out; subst eD; obtain ⟨AF, cF, eF⟩ := Kd.R_slice HF2.out; subst eF) | (go_at_call 17; have HC := (pass_Run.calls k AD cD D AF cF F 1 1 3 pft _ (Kd.R_reads' HD2.out).2.2 (Kd.R_reads' HD2.out).2.1 (Kd.R_reads' HF2.out).2.2 (Kd.R_reads' HF2.out).2.1 NN.out (by omega) (by omega) (by omega) (by omega) RL.out (by rw [RL.out]; omega) TT.out); rw [HJ.out] at HC; refine HC.mono ?_; clear HC; rintro e w3 ⟨vS, vB, vR, rfl, hS3, hB3, hR3, hb⟩; obtain ⟨AS, cS, eS⟩ := Kd.R_slice hS3; subst eS; obtain ⟨AB, cB, eB⟩ := Kd.R_slice hB3; subst eB; obtain ⟨AR, cR, eR⟩ := Kd.R_slice hR3; subst eR; clear hS3 hB3; have HR3 := Aside0.mk hR3; have HB3 := Aside0.mk (below_step HB2.out hb); have HZ3 := Aside0.mk HB2.out.size; clear hb hR3) | ((with_reducible refine gate_dst (N := 1) rfl ?_); refine box_event ?hg (N := 1) ?hd (cs := #[.slice none 0 0, .slice none 0 0, .slice none 0 0, .int .i64 0]) (t := 46) ?hr ?_; (case hd => rfl); (case hg => rfl); (case hr => first | (go_simp; done) | (go_simp; rfl)); intro g4 hg w4 hbox hb; have GE4 := Aside0.mk (by rw [hg]; exact HB3.out.size : w.heap.size ≤ g4); have HS4 := Aside0.mk (by rw [hg]; exact Nat.le_refl _ : w3.heap.size ≤ g4); have BK4 := Aside0.mk hbox; have HB4 := Aside0.mk (below_step HB3.out hb); have HW4 := Aside0.mk hb; clear hb hbox hg; have u0 : w4.cell? ⟨g4, 0, none⟩ = some (.slice none 0 0) := (blk_cell BK4.out 0).trans rfl; have u1 : w4.cell? ⟨g4, 1, none⟩ = some (.slice none 0 0) := (blk_cell BK4.out 1).trans rfl; have u2 : w4.cell? ⟨g4, 2, none⟩ = some (.slice none 0 0) := (blk_cell BK4.out 2).trans rfl; have u3 : w4.cell? ⟨g4, 3, none⟩ = some (.int .i64 0) := (blk_cell BK4.out 3).trans rfl; have f0 := blk_frozen BK4.out 0; have f1 := blk_frozen BK4.out 1; have f2 := blk_frozen BK4.out 2; have f3 := blk_frozen BK4.out 3))
  obtain ⟨p1, p2, p3⟩ := put4 BK4.out (.slice AS J.S.length cS) (.slice AB J.B.length cB) (.slice AR J.R.length cR) (.int .i64 J.tm)
  clear u0 u1 u2 u3 f0 f1 f2 f3
  generalize (((w4.setCell ⟨g4, 0, none⟩ (.slice AS J.S.length cS)).setCell ⟨g4, 1, none⟩ (.slice AB J.B.length cB)).setCell ⟨g4, 2, none⟩ (.slice AR J.R.length cR)).setCell ⟨g4, 3, none⟩ (.int .i64 J.tm) = W5 at p1 p2 p3 ⊢
  have HB5 := Aside0.mk (p3 _ _ HB4.out GE4.out)
  have HR5 := Aside0.mk (Kd.R_step (Kd.R_bound HR3.out) (fun k hk hl => (p2 k (by have := hk.2.2.1; have := HS4.out; omega)).trans (HW4.out.block k hl)))
  have hq : J.R = Q := RR2.out
  have v2 : W5.cell? ⟨g4, 2, none⟩ = some (.slice AR J.R.length cR) := (blk_cell p1 2).trans rfl
  clear p1 p2 p3
  rw [hq] at v2 HR5
  clear hq
  go_wp2_with (first | ((with_reducible refine gate_dst (N := 17) rfl ?_); (try (refine gate_guard (by rfl) ?_; dsimp only)); refine Kd.R_lit (Kd.int .i64) _ 3 ?hg (N := 17) ?hd (xs := ([0, 2, 1] : List Int)) (inner := [.int .i64 0, .int .i64 2, .int .i64 1]) (ok := fun _ => True) (okp := fun _ => True) ?hr ?hp (fun _ hk => hk) trivial (Below.refl _ _) (Nat.le_refl _) (by simp) ?_; (case hd => rfl); (case hg => rfl); (case hr => first | (go_simp; done) | (go_simp; rfl)); (case hp => exact (Reps.one (show Kd.M (Kd.int .i64) _ _ _ 0 [.int .i64 0] from rfl) (Reps.one (show Kd.M (Kd.int .i64) _ _ _ 2 [.int .i64 2] from rfl) (Reps.one (show Kd.M (Kd.int .i64) _ _ _ 1 [.int .i64 1] from rfl) (Reps.none _ _))))); intro v6 w6 ho hb hg_ hnew_; clear hg_ hnew_; rw [NQ.out] at ho; have HQ6 := Aside0.mk ho; have HR6 := Aside0.mk (Kd.R_below HR5.out hb); have HB6 := Aside0.mk (below_step HB5.out hb); clear hb ho; obtain ⟨AQ, cQ, eQ⟩ := Kd.R_slice HQ6.out; subst eQ) | (go_at_call 21; refine (slices_Equal_int_int.calls k AR cR Q AQ cQ Q true _ (Kd.R_reads' HR6.out).2.2 (Kd.R_reads' HR6.out).2.1 (Kd.R_reads' HQ6.out).2.2 (Kd.R_reads' HQ6.out).2.1 EE.out).mono ?_; rintro e w7 ⟨rfl, nd, rfl⟩))
  go_ret
  exact ⟨rfl, pw_below_drewN HB6.out nd⟩

end Go.Proofs.Ytcnabemeadnecaa.PPassPlans
