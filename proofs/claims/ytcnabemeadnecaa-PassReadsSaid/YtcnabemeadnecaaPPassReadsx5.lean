-- written by prn.py, a program of this session, over the kit's printer
import Derived.Test.YtcnabemeadnecaaPPassReadsx0
import Derived.Test.YtcnabemeadnecaaPPassReadsx1
import Derived.Test.YtcnabemeadnecaaPPassReadsx2
import Derived.Test.YtcnabemeadnecaaPPassReadsx3
import Derived.Test.YtcnabemeadnecaaPPassReadsx4
namespace Go.Proofs.Ytcnabemeadnecaa.PPassReads
open Go.RowKit Go.Proofs.YtcnabemeadnecaaW.PrintWords Go.Proofs.YtcnabemeadnecaaW.PrintLast Go.Proofs.YtcnabemeadnecaaW.PrintMore Go.Proofs.YtcnabemeadnecaaW.PrintMine
attribute [local go_sem] max2_int min2_int max_two min_two max_three min_three max_four min_four   -- for this text's walks alone
set_option linter.unusedVariables false
set_option linter.unusedSimpArgs false

/-! ### slices_Equal_int_int: function 21 -/
def slices_Equal_int_int.l0 : Nat → List Int → List Int → Int → Int → Option (Bool)
  | 0, _, _, _, _ => none
  | k + 1, x0, x1, x12, x13 => if x13 < x12 then (if 0 ≤ x13 then (if x13 < (x0.length : Int) then (if x13 < (x1.length : Int) then (if (rd x0 x13) = (rd x1 x13) then (slices_Equal_int_int.l0 k x0 x1 x12 (wrap64 (x13 + 1))) else (some false)) else (none)) else (none)) else (none)) else (some true)
def slices_Equal_int_int.f (k : Nat) (l0 : List Int) (l1 : List Int) : Option (Bool) := if (l0.length : Int) = (l1.length : Int) then (slices_Equal_int_int.l0 k l0 l1 (l0.length : Int) 0) else (some false)
theorem slices_Equal_int_int.mono_l : ∀ k, (∀ y0 y1 y2 y3, LeO (slices_Equal_int_int.l0 k y0 y1 y2 y3) (slices_Equal_int_int.l0 (k + 1) y0 y1 y2 y3))
  | 0 => fun _ _ _ _ r h => by simp [slices_Equal_int_int.l0] at h
  | k + 1 => by
    have ih0 := slices_Equal_int_int.mono_l k
    · intro y0 y1 y2 y3
      unfold slices_Equal_int_int.l0
      repeat' first
      | (with_reducible exact ih0 _ _ _ _)
      | (with_reducible exact LeO.refl _)
      | (with_reducible exact LeO.none _)
      | (with_reducible refine LeO.ite ?_ ?_)
      | (with_reducible refine LeO.bind ?_ (fun _ => ?_))
      | exact ih0 _ _ _ _
      | exact LeO.none _
      | refine LeO.ite ?_ ?_
      | refine LeO.bind ?_ (fun _ => ?_)
theorem slices_Equal_int_int.mono : ∀ a0 a1 k, LeO (slices_Equal_int_int.f k a0 a1) (slices_Equal_int_int.f (k + 1) a0 a1) := by
  intro a0 a1 k
  have ih0 := slices_Equal_int_int.mono_l k
  unfold slices_Equal_int_int.f
  repeat' first
      | (with_reducible exact ih0 _ _ _ _)
      | (with_reducible exact LeO.refl _)
      | (with_reducible exact LeO.none _)
      | (with_reducible refine LeO.ite ?_ ?_)
      | (with_reducible refine LeO.bind ?_ (fun _ => ?_))
      | exact ih0 _ _ _ _
      | exact LeO.none _
      | refine LeO.ite ?_ ?_
      | refine LeO.bind ?_ (fun _ => ?_)
set_option maxHeartbeats 8000000 in
set_option maxRecDepth 100000 in
theorem slices_Equal_int_int.calls (k : Nat) (A0 : Option Addr) (c0 : Nat) (l0 : List Int) (A1 : Option Addr) (c1 : Nat) (l1 : List Int) (r : Bool) (w : World) (hr0 : Kd.C (Kd.int .i64) w A0 l0.length l0) (hc0 : l0.length ≤ c0) (hr1 : Kd.C (Kd.int .i64) w A1 l1.length l1) (hc1 : l1.length ≤ c1) (h : slices_Equal_int_int.f k l0 l1 = some r) :
    Calls Try.prog 21 #[.slice A0 l0.length c0, .slice A1 l1.length c1] w fun e w' => e = .returned (.bool r) ∧ Drawn0 w w' := by
  have HR0 := Aside0.mk hr0
  have HC0 := Aside0.mk hc0
  clear hr0 hc0
  have HR1 := Aside0.mk hr1
  have HC1 := Aside0.mk hc1
  clear hr1 hc1
  have H : (if (l0.length : Int) = (l1.length : Int) then (slices_Equal_int_int.l0 k l0 l1 (l0.length : Int) 0) else (some false)) = some r := h
  clear h
  by_cases c3 : (l0.length : Int) = (l1.length : Int)
  · rw [if_pos c3] at H
    have c3b0 : ((l0.length : Int) == (l1.length : Int)) = true := beq_iff_eq.mpr c3
    have c3b1 : ((l0.length : Int) != (l1.length : Int)) = false := bne_eq_false_iff_eq.mpr c3
    have c3b2 : (l0.length == l1.length) = true := by first | simpa using c3 | (simp at c3 ⊢; omega)
    clear c3
    have H' := Aside0.mk H
    clear H
    go_enter Try.func21, Try.ntmps21
    go_wp2
    repeat (go_quiet (fail); try go_wp2)
    go_loopg [13] k (fun kq v13 w' => ∃ (x13_1 : Int), v13 = .int .i64 x13_1 ∧ Aside0 (slices_Equal_int_int.l0 kq l0 l1 (l0.length : Int) x13_1 = some r) ∧ Aside0 (kq ≤ k) ∧ Drawn0 w w')
    case atStart => exact ⟨(0), (by first | rfl | (simp; done) | (simp [*]; done)), H', ⟨Nat.le_refl _⟩, by repeat (first | exact Drawn0.refl _ | apply Drawn0.step)⟩
    case round =>
      clear H'
      try clear c1
      try clear c2
      try clear p2
      try clear c3
      try clear c3b0
      try clear c3b1
      try clear c3b2
      obtain ⟨x13_1, rfl, HA, HK1, ⟨m1, rfl⟩⟩ := hrel
      cases gk with
      | zero => exact absurd HA.out (by simp [slices_Equal_int_int.l0])
      | succ k1 =>
        have H := HA.out
        clear HA
        simp only [slices_Equal_int_int.l0] at H
        by_cases c4 : x13_1 < (l0.length : Int)
        · rw [if_pos c4] at H
          have c4b0 : decide (x13_1 < (l0.length : Int)) = true := decide_eq_true c4
          clear c4
          by_cases c5 : 0 ≤ x13_1
          · rw [if_pos c5] at H
            have c5b0 : decide (0 ≤ x13_1) = true := decide_eq_true c5
            clear c5
            by_cases c6 : x13_1 < (l0.length : Int)
            · rw [if_pos c6] at H
              have c6b0 : decide (x13_1 < (l0.length : Int)) = true := decide_eq_true c6
              clear c6
              by_cases c7 : x13_1 < (l1.length : Int)
              · rw [if_pos c7] at H
                have c7b0 : decide (x13_1 < (l1.length : Int)) = true := decide_eq_true c7
                clear c7
                by_cases c8 : (rd l0 x13_1) = (rd l1 x13_1)
                · rw [if_pos c8] at H
                  have c8b0 : ((rd l0 x13_1) == (rd l1 x13_1)) = true := beq_iff_eq.mpr c8
                  have c8b1 : ((rd l0 x13_1) != (rd l1 x13_1)) = false := bne_eq_false_iff_eq.mpr c8
                  clear c8
                  have H' := Aside0.mk H
                  clear H
                  have p162 : 0 ≤ (x13_1 : Int) := of_decide_eq_true (by first | (with_reducible assumption) | assumption)
                  have q162 : x13_1 < (l0.length : Int) := of_decide_eq_true (by first | (with_reducible assumption) | assumption)
                  obtain ⟨ad162, e162, hx162_0⟩ := Kd.at_int HR0.out x13_1 p162 q162
                  cases e162
                  replace p162 := eq_true p162
                  replace q162 := eq_true q162
                  have p163 : 0 ≤ (x13_1 : Int) := of_decide_eq_true (by first | (with_reducible assumption) | assumption)
                  have q163 : x13_1 < (l1.length : Int) := of_decide_eq_true (by first | (with_reducible assumption) | assumption)
                  obtain ⟨ad163, e163, hx163_0⟩ := Kd.at_int HR1.out x13_1 p163 q163
                  cases e163
                  replace p163 := eq_true p163
                  replace q163 := eq_true q163
                  go_wp2
                  repeat (go_quiet (fail); try go_wp2)
                  go_roundg k1
                  case measure => have := HK1.out; omega
                  case rel => exact ⟨(wrap64 (x13_1 + 1)), (by first | rfl | (simp; done) | (simp [*]; done)), H', ⟨by have := HK1.out; omega⟩, by repeat (first | exact Drawn0.refl _ | apply Drawn0.step)⟩
                · rw [if_neg c8] at H
                  have c8b0 : ((rd l0 x13_1) == (rd l1 x13_1)) = false := beq_eq_false_iff_ne.mpr c8
                  have c8b1 : ((rd l0 x13_1) != (rd l1 x13_1)) = true := bne_iff_ne.mpr c8
                  obtain rfl := Option.some.inj H
                  have p162 : 0 ≤ (x13_1 : Int) := of_decide_eq_true (by first | (with_reducible assumption) | assumption)
                  have q162 : x13_1 < (l0.length : Int) := of_decide_eq_true (by first | (with_reducible assumption) | assumption)
                  obtain ⟨ad162, e162, hx162_0⟩ := Kd.at_int HR0.out x13_1 p162 q162
                  cases e162
                  replace p162 := eq_true p162
                  replace q162 := eq_true q162
                  have p163 : 0 ≤ (x13_1 : Int) := of_decide_eq_true (by first | (with_reducible assumption) | assumption)
                  have q163 : x13_1 < (l1.length : Int) := of_decide_eq_true (by first | (with_reducible assumption) | assumption)
                  obtain ⟨ad163, e163, hx163_0⟩ := Kd.at_int HR1.out x13_1 p163 q163
                  cases e163
                  replace p163 := eq_true p163
                  replace q163 := eq_true q163
                  go_wp2
                  repeat (go_quiet (fail); try go_wp2)
                  go_ret
                  exact ⟨by first | rfl | (simp; done) | (simp [*]; done), by repeat (first | exact Drawn0.refl _ | apply Drawn0.step)⟩
              · rw [if_neg c7] at H
                exact absurd H (by simp)
            · rw [if_neg c6] at H
              exact absurd H (by simp)
          · rw [if_neg c5] at H
            exact absurd H (by simp)
        · rw [if_neg c4] at H
          have c4b0 : decide (x13_1 < (l0.length : Int)) = false := decide_eq_false c4
          clear c4
          obtain rfl := Option.some.inj H
          go_wp2
          repeat (go_quiet (fail); try go_wp2)
          go_ret
          exact ⟨by first | rfl | (simp; done) | (simp [*]; done), by repeat (first | exact Drawn0.refl _ | apply Drawn0.step)⟩
  · rw [if_neg c3] at H
    have c3b0 : ((l0.length : Int) == (l1.length : Int)) = false := beq_eq_false_iff_ne.mpr c3
    have c3b1 : ((l0.length : Int) != (l1.length : Int)) = true := bne_iff_ne.mpr c3
    have c3b2 : (l0.length == l1.length) = false := by first | simpa using c3 | (simp at c3 ⊢; omega)
    obtain rfl := Option.some.inj H
    go_enter Try.func21, Try.ntmps21
    go_wp2
    repeat (go_quiet (fail); try go_wp2)
    go_ret
    exact ⟨by first | rfl | (simp; done) | (simp [*]; done), by repeat (first | exact Drawn0.refl _ | apply Drawn0.step)⟩

/-! ### wrackkeep1_passed: function 18 -/
theorem put4 {W : World} {g : Nat} {t : TypeId} {a b c d : Value} (h : W.heap[g]? = some (.cells #[a, b, c, d] t (0, 0))) (a' b' c' d' : Value) :
    ((((W.setCell ⟨g, 0, none⟩ a').setCell ⟨g, 1, none⟩ b').setCell ⟨g, 2, none⟩ c').setCell ⟨g, 3, none⟩ d').heap[g]? = some (.cells #[a', b', c', d'] t (0, 0)) ∧
    (∀ k, k ≠ g → ((((W.setCell ⟨g, 0, none⟩ a').setCell ⟨g, 1, none⟩ b').setCell ⟨g, 2, none⟩ c').setCell ⟨g, 3, none⟩ d').heap[k]? = W.heap[k]?) ∧
    (∀ (m : Nat) (w : World), Below m w W → m ≤ g → Below m w ((((W.setCell ⟨g, 0, none⟩ a').setCell ⟨g, 1, none⟩ b').setCell ⟨g, 2, none⟩ c').setCell ⟨g, 3, none⟩ d')) :=
  ⟨blk_put (blk_put (blk_put (blk_put h 0 _ rfl) 1 _ rfl) 2 _ rfl) 3 _ rfl,
   fun k hk => (((Below.heap_setCell _ ⟨g, 3, none⟩ _ k hk).trans (Below.heap_setCell _ ⟨g, 2, none⟩ _ k hk)).trans (Below.heap_setCell _ ⟨g, 1, none⟩ _ k hk)).trans (Below.heap_setCell _ ⟨g, 0, none⟩ _ k hk),
   fun m w hb hg => Below.setCell (Below.setCell (Below.setCell (Below.setCell hb (p := ⟨g, 0, none⟩) hg _) (p := ⟨g, 1, none⟩) hg _) (p := ⟨g, 2, none⟩) hg _) (p := ⟨g, 3, none⟩) hg _⟩
def pft (a : Nat) : Int × Int × Int := if a = 0 then (0, 1, 0) else (0, 0, 0)
theorem passed_reads : (runJ (List.replicate 192 0) pft 1 1 3).R = [0, 2, 1] := by rfl
set_option maxHeartbeats 4000000 in
set_option maxRecDepth 100000 in
theorem wrackkeep1_passed.calls (k : Nat) (w : World) (hN : drive_New.f k (List.replicate 192 0) [(⟨0, 1, 0⟩ : S59)] = some ()) (hf : ∀ a < 3, drive_fault.f k (List.replicate 192 0) [(⟨0, 1, 0⟩ : S59)] ((a : Nat) : Int) = some (pft a)) (hE : slices_Equal_int_int.f k [0, 2, 1] [0, 2, 1] = some true) :
    Calls Try.prog 18 #[] w fun e w' => e = .returned (.bool true) ∧ Below w.heap.size w w' := by
  have hT : ∀ a < 3, drive_fault.f k (List.replicate 192 0) [(⟨0, 1, 0⟩ : S59)] ((a : Nat) : Int) = some (pft a) ∧ 0 ≤ ansT (pft a) ∧ ansT (pft a) ≤ 100 := fun a ha => ⟨hf a ha, by unfold pft ansT; split <;> simp, by unfold pft ansT; split <;> simp⟩
  obtain ⟨D, hD⟩ : ∃ x, (List.replicate 192 0 : List Int) = x := ⟨_, rfl⟩
  obtain ⟨F, hF⟩ : ∃ x, [(⟨0, 1, 0⟩ : S59)] = x := ⟨_, rfl⟩
  obtain ⟨Q, hQ⟩ : ∃ x : List Int, [0, 2, 1] = x := ⟨_, rfl⟩
  have hR := passed_reads
  rw [hD, hF] at hN hT
  rw [hD, hQ] at hR
  rw [hQ] at hE
  have hlD : D.length = 64 * 3 := by rw [← hD]; rfl
  have hlQ : Q.length = 3 := by rw [← hQ]; rfl
  have RL := Aside0.mk hlD
  have QL := Aside0.mk hlQ
  have NN := Aside0.mk hN
  have TT := Aside0.mk hT
  have EE := Aside0.mk hE
  have RR := Aside0.mk hR
  have ND := Aside0.mk hD
  have NF := Aside0.mk hF
  have NQ := Aside0.mk hQ
  have hu59 := Try.underlying59
  have hu26 := Try.underlying26
  have hu43 := Try.underlying43
  have hu46 := Try.underlying46
  obtain ⟨J, hJ⟩ : ∃ x, runJ D pft 1 1 3 = x := ⟨_, rfl⟩
  rw [hJ] at hR
  have RR2 := Aside0.mk hR
  have HJ := Aside0.mk hJ
  clear hJ RR
  clear hlD hlQ hN hT hE hR hD hF hQ hf
  go_enter Try.func18, Try.ntmps18
  go_upto_region 2 with (first | ((with_reducible refine gate_dst (N := 4) rfl ?_); refine Kd.R_make (Kd.int .u8) _ 5 rfl (N := 4) rfl 23 _ _ rfl 192 rfl rfl Try.underlying23 (.int .u8 0) 1 info5 rfl (by decide) (by omega) 0 (ok := fun _ => True) (okp := fun _ => True) rfl (fun _ hk => hk) trivial (by omega) (by omega) (Below.refl _ _) (Nat.le_refl _) ?_; intro v1 w1 ho hb hg_ hnew_; clear hg_ hnew_; (first | rw [ND.out] at ho | (simp only [Int.reduceToNat] at ho; rw [ND.out] at ho)); have HD1 := Aside0.mk ho; have HB1 := Aside0.mk hb; clear hb ho) | ((with_reducible refine gate_dst (N := 6) rfl ?_); refine Kd.R_lit k59 _ 59 ?hg (N := 6) ?hd (xs := ([(⟨0, 1, 0⟩ : S59)] : List (S59))) (inner := [.int .i64 0, .int .i64 1, .int .i64 0]) (ok := fun _ => True) (okp := fun _ => True) ?hr ?hp (fun _ hk => hk) trivial (Below.refl _ _) (Nat.le_refl _) (by simp) ?_; (case hd => rfl); (case hg => rfl); (case hr => first | (go_simp; done) | (go_simp; rfl)); (case hp => exact (Reps.c3 (show Kd.M k59 _ _ _ (⟨0, 1, 0⟩ : S59) [.int .i64 0, .int .i64 1, .int .i64 0] from (k59_mkM _ _ _ (⟨0, 1, 0⟩ : S59) )) (Reps.none _ _))); intro v2 w2 ho hb hg_ hnew_; clear hg_ hnew_; rw [NF.out] at ho; have HD2 := Aside0.mk (Kd.R_below HD1.out hb); have HF2 := Aside0.mk (Kd.R_lower ho HB1.out.size); have HB2 := Aside0.mk (below_step HB1.out hb); clear hb ho; obtain ⟨AD, cD, eD⟩ := Kd.R_slice HD2.out; subst eD; obtain ⟨AF, cF, eF⟩ := Kd.R_slice HF2.out; subst eF) | (go_at_call 17; have HC := (pass_Run.calls k AD cD D AF cF F 1 1 3 pft _ (Kd.R_reads' HD2.out).2.2 (Kd.R_reads' HD2.out).2.1 (Kd.R_reads' HF2.out).2.2 (Kd.R_reads' HF2.out).2.1 NN.out (by omega) (by omega) (by omega) (by omega) RL.out (by rw [RL.out]; omega) TT.out); rw [HJ.out] at HC; refine HC.mono ?_; clear HC; rintro e w3 ⟨vS, vB, vR, rfl, hS3, hB3, hR3, hb⟩; obtain ⟨AS, cS, eS⟩ := Kd.R_slice hS3; subst eS; obtain ⟨AB, cB, eB⟩ := Kd.R_slice hB3; subst eB; obtain ⟨AR, cR, eR⟩ := Kd.R_slice hR3; subst eR; clear hS3 hB3; have HR3 := Aside0.mk hR3; have HB3 := Aside0.mk (below_step HB2.out hb); have HZ3 := Aside0.mk HB2.out.size; clear hb hR3) | ((with_reducible refine gate_dst (N := 1) rfl ?_); refine box_event ?hg (N := 1) ?hd (cs := #[.slice none 0 0, .slice none 0 0, .slice none 0 0, .int .i64 0]) (t := 46) ?hr ?_; (case hd => rfl); (case hg => rfl); (case hr => first | (go_simp; done) | (go_simp; rfl)); intro g4 hg w4 hbox hb; have GE4 := Aside0.mk (by rw [hg]; exact HB3.out.size : w.heap.size ≤ g4); have HS4 := Aside0.mk (by rw [hg]; exact Nat.le_refl _ : w3.heap.size ≤ g4); have BK4 := Aside0.mk hbox; have HB4 := Aside0.mk (below_step HB3.out hb); have HW4 := Aside0.mk hb; clear hb hbox hg; have u0 : w4.cell? ⟨g4, 0, none⟩ = some (.slice none 0 0) := (blk_cell BK4.out 0).trans rfl; have u1 : w4.cell? ⟨g4, 1, none⟩ = some (.slice none 0 0) := (blk_cell BK4.out 1).trans rfl; have u2 : w4.cell? ⟨g4, 2, none⟩ = some (.slice none 0 0) := (blk_cell BK4.out 2).trans rfl; have u3 : w4.cell? ⟨g4, 3, none⟩ = some (.int .i64 0) := (blk_cell BK4.out 3).trans rfl; have f0 := blk_frozen BK4.out 0; have f1 := blk_frozen BK4.out 1; have f2 := blk_frozen BK4.out 2; have f3 := blk_frozen BK4.out 3))
  obtain ⟨p1, p2, p3⟩ := put4 BK4.out (.slice AS J.S.length cS) (.slice AB J.B.length cB) (.slice AR J.R.length cR) (.int .i64 J.tm)
  clear u0 u1 u2 u3 f0 f1 f2 f3
  generalize (((w4.setCell ⟨g4, 0, none⟩ (.slice AS J.S.length cS)).setCell ⟨g4, 1, none⟩ (.slice AB J.B.length cB)).setCell ⟨g4, 2, none⟩ (.slice AR J.R.length cR)).setCell ⟨g4, 3, none⟩ (.int .i64 J.tm) = W5 at p1 p2 p3 ⊢
  have HB5 := Aside0.mk (p3 _ _ HB4.out GE4.out)
  have HR5 := Aside0.mk (Kd.R_step (Kd.R_bound HR3.out) (fun k hk hl => (p2 k (by have := hk.2.2.1; have := HS4.out; omega)).trans (HW4.out.block k hl)))
  have hq : J.R = Q := RR2.out
  have v2 : W5.cell? ⟨g4, 2, none⟩ = some (.slice AR J.R.length cR) := (blk_cell p1 2).trans rfl
  clear p1 p2 p3
  rw [hq] at v2 HR5
  clear hq
  go_wp2_with (first | ((with_reducible refine gate_dst (N := 17) rfl ?_); (try (refine gate_guard (by rfl) ?_; dsimp only)); refine Kd.R_lit (Kd.int .i64) _ 3 ?hg (N := 17) ?hd (xs := ([0, 2, 1] : List Int)) (inner := [.int .i64 0, .int .i64 2, .int .i64 1]) (ok := fun _ => True) (okp := fun _ => True) ?hr ?hp (fun _ hk => hk) trivial (Below.refl _ _) (Nat.le_refl _) (by simp) ?_; (case hd => rfl); (case hg => rfl); (case hr => first | (go_simp; done) | (go_simp; rfl)); (case hp => exact (Reps.one (show Kd.M (Kd.int .i64) _ _ _ 0 [.int .i64 0] from rfl) (Reps.one (show Kd.M (Kd.int .i64) _ _ _ 2 [.int .i64 2] from rfl) (Reps.one (show Kd.M (Kd.int .i64) _ _ _ 1 [.int .i64 1] from rfl) (Reps.none _ _))))); intro v6 w6 ho hb hg_ hnew_; clear hg_ hnew_; rw [NQ.out] at ho; have HQ6 := Aside0.mk ho; have HR6 := Aside0.mk (Kd.R_below HR5.out hb); have HB6 := Aside0.mk (below_step HB5.out hb); clear hb ho; obtain ⟨AQ, cQ, eQ⟩ := Kd.R_slice HQ6.out; subst eQ) | (go_at_call 21; refine (slices_Equal_int_int.calls k AR cR Q AQ cQ Q true _ (Kd.R_reads' HR6.out).2.2 (Kd.R_reads' HR6.out).2.1 (Kd.R_reads' HQ6.out).2.2 (Kd.R_reads' HQ6.out).2.1 EE.out).mono ?_; rintro e w7 ⟨rfl, nd, rfl⟩))
  go_ret
  exact ⟨rfl, pw_below_drewN HB6.out nd⟩

/-! ### wrackkeep1_PassReads: function 4 -/
theorem count_take_succ (a : Int) (xs : List Int) (y : Nat) (h : y < xs.length) : (xs.take (y + 1)).count a = (xs.take y).count a + (if rdOf 0 xs (y : Int) = a then 1 else 0) := by
  have e : rdOf (0 : Int) xs (y : Int) = xs[y] := by simp [rdOf, h]
  rw [List.take_succ_eq_append_getElem h, List.count_append, e, List.count_singleton]
  by_cases c : xs[y] = a
  · simp [c]
  · simp [c, beq_eq_false_iff_ne.mpr c]
/-- The first attempt that works, by the law's own loop. -/
def needL (f : Int × Int × Int) : Nat → Int → Int
  | 0, v => v
  | t + 1, v => needL f t (if ansE f ((t : Int) + 1) = 0 then (t : Int) + 1 else v)
theorem put2 {W : World} {g : Nat} {t : TypeId} {a b : Value} (h : W.heap[g]? = some (.cells #[a, b] t (0, 0))) (a' b' : Value) :
    ((W.setCell ⟨g, 0, none⟩ a').setCell ⟨g, 1, none⟩ b').heap[g]? = some (.cells #[a', b'] t (0, 0)) ∧
    (∀ k, k ≠ g → ((W.setCell ⟨g, 0, none⟩ a').setCell ⟨g, 1, none⟩ b').heap[k]? = W.heap[k]?) ∧
    (∀ (m : Nat) (w : World), Below m w W → m ≤ g → Below m w ((W.setCell ⟨g, 0, none⟩ a').setCell ⟨g, 1, none⟩ b')) :=
  ⟨blk_put (blk_put h 0 _ rfl) 1 _ rfl, fun k hk => (Below.heap_setCell _ ⟨g, 1, none⟩ _ k hk).trans (Below.heap_setCell _ ⟨g, 0, none⟩ _ k hk), fun m w hb hg => Below.setCell (Below.setCell hb (p := ⟨g, 0, none⟩) hg _) (p := ⟨g, 1, none⟩) hg _⟩
set_option maxHeartbeats 4000000 in
set_option maxRecDepth 100000 in
theorem wrackkeep1_PassReads.lawx (k : Nat) (A0 : Option Addr) (c0 : Nat) (l0 : List Int) (a1 a2 : Int) (w : World) (hr0 : Kd.C (Kd.int .i64) w A0 l0.length l0) (hc0 : l0.length ≤ c0)
    (D : List Int) (F : List S59) (K T nb : Nat) (ft : Nat → Int × Int × Int) (h1 : wrackmake_Drive.f k l0 = some (D, F)) (h2 : drive_New.f k D F = some ()) (h3 : wrackkeep1_drives.f k = some true) (h4 : wrackkeep1_plan.f a1 a2 = some ((K : Int), (T : Int))) (hK : K ≤ 64) (hT1 : 1 ≤ T) (hT2 : T ≤ 16)
    (hnb : 1 ≤ nb) (hD : D.length = 64 * nb) (hD2 : D.length ≤ 65536) (hc : drive_Check.f k D F = some 0)
    (hf : ∀ a < nb, drive_fault.f k D F (a : Int) = some (ft a) ∧ 0 ≤ ansT (ft a) ∧ ansT (ft a) ≤ 100)
    (p1 : drive_New.f k (List.replicate 192 0) [(⟨0, 1, 0⟩ : S59)] = some ()) (p2 : ∀ a < 3, drive_fault.f k (List.replicate 192 0) [(⟨0, 1, 0⟩ : S59)] ((a : Nat) : Int) = some (pft a)) (p3 : slices_Equal_int_int.f k [0, 2, 1] [0, 2, 1] = some true)
    (J : JS) (hJ : runJ D ft K T nb = J) (j1 : J.S.length = nb) (j2 : J.B.length = 64 * nb) (j3 : J.R.length ≤ 100000)
    (j4 : ∀ a < nb, rdOf 0 J.S ((a : Nat) : Int) = if ansE (ft a) T = 0 then 1 else 2)
    (j5 : ∀ a < nb, ansE (ft a) T = 0 → slices_Equal_byte_byte.f k (ansR D (a : Nat) (ft a) T) ((J.B.drop (64 * a)).take 64) = some true)
    (j6 : ∀ a < nb, ((J.R.count ((a : Nat) : Int) : Nat) : Int) = needL (ft a) T T) :
    Calls Try.prog 4 #[.slice A0 l0.length c0, .int .i64 a1, .int .i64 a2] w fun e w' => e = .returned (.bool true) ∧ Below w.heap.size w w' := by
  have HA : Aside0 (∀ a < nb, ∀ t : Int, 1 ≤ t → drive_Answer.f k D F ((a : Nat) : Int) t = some (ansR D a (ft a) t, ansT (ft a), ansE (ft a) t)) := ⟨by
    intro a ha t ht
    unfold drive_Answer.f
    rw [hc, Option.bind_some, if_pos ⟨rfl, by omega, by omega, ht, hD2⟩, (hf a ha).1, Option.bind_some]⟩
  have HR0 := Aside0.mk hr0
  have HC0 := Aside0.mk hc0
  have H1 := Aside0.mk h1
  have H2 := Aside0.mk h2
  have H3 := Aside0.mk h3
  have H4 := Aside0.mk h4
  have HD := Aside0.mk hD
  have HF := Aside0.mk hf
  have HP := Aside0.mk (And.intro p1 (And.intro p2 p3))
  have HJ := Aside0.mk hJ
  have J1 := Aside0.mk j1
  have J2 := Aside0.mk j2
  have J3 := Aside0.mk j3
  have J4 := Aside0.mk j4
  have J5 := Aside0.mk j5
  have J6 := Aside0.mk j6
  have eq64 : (D.length : Int) / 64 = (nb : Int) := by omega
  have EQ64 := Aside0.mk eq64
  have hnb2 : nb ≤ 1024 := by omega
  clear hr0 hc0 h1 h2 h3 h4 hD hf p1 p2 p3 hJ j1 j2 j3 j4 j5 j6 hc eq64
  have hu26 := Try.underlying26
  have hu43 := Try.underlying43
  have hu46 := Try.underlying46
  go_enter Try.func4, Try.ntmps4
  go_upto_region 2 with (first | (go_at_call 6; refine (wrackmake_Drive.calls k A0 c0 l0 D F _ HR0.out HC0.out H1.out).mono ?_; rintro e w1 ⟨v1, v2, rfl, hR1, hR2, hb⟩; have HB1 := Aside0.mk hb; have HRD1 := Aside0.mk hR1; have HRF1 := Aside0.mk hR2; clear hR1 hR2 hb; obtain ⟨AD, cD, eD⟩ := Kd.R_slice HRD1.out; subst eD; obtain ⟨AF, cF, eF⟩ := Kd.R_slice HRF1.out; subst eF) | (go_at_call 16; refine (wrackkeep1_plan.calls a1 a2 _ _ _ H4.out).mono ?_; rintro e w2 ⟨rfl, hb⟩; have HB2 := Aside0.mk (below_step HB1.out hb); have HRD2 := Aside0.mk (Kd.R_below HRD1.out hb); have HRF2 := Aside0.mk (Kd.R_below HRF1.out hb); clear hb HRD1 HRF1) | ((with_reducible refine gate_dst (N := 7) rfl ?_); refine box_event ?hg (N := 7) ?hd (cs := #[.slice none 0 0, .slice none 0 0]) (t := 26) ?hr ?_; (case hd => rfl); (case hg => rfl); (case hr => first | (go_simp; done) | (go_simp; rfl)); intro g7 hg w3 hbox hb; have GE7 := Aside0.mk (by rw [hg]; exact HB2.out.size : w.heap.size ≤ g7); have GF7 := Aside0.mk (by rw [hg]; exact Nat.le_refl _ : w2.heap.size ≤ g7); have BK7 := Aside0.mk hbox; have HB3 := Aside0.mk (below_step HB2.out hb); have HS3 := Aside0.mk hb; clear hb hbox hg) | ((with_reducible refine gate_dst (N := 8) rfl ?_); refine box_event ?hg (N := 8) ?hd (cs := #[.int .i64 0, .int .i64 0]) (t := 43) ?hr ?_; (case hd => rfl); (case hg => rfl); (case hr => first | (go_simp; done) | (go_simp; rfl)); intro g8 hg w4 hbox hb; have GE8 := Aside0.mk (by rw [hg]; exact HB3.out.size : w.heap.size ≤ g8); have GF8 := Aside0.mk (by rw [hg]; exact Nat.le_refl _ : w3.heap.size ≤ g8); have BK8 := Aside0.mk hbox; have HB4 := Aside0.mk (below_step HB3.out hb); have HS4 := Aside0.mk (below_step HS3.out hb); have BK7b := Aside0.mk (blk_below BK7.out hb); clear hb hbox hg; have u0 : w4.cell? ⟨g7, 0, none⟩ = some (.slice none 0 0) := (blk_cell BK7b.out 0).trans rfl; have u1 : w4.cell? ⟨g7, 1, none⟩ = some (.slice none 0 0) := (blk_cell BK7b.out 1).trans rfl; have u2 : w4.cell? ⟨g8, 0, none⟩ = some (.int .i64 0) := (blk_cell BK8.out 0).trans rfl; have u3 : w4.cell? ⟨g8, 1, none⟩ = some (.int .i64 0) := (blk_cell BK8.out 1).trans rfl; have f0 := blk_frozen BK7b.out 0; have f1 := blk_frozen BK7b.out 1; have f2 := blk_frozen BK8.out 0; have f3 := blk_frozen BK8.out 1; have ne78 : g7 ≠ g8 := Nat.ne_of_lt (Nat.lt_of_lt_of_le (blk_lt BK7.out) GF8.out); have ne87 : g8 ≠ g7 := Ne.symm ne78))
  obtain ⟨x1, x2, x3⟩ := put2 BK7b.out (.slice AD D.length cD) (.slice AF F.length cF)
  obtain ⟨y1, y2, y3⟩ := put2 ((x2 g8 ne87).trans BK8.out) (.int .i64 K) (.int .i64 T)
  have le28 : w2.heap.size ≤ g8 := Nat.le_trans (Nat.le_trans GF7.out (Nat.le_of_lt (blk_lt BK7.out))) GF8.out
  have hb5 := y3 _ _ (x3 _ _ HB4.out GE7.out) GE8.out
  have hs5 := y3 _ _ (x3 _ _ HS4.out GF7.out) le28
  have bk7 := (y2 g7 ne78).trans x1
  clear u0 u1 u2 u3 f0 f1 f2 f3 x1 x2 x3 y2 y3
  generalize (((w4.setCell ⟨g7, 0, none⟩ (.slice AD D.length cD)).setCell ⟨g7, 1, none⟩ (.slice AF F.length cF)).setCell ⟨g8, 0, none⟩ (.int .i64 K)).setCell ⟨g8, 1, none⟩ (.int .i64 T) = W5 at y1 hb5 hs5 bk7 ⊢
  have HB5 := Aside0.mk hb5
  have BK75 := Aside0.mk bk7
  have BK85 := Aside0.mk y1
  have HRD5 := Aside0.mk (Kd.R_below HRD2.out hs5)
  have HRF5 := Aside0.mk (Kd.R_below HRF2.out hs5)
  have HD1 := Aside0.mk (Kd.R_reads' HRD5.out).2.2
  have HD2 := Aside0.mk (Kd.R_reads' HRD5.out).2.1
  have HF1 := Aside0.mk (Kd.R_reads' HRF5.out).2.2
  have HF2 := Aside0.mk (Kd.R_reads' HRF5.out).2.1
  clear hb5 hs5 bk7 y1 le28 HRD5 HRF5 HRD2 HRF2 HB4 HB3 HS4 HS3 BK7 BK7b BK8 GF7 GF8 HB1 HB2 ne78 ne87
  have x0 : W5.cell? ⟨g7, 0, none⟩ = some (.slice AD D.length cD) := (blk_cell BK75.out 0).trans rfl
  have x1 : W5.cell? ⟨g7, 1, none⟩ = some (.slice AF F.length cF) := (blk_cell BK75.out 1).trans rfl
  have x2 : W5.cell? ⟨g8, 0, none⟩ = some (.int .i64 K) := (blk_cell BK85.out 0).trans rfl
  have x3 : W5.cell? ⟨g8, 1, none⟩ = some (.int .i64 T) := (blk_cell BK85.out 1).trans rfl
  go_upto_region 3 with (first | (go_at_call 17; have HC := (pass_Run.calls k AD cD D AF cF F K T nb ft _ HD1.out HD2.out HF1.out HF2.out H2.out hK hT1 hT2 hnb HD.out hD2 HF.out); rw [HJ.out] at HC; refine HC.mono ?_; clear HC; rintro e w6 ⟨vS, vB, vR, rfl, hS3, hB3, hR3, hb⟩; obtain ⟨AS, cS, eS⟩ := Kd.R_slice hS3; subst eS; obtain ⟨AB, cB, eB⟩ := Kd.R_slice hB3; subst eB; obtain ⟨AR, cR, eR⟩ := Kd.R_slice hR3; subst eR; have HRS6 := Aside0.mk hS3; have HRB6 := Aside0.mk hB3; have HRR6 := Aside0.mk hR3; have HB6 := Aside0.mk (below_step HB5.out hb); have HS6 := Aside0.mk hb; clear hb hR3 hS3 hB3) | ((with_reducible refine gate_dst (N := 9) rfl ?_); refine box_event ?hg (N := 9) ?hd (cs := #[.slice none 0 0, .slice none 0 0, .slice none 0 0, .int .i64 0]) (t := 46) ?hr ?_; (case hd => rfl); (case hg => rfl); (case hr => first | (go_simp; done) | (go_simp; rfl)); intro g9 hg w7 hbox hb; have GE9 := Aside0.mk (by rw [hg]; exact HB6.out.size : w.heap.size ≤ g9); have GF9 := Aside0.mk (by rw [hg]; exact Nat.le_refl _ : w6.heap.size ≤ g9); have BK9 := Aside0.mk hbox; have HB7 := Aside0.mk (below_step HB6.out hb); have HS7 := Aside0.mk (below_step HS6.out hb); have HT7 := Aside0.mk hb; clear hb hbox hg; have u0 : w7.cell? ⟨g9, 0, none⟩ = some (.slice none 0 0) := (blk_cell BK9.out 0).trans rfl; have u1 : w7.cell? ⟨g9, 1, none⟩ = some (.slice none 0 0) := (blk_cell BK9.out 1).trans rfl; have u2 : w7.cell? ⟨g9, 2, none⟩ = some (.slice none 0 0) := (blk_cell BK9.out 2).trans rfl; have u3 : w7.cell? ⟨g9, 3, none⟩ = some (.int .i64 0) := (blk_cell BK9.out 3).trans rfl; have f0 := blk_frozen BK9.out 0; have f1 := blk_frozen BK9.out 1; have f2 := blk_frozen BK9.out 2; have f3 := blk_frozen BK9.out 3))
  clear x0 x1 x2 x3
  obtain ⟨y1, y2, y3⟩ := put4 BK9.out (.slice AS J.S.length cS) (.slice AB J.B.length cB) (.slice AR J.R.length cR) (.int .i64 J.tm)
  have hb8 := y3 _ _ HB7.out GE9.out
  have hs8 := y3 _ _ HS7.out (Nat.le_trans HS6.out.size GF9.out)
  have ht8 := y3 _ _ HT7.out GF9.out
  clear u0 u1 u2 u3 f0 f1 f2 f3 y2 y3
  generalize (((w7.setCell ⟨g9, 0, none⟩ (.slice AS J.S.length cS)).setCell ⟨g9, 1, none⟩ (.slice AB J.B.length cB)).setCell ⟨g9, 2, none⟩ (.slice AR J.R.length cR)).setCell ⟨g9, 3, none⟩ (.int .i64 J.tm) = W8 at y1 hb8 hs8 ht8 ⊢
  have HB8 := Aside0.mk hb8
  have HSS := Aside0.mk (Kd.R_below HRS6.out ht8)
  have HSB := Aside0.mk (Kd.R_below HRB6.out ht8)
  have HSR := Aside0.mk (Kd.R_below HRR6.out ht8)
  have BK78 := Aside0.mk (blk_below BK75.out hs8)
  have BK88 := Aside0.mk (blk_below BK85.out hs8)
  have BK98 := Aside0.mk y1
  have HD3 := Aside0.mk (Kd.C_below HD1.out hs8)
  have HF3 := Aside0.mk (Kd.C_below HF1.out hs8)
  clear hb8 hs8 ht8 y1 HRS6 HRB6 HRR6 BK75 BK85 BK9 HB5 HB6 HB7 HS6 HS7 HT7 GF9 GE9 GE7 GE8 HD1 HF1
  obtain ⟨bs, hAS⟩ : ∃ bs, AS = some ⟨bs, 0, none⟩ := by
    obtain ⟨gx, cx, ex, _⟩ := Kd.R_form HSS.out (by rw [J1.out]; omega)
    injection ex with ex
    exact ⟨gx, ex⟩
  obtain ⟨bb, hAB⟩ : ∃ bb, AB = some ⟨bb, 0, none⟩ := by
    obtain ⟨gx, cx, ex, _⟩ := Kd.R_form HSB.out (by rw [J2.out]; omega)
    injection ex with ex
    exact ⟨gx, ex⟩
  subst hAS hAB
  rw [J1.out] at HSS BK98
  rw [J2.out] at HSB BK98
  have HLW : Aside0 (∀ w', Below W8.heap.size W8 w' → w'.cell? ⟨g7, 0, none⟩ = some (.slice AD D.length cD) ∧ w'.cell? ⟨g7, 1, none⟩ = some (.slice AF F.length cF) ∧ w'.cell? ⟨g8, 1, none⟩ = some (.int .i64 T) ∧ w'.cell? ⟨g9, 0, none⟩ = some (.slice (some ⟨bs, 0, none⟩) nb cS) ∧ w'.cell? ⟨g9, 1, none⟩ = some (.slice (some ⟨bb, 0, none⟩) (64 * nb) cB) ∧ w'.cell? ⟨g9, 2, none⟩ = some (.slice AR J.R.length cR) ∧
      Kd.C (Kd.int .u8) w' AD D.length D ∧ Kd.C k59 w' AF F.length F ∧ Kd.R (Kd.int .i64) 3 w' W5.heap.size (fun _ => True) (.slice (some ⟨bs, 0, none⟩) nb cS) J.S ∧ Kd.R (Kd.int .u8) 5 w' W5.heap.size (fun _ => True) (.slice (some ⟨bb, 0, none⟩) (64 * nb) cB) J.B ∧ Kd.R (Kd.int .i64) 3 w' W5.heap.size (fun _ => True) (.slice AR J.R.length cR) J.R) := ⟨fun w' hb =>
    ⟨(blk_cell (blk_below BK78.out hb) 0).trans rfl, (blk_cell (blk_below BK78.out hb) 1).trans rfl, (blk_cell (blk_below BK88.out hb) 1).trans rfl, (blk_cell (blk_below BK98.out hb) 0).trans rfl, (blk_cell (blk_below BK98.out hb) 1).trans rfl, (blk_cell (blk_below BK98.out hb) 2).trans rfl, Kd.C_below HD3.out hb, Kd.C_below HF3.out hb, Kd.R_below HSS.out hb, Kd.R_below HSB.out hb, Kd.R_below HSR.out hb⟩⟩
  clear HSS HSB HSR BK78 BK88 BK98 HD3 HF3
  have HS8 := Aside0.mk (Below.refl W8.heap.size W8)
  obtain ⟨x0, x1, x2, x3, x4, x5, -⟩ := HLW.out W8 HS8.out
  have eq64 := EQ64.out
  go_upto_region 4 with (fail)
  clear x0 x1 x2 eq64
  go_upto_region 6 with (first | (go_at_call 18; refine (wrackkeep1_passed.calls k _ HP.out.1 HP.out.2.1 HP.out.2.2).mono ?_; rintro e w9 ⟨rfl, hb⟩; have HS9 := Aside0.mk hb; obtain ⟨-, -, -, y3, y4, y5, -⟩ := HLW.out w9 HS9.out; clear x3 x4 x5 hb) | (go_at_call 8; refine (wrackkeep1_drives.calls k true _ H3.out).mono ?_; rintro e w10 ⟨rfl, hb⟩; have HS10 := Aside0.mk (below_step HS9.out hb); obtain ⟨-, -, -, x3, x4, x5, -⟩ := HLW.out w10 HS10.out; clear y3 y4 y5 hb))
  clear x3 x4 x5 HS8 HS9
  obtain ⟨i0, hi0, _, hsz, _⟩ := info_parts info5
  go_upto_region 7 with (fail)
  go_loopw [65] (fun i wr => ∃ (x : Nat), x ≤ nb ∧ i = .int .i64 x ∧ Aside0 (Below W8.heap.size W8 wr)) (fun i _ => nb - (intOf i).toNat)
  case atStart => exact ⟨0, Nat.zero_le _, rfl, HS10⟩
  case round =>
    obtain ⟨x, h1, rfl, HBr⟩ := hrel
    clear HS10
    by_cases hlt : x < nb
    · obtain ⟨E, hE⟩ : ∃ E, ansE (ft x) T = E := ⟨_, rfl⟩
      obtain ⟨V, hV⟩ : ∃ V, ansR D x (ft x) T = V := ⟨_, rfl⟩
      have HAx := Aside0.mk (HA.out x hlt T (by omega))
      rw [hE, hV] at HAx
      have HE := Aside0.mk hE
      have HV := Aside0.mk hV
      have HLT := Aside0.mk hlt
      have hS := J4.out x hlt
      rw [hE] at hS
      have JE5 := Aside0.mk (J5.out x hlt)
      rw [hE, hV] at JE5
      have HN := Aside0.mk (J6.out x hlt)
      obtain ⟨y0, y1, y2, y3, y4, y5, hd, hff, hs, hbx, hrx⟩ := HLW.out wr HBr.out
      have HDr := Aside0.mk hd
      have HFr := Aside0.mk hff
      have hx100 : x ≤ 1024 := by omega
      clear hd hff hs hbx hrx hE hV y3 y4 y5
      go_upto_region 10 with (go_at_call 11; refine (drive_Answer.calls k AD cD D AF cF F x T V _ E wr HDr.out HD2.out HFr.out HF2.out HAx.out).mono ?_; rintro e w2 ⟨v2, rfl, hR, hb⟩; have HR2 := Aside0.mk hR; have HS2 := Aside0.mk (below_step HBr.out hb); clear hR hb; obtain ⟨Av, cv, ev⟩ := Kd.R_slice HR2.out; subst ev)
      clear y0 y1 y2 HDr HFr HAx
      obtain ⟨-, -, -, y3, y4, y5, -, -, hs, hbx, -⟩ := HLW.out w2 HS2.out
      obtain ⟨z0, -⟩ := Kd.R_celln 0 hs (x : Int) (by omega) (by omega)
      rw [Int.toNat_natCast, hS] at z0
      have HBX := Aside0.mk hbx
      have hcb := (Kd.R_reads' hbx).2.1
      clear hs hbx hS
      by_cases hz : E = 0
      · subst hz
        rw [if_pos rfl] at z0
        have HEq := Aside0.mk (JE5.out rfl)
        have hlB := J2.out
        have hcut := cut_mid (P := Try.prog) 23 5 .i64 .i64 Try.underlying23 hi0 1 hsz (some ⟨bb, 0, none⟩) (64 * nb) cB (64 * (x : Int)) (64 * (x : Int) + 64) (by omega) (by omega) (by omega) (by omega)
        obtain ⟨row, hrow⟩ : ∃ row, (J.B.drop (64 * x)).take 64 = row := ⟨_, rfl⟩
        have hlen : row.length = 64 := by rw [← hrow, List.length_take, List.length_drop]; omega
        have el : (64 * (x : Int) + 64).toNat - (64 * (x : Int)).toNat = row.length := by omega
        have et : (64 * (x : Int)).toNat = 64 * x := by omega
        rw [el, et] at hcut
        rw [hrow] at HEq
        have HCUT : Aside0 (Kd.C (Kd.int .u8) w2 (if cB = 64 * x then (some ⟨bb, 0, none⟩) else (some ⟨bb, 0, none⟩ : Option Addr).map (·.add ((64 * x) * 1))) row.length row) := ⟨by
          have h1 := Kd.C_drop (Kd.R_reads' HBX.out).2.2 (m := 64 * x) (c := cB) (by omega) (by omega)
          have h2 := Kd.C_take (m := 64) h1 (by rw [List.length_drop]; omega)
          rw [hrow] at h2
          exact h2⟩
        have HLEN := Aside0.mk (show row.length ≤ cB - 64 * x from by omega)
        generalize (if cB = 64 * x then (some ⟨bb, 0, none⟩) else (some ⟨bb, 0, none⟩ : Option Addr).map (·.add ((64 * x) * 1))) = AC at hcut HCUT
        clear hlen el et hrow hlB
        go_upto_region 12 with (fail)
        go_upto_region 15 with (go_at_call 13; refine (slices_Equal_byte_byte.calls k Av cv V AC (cB - 64 * x) row true _ (Kd.R_reads' HR2.out).2.2 (Kd.R_reads' HR2.out).2.1 HCUT.out HLEN.out HEq.out).mono ?_; rintro e w3 ⟨rfl, nd, rfl⟩; have HSm := Aside0.mk (pw_below_drewN HS2.out nd))
        clear hcut HEq HCUT HLEN z0 y3 y4
        generalize w2.drewN nd = wm at HSm ⊢
        clear y5 HBX HR2 HS2
        obtain ⟨-, -, -, -, -, y5, -, -, -, -, hrr⟩ := HLW.out wm HSm.out
        have hjr := J3.out
        clear hrr
        go_upto_region 16 with (fail)
        clear y5
        go_loopw [116, 16] (fun i mv wr => ∃ (y c : Nat), y ≤ J.R.length ∧ i = .int .i64 y ∧ mv = .int .i64 c ∧ c ≤ 100000 ∧ Aside0 (c = (J.R.take y).count (x : Int)) ∧ Aside0 (Below W8.heap.size W8 wr)) (fun i _ _ => J.R.length - (intOf i).toNat)
        case atStart => exact ⟨0, 0, Nat.zero_le _, rfl, rfl, by omega, ⟨by simp⟩, HSm⟩
        case round =>
          obtain ⟨y, c, g1, rfl, rfl, g2, HCc, HBy⟩ := hrel
          clear HSm
          by_cases hy : y < J.R.length
          · obtain ⟨-, -, -, -, -, -, -, -, -, -, hrr⟩ := HLW.out wr HBy.out
            obtain ⟨br, hAR⟩ : ∃ br, AR = some ⟨br, 0, none⟩ := by
              obtain ⟨gx, cx, ex, _⟩ := Kd.R_form hrr (by omega)
              injection ex with ex
              exact ⟨gx, ex⟩
            subst hAR
            obtain ⟨z0, -⟩ := Kd.R_celln 0 hrr (y : Int) (by omega) (by omega)
            rw [Int.toNat_natCast] at z0
            have hst := count_take_succ (x : Int) J.R y hy
            rw [← HCc.out] at hst
            have hcl : (J.R.take (y + 1)).count (x : Int) ≤ J.R.length := Nat.le_trans (List.count_le_length) (by rw [List.length_take]; omega)
            obtain ⟨q, hq⟩ : ∃ q, rdOf (0 : Int) J.R (y : Int) = q := ⟨_, rfl⟩
            rw [hq] at z0 hst
            clear hrr hq
            by_cases hqx : q = (x : Int)
            · subst hqx
              rw [if_pos rfl] at hst
              have HST := Aside0.mk hst
              have hc1 : c + 1 ≤ 100000 := by omega
              clear hst hcl
              go_wp2
              go_roundw
              case rel => exact ⟨y + 1, c + 1, by omega, by go_num, by go_num, hc1, ⟨HST.out.symm⟩, HBy⟩
              case measure => simp [intOf]; omega
            · rw [if_neg hqx] at hst
              have HST := Aside0.mk hst
              have tq : (q == (x : Int)) = false := beq_eq_false_iff_ne.mpr hqx
              clear hst hcl
              go_wp2
              go_roundw
              case rel => exact ⟨y + 1, c, by omega, by go_num, rfl, g2, ⟨HST.out.symm⟩, HBy⟩
              case measure => simp [intOf]; omega
          · have ey : y = J.R.length := by omega
            subst ey
            have hM := HN.out
            have hcc := HCc.out
            rw [List.take_length] at hcc
            rw [← hcc] at hM
            have HM := Aside0.mk hM
            clear hcc hM HCc
            obtain ⟨-, -, y2, -⟩ := HLW.out wr HBy.out
            go_upto_region 23 with (fail)
            clear y2
            go_loopw [20, 19] (fun i nv wr => ∃ (t : Nat) (v : Int), t ≤ T ∧ i = .int .i64 t ∧ nv = .int .i64 v ∧ Aside0 (needL (ft x) t v = (c : Int)) ∧ Aside0 (Below W8.heap.size W8 wr)) (fun i _ _ => (intOf i).toNat)
            case atStart => exact ⟨T, T, Nat.le_refl _, rfl, rfl, ⟨HM.out.symm⟩, HBy⟩
            case round =>
              obtain ⟨t, v, t1, rfl, rfl, HNv, HBt⟩ := hrel
              clear HBy
              cases t with
              | zero =>
                have hv := HNv.out
                unfold needL at hv
                subst hv
                go_wp2
                go_roundw
                case rel => exact ⟨x + 1, by omega, by go_num, HBt⟩
                case measure => simp [intOf]; omega
              | succ t =>
                have hv := HNv.out
                unfold needL at hv
                obtain ⟨-, -, -, -, -, -, hd, hff, -⟩ := HLW.out wr HBt.out
                obtain ⟨y0, y1, y2, -⟩ := HLW.out wr HBt.out
                have HDr := Aside0.mk hd
                have HFr := Aside0.mk hff
                have et : ((t + 1 : Nat) : Int) = (t : Int) + 1 := by omega
                have HAx := Aside0.mk (HA.out x HLT.out ((t : Int) + 1) (by omega))
                obtain ⟨E', hE'⟩ : ∃ E, ansE (ft x) ((t : Int) + 1) = E := ⟨_, rfl⟩
                obtain ⟨V', hV'⟩ : ∃ V, ansR D x (ft x) ((t : Int) + 1) = V := ⟨_, rfl⟩
                rw [hE', hV'] at HAx
                rw [hE'] at hv
                have tge : decide ((t : Int) + 1 ≥ 1) = true := decide_eq_true (by omega)
                have tge2 : decide ((1 : Int) ≤ (t : Int) + 1) = true := decide_eq_true (by omega)
                clear hd hff hE' hV'
                by_cases hz' : E' = 0
                · subst hz'
                  rw [if_pos rfl] at hv
                  have HNv2 := Aside0.mk hv
                  clear hv
                  go_wp2_with (go_at_call 11; refine (drive_Answer.calls k AD cD D AF cF F x ((t : Int) + 1) V' _ 0 wr HDr.out HD2.out HFr.out HF2.out HAx.out).mono ?_; rintro e w4 ⟨v4, rfl, hR, hb⟩; have HS4 := Aside0.mk (below_step HBt.out hb); clear hR hb)
                  go_roundw
                  case rel => exact ⟨t, _, by omega, by go_num, rfl, HNv2, HS4⟩
                  case measure => simp [intOf]
                · rw [if_neg hz'] at hv
                  have HNv2 := Aside0.mk hv
                  have tz : (E' == 0) = false := beq_eq_false_iff_ne.mpr hz'
                  clear hv hz'
                  go_wp2_with (go_at_call 11; refine (drive_Answer.calls k AD cD D AF cF F x ((t : Int) + 1) V' _ E' wr HDr.out HD2.out HFr.out HF2.out HAx.out).mono ?_; rintro e w4 ⟨v4, rfl, hR, hb⟩; have HS4 := Aside0.mk (below_step HBt.out hb); clear hR hb)
                  go_roundw
                  case rel => exact ⟨t, v, by omega, by go_num, rfl, HNv2, HS4⟩
                  case measure => simp [intOf]
      · rw [if_neg hz] at z0
        have tE : (E == 0) = false := beq_eq_false_iff_ne.mpr hz
        have tE2 : (E != 0) = true := bne_iff_ne.mpr hz
        clear hz
        go_upto_region 15 with (fail)
        have HSm := HS2
        clear tE tE2 z0 y3 y4
        clear y5 HBX HR2
        obtain ⟨-, -, -, -, -, y5, -, -, -, -, hrr⟩ := HLW.out w2 HSm.out
        have hjr := J3.out
        clear hrr
        go_upto_region 16 with (fail)
        clear y5
        go_loopw [116, 16] (fun i mv wr => ∃ (y c : Nat), y ≤ J.R.length ∧ i = .int .i64 y ∧ mv = .int .i64 c ∧ c ≤ 100000 ∧ Aside0 (c = (J.R.take y).count (x : Int)) ∧ Aside0 (Below W8.heap.size W8 wr)) (fun i _ _ => J.R.length - (intOf i).toNat)
        case atStart => exact ⟨0, 0, Nat.zero_le _, rfl, rfl, by omega, ⟨by simp⟩, HSm⟩
        case round =>
          obtain ⟨y, c, g1, rfl, rfl, g2, HCc, HBy⟩ := hrel
          clear HSm
          by_cases hy : y < J.R.length
          · obtain ⟨-, -, -, -, -, -, -, -, -, -, hrr⟩ := HLW.out wr HBy.out
            obtain ⟨br, hAR⟩ : ∃ br, AR = some ⟨br, 0, none⟩ := by
              obtain ⟨gx, cx, ex, _⟩ := Kd.R_form hrr (by omega)
              injection ex with ex
              exact ⟨gx, ex⟩
            subst hAR
            obtain ⟨z0, -⟩ := Kd.R_celln 0 hrr (y : Int) (by omega) (by omega)
            rw [Int.toNat_natCast] at z0
            have hst := count_take_succ (x : Int) J.R y hy
            rw [← HCc.out] at hst
            have hcl : (J.R.take (y + 1)).count (x : Int) ≤ J.R.length := Nat.le_trans (List.count_le_length) (by rw [List.length_take]; omega)
            obtain ⟨q, hq⟩ : ∃ q, rdOf (0 : Int) J.R (y : Int) = q := ⟨_, rfl⟩
            rw [hq] at z0 hst
            clear hrr hq
            by_cases hqx : q = (x : Int)
            · subst hqx
              rw [if_pos rfl] at hst
              have HST := Aside0.mk hst
              have hc1 : c + 1 ≤ 100000 := by omega
              clear hst hcl
              go_wp2
              go_roundw
              case rel => exact ⟨y + 1, c + 1, by omega, by go_num, by go_num, hc1, ⟨HST.out.symm⟩, HBy⟩
              case measure => simp [intOf]; omega
            · rw [if_neg hqx] at hst
              have HST := Aside0.mk hst
              have tq : (q == (x : Int)) = false := beq_eq_false_iff_ne.mpr hqx
              clear hst hcl
              go_wp2
              go_roundw
              case rel => exact ⟨y + 1, c, by omega, by go_num, rfl, g2, ⟨HST.out.symm⟩, HBy⟩
              case measure => simp [intOf]; omega
          · have ey : y = J.R.length := by omega
            subst ey
            have hM := HN.out
            have hcc := HCc.out
            rw [List.take_length] at hcc
            rw [← hcc] at hM
            have HM := Aside0.mk hM
            clear hcc hM HCc
            obtain ⟨-, -, y2, -⟩ := HLW.out wr HBy.out
            go_upto_region 23 with (fail)
            clear y2
            go_loopw [20, 19] (fun i nv wr => ∃ (t : Nat) (v : Int), t ≤ T ∧ i = .int .i64 t ∧ nv = .int .i64 v ∧ Aside0 (needL (ft x) t v = (c : Int)) ∧ Aside0 (Below W8.heap.size W8 wr)) (fun i _ _ => (intOf i).toNat)
            case atStart => exact ⟨T, T, Nat.le_refl _, rfl, rfl, ⟨HM.out.symm⟩, HBy⟩
            case round =>
              obtain ⟨t, v, t1, rfl, rfl, HNv, HBt⟩ := hrel
              clear HBy
              cases t with
              | zero =>
                have hv := HNv.out
                unfold needL at hv
                subst hv
                go_wp2
                go_roundw
                case rel => exact ⟨x + 1, by omega, by go_num, HBt⟩
                case measure => simp [intOf]; omega
              | succ t =>
                have hv := HNv.out
                unfold needL at hv
                obtain ⟨-, -, -, -, -, -, hd, hff, -⟩ := HLW.out wr HBt.out
                obtain ⟨y0, y1, y2, -⟩ := HLW.out wr HBt.out
                have HDr := Aside0.mk hd
                have HFr := Aside0.mk hff
                have et : ((t + 1 : Nat) : Int) = (t : Int) + 1 := by omega
                have HAx := Aside0.mk (HA.out x HLT.out ((t : Int) + 1) (by omega))
                obtain ⟨E', hE'⟩ : ∃ E, ansE (ft x) ((t : Int) + 1) = E := ⟨_, rfl⟩
                obtain ⟨V', hV'⟩ : ∃ V, ansR D x (ft x) ((t : Int) + 1) = V := ⟨_, rfl⟩
                rw [hE', hV'] at HAx
                rw [hE'] at hv
                have tge : decide ((t : Int) + 1 ≥ 1) = true := decide_eq_true (by omega)
                have tge2 : decide ((1 : Int) ≤ (t : Int) + 1) = true := decide_eq_true (by omega)
                clear hd hff hE' hV'
                by_cases hz' : E' = 0
                · subst hz'
                  rw [if_pos rfl] at hv
                  have HNv2 := Aside0.mk hv
                  clear hv
                  go_wp2_with (go_at_call 11; refine (drive_Answer.calls k AD cD D AF cF F x ((t : Int) + 1) V' _ 0 wr HDr.out HD2.out HFr.out HF2.out HAx.out).mono ?_; rintro e w4 ⟨v4, rfl, hR, hb⟩; have HS4 := Aside0.mk (below_step HBt.out hb); clear hR hb)
                  go_roundw
                  case rel => exact ⟨t, _, by omega, by go_num, rfl, HNv2, HS4⟩
                  case measure => simp [intOf]
                · rw [if_neg hz'] at hv
                  have HNv2 := Aside0.mk hv
                  have tz : (E' == 0) = false := beq_eq_false_iff_ne.mpr hz'
                  clear hv hz'
                  go_wp2_with (go_at_call 11; refine (drive_Answer.calls k AD cD D AF cF F x ((t : Int) + 1) V' _ E' wr HDr.out HD2.out HFr.out HF2.out HAx.out).mono ?_; rintro e w4 ⟨v4, rfl, hR, hb⟩; have HS4 := Aside0.mk (below_step HBt.out hb); clear hR hb)
                  go_roundw
                  case rel => exact ⟨t, v, by omega, by go_num, rfl, HNv2, HS4⟩
                  case measure => simp [intOf]
    · have ex : x = nb := by omega
      subst ex
      go_wp2
      go_ret
      exact ⟨rfl, below_step HB8.out HBr.out⟩
def wrackkeep1_PassReads.ft (k : Nat) (D : List Int) (F : List S59) (a : Nat) : Int × Int × Int := (drive_fault.f k D F (a : Int)).getD (0, 0, 0)
def wrackkeep1_PassReads.f (k : Nat) (l0 : List Int) (a1 a2 : Int) : Option Bool :=
  (wrackmake_Drive.f k l0).bind fun x => (drive_New.f k x.1 x.2).bind fun _ => (wrackkeep1_drives.f k).bind fun s => (wrackkeep1_plan.f a1 a2).bind fun p => (drive_Check.f k x.1 x.2).bind fun c =>
  (drive_New.f k (List.replicate 192 0) [(⟨0, 1, 0⟩ : S59)]).bind fun _ => (slices_Equal_int_int.f k [0, 2, 1] [0, 2, 1]).bind fun e =>
  (if s = true ∧ c = 0 ∧ e = true ∧ 0 ≤ p.1 ∧ p.1 ≤ 64 ∧ 1 ≤ p.2 ∧ p.2 ≤ 16 ∧ 1 ≤ x.1.length / 64 ∧ x.1.length = 64 * (x.1.length / 64) ∧ x.1.length ≤ 65536 then some () else none).bind fun _ =>
  (if ∀ a < x.1.length / 64, drive_fault.f k x.1 x.2 ((a : Nat) : Int) = some (wrackkeep1_PassReads.ft k x.1 x.2 a) ∧ 0 ≤ ansT (wrackkeep1_PassReads.ft k x.1 x.2 a) ∧ ansT (wrackkeep1_PassReads.ft k x.1 x.2 a) ≤ 100 then some () else none).bind fun _ =>
  (if ∀ a : Nat, a < 3 → drive_fault.f k (List.replicate 192 0) [(⟨0, 1, 0⟩ : S59)] ((a : Nat) : Int) = some (pft a) then some () else none).bind fun _ =>
  (if (runJ x.1 (wrackkeep1_PassReads.ft k x.1 x.2) p.1.toNat p.2.toNat (x.1.length / 64)).S.length = x.1.length / 64 ∧ (runJ x.1 (wrackkeep1_PassReads.ft k x.1 x.2) p.1.toNat p.2.toNat (x.1.length / 64)).B.length = 64 * (x.1.length / 64) ∧ (runJ x.1 (wrackkeep1_PassReads.ft k x.1 x.2) p.1.toNat p.2.toNat (x.1.length / 64)).R.length ≤ 100000 then some () else none).bind fun _ =>
  (if ∀ a < x.1.length / 64, rdOf 0 (runJ x.1 (wrackkeep1_PassReads.ft k x.1 x.2) p.1.toNat p.2.toNat (x.1.length / 64)).S ((a : Nat) : Int) = if ansE (wrackkeep1_PassReads.ft k x.1 x.2 a) (p.2.toNat : Nat) = 0 then 1 else 2 then some () else none).bind fun _ =>
  (if ∀ a < x.1.length / 64, ansE (wrackkeep1_PassReads.ft k x.1 x.2 a) (p.2.toNat : Nat) = 0 → slices_Equal_byte_byte.f k (ansR x.1 (a : Nat) (wrackkeep1_PassReads.ft k x.1 x.2 a) (p.2.toNat : Nat)) (((runJ x.1 (wrackkeep1_PassReads.ft k x.1 x.2) p.1.toNat p.2.toNat (x.1.length / 64)).B.drop (64 * a)).take 64) = some true then some () else none).bind fun _ =>
  if ∀ a < x.1.length / 64, (((runJ x.1 (wrackkeep1_PassReads.ft k x.1 x.2) p.1.toNat p.2.toNat (x.1.length / 64)).R.count ((a : Nat) : Int) : Nat) : Int) = needL (wrackkeep1_PassReads.ft k x.1 x.2 a) p.2.toNat (p.2.toNat : Nat) then some true else none
theorem guard_of {C : Prop} [Decidable C] {u : Unit} (h : (if C then some () else none) = some u) : C := by
  by_cases c : C
  · exact c
  · rw [if_neg c] at h; exact absurd h (by simp)
theorem wrackkeep1_PassReads.calls (k : Nat) (A0 : Option Addr) (c0 : Nat) (l0 : List Int) (a1 a2 : Int) (r : Bool) (w : World) (hr0 : Kd.C (Kd.int .i64) w A0 l0.length l0) (hc0 : l0.length ≤ c0) (h : wrackkeep1_PassReads.f k l0 a1 a2 = some r) :
    Calls Try.prog 4 #[.slice A0 l0.length c0, .int .i64 a1, .int .i64 a2] w fun e w' => e = .returned (.bool r) ∧ Below w.heap.size w w' := by
  unfold wrackkeep1_PassReads.f at h
  obtain ⟨⟨D, F⟩, h1, h⟩ := Option.bind_eq_some_iff.mp h
  obtain ⟨_, h2, h⟩ := Option.bind_eq_some_iff.mp h
  obtain ⟨s, h3, h⟩ := Option.bind_eq_some_iff.mp h
  obtain ⟨⟨K, T⟩, h4, h⟩ := Option.bind_eq_some_iff.mp h
  obtain ⟨c, hc, h⟩ := Option.bind_eq_some_iff.mp h
  obtain ⟨_, p1, h⟩ := Option.bind_eq_some_iff.mp h
  obtain ⟨e1, p3, h⟩ := Option.bind_eq_some_iff.mp h
  simp only at h2 hc h
  obtain ⟨_, g1, h⟩ := Option.bind_eq_some_iff.mp h
  obtain ⟨_, y1, h⟩ := Option.bind_eq_some_iff.mp h
  obtain ⟨_, y2, h⟩ := Option.bind_eq_some_iff.mp h
  obtain ⟨_, g2, h⟩ := Option.bind_eq_some_iff.mp h
  obtain ⟨_, y6, h⟩ := Option.bind_eq_some_iff.mp h
  obtain ⟨_, y7, h⟩ := Option.bind_eq_some_iff.mp h
  split at h
  case isFalse => exact absurd h (by simp)
  case isTrue y8 =>
    obtain rfl := Option.some.inj h
    obtain ⟨rfl, rfl, rfl, x1, x2, x3, x4, x5, x6, x7⟩ := guard_of g1
    replace y1 := guard_of y1
    replace y2 := guard_of y2
    obtain ⟨y3, y4, y5⟩ := guard_of g2
    replace y6 := guard_of y6
    replace y7 := guard_of y7
    obtain ⟨K, rfl⟩ : ∃ Q : Nat, K = Q := ⟨K.toNat, by omega⟩
    obtain ⟨T, rfl⟩ : ∃ Q : Nat, T = Q := ⟨T.toNat, by omega⟩
    simp only [Int.toNat_natCast] at y3 y4 y5 y6 y7 y8
    exact wrackkeep1_PassReads.lawx k A0 c0 l0 a1 a2 w hr0 hc0 D F K T (D.length / 64) (wrackkeep1_PassReads.ft k D F) h1 h2 h3 h4 (by omega) (by omega) (by omega) x5 x6 x7 hc y1 p1 y2 p3 _ rfl y3 y4 y5 y6 y7 y8
/-- THE ONE PURE STATEMENT of wrackkeep1_PassReads. -/
def wrackkeep1_PassReads.Pure : Prop := ∀ (l0 : List Int) (a1 : Int) (a2 : Int), l0.length ≤ maxLen → l0.length * 8 ≤ 140737488351232 → (∀ x ∈ l0, (Lit.int .i64 x).wf = true) → (Lit.int .i64 a1).wf = true → (Lit.int .i64 a2).wf = true → ∃ k, wrackkeep1_PassReads.f k l0 a1 a2 = some true
theorem wrackkeep1_PassReads.walk (P : wrackkeep1_PassReads.Pure) (a0 : Option Addr) (len0 cap0 : Nat) (z0 : List Int) (a1 : Int) (a2 : Int) (w : World) (w0 : (a0 = none ∧ len0 = 0 ∧ cap0 = 0 ∧ z0 = []) ∨ ∃ x, a0 = some x ∧ len0 ≤ cap0 ∧ cap0 ≤ maxLen ∧ z0.length = cap0 ∧ (∀ i, i < z0.length → w.cell? (x.add i) = some (.int .i64 (z0.getD i 0))) ∧ ∀ n ∈ z0, (Lit.int .i64 n).wf = true) (y0 : len0 * 8 ≤ 140737488351232) (w1 : (Lit.int .i64 a1).wf = true) (w2 : (Lit.int .i64 a2).wf = true) :
    Calls Try.prog 4 #[.slice a0 len0 cap0, .int .i64 a1, .int .i64 a2] w fun e w' => e = .returned (.bool true) ∧ Below w.heap.size w w' := by
  obtain ⟨l0, rfl, hr0, hm0, hw0, hc0⟩ := ReadsInt.ofRowC w0
  obtain ⟨k, h⟩ := P l0 a1 a2 hm0 y0 hw0 w1 w2
  exact wrackkeep1_PassReads.calls k _ _ l0 a1 a2 true w (Kd.C_of_reads (d := (0 : Int)) (h1 := fun _ => rfl) hr0) hc0 h

end Go.Proofs.Ytcnabemeadnecaa.PPassReads
