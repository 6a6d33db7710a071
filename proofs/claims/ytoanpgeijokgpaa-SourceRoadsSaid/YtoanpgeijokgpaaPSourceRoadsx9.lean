-- written by prn.py, a program of this session, over the kit's printer
import Derived.Test.YtoanpgeijokgpaaPSourceRoadsx0
import Derived.Test.YtoanpgeijokgpaaPSourceRoadsx2
import Derived.Test.YtoanpgeijokgpaaPSourceRoadsx3
import Derived.Test.YtoanpgeijokgpaaPSourceRoadsx5
import Derived.Test.YtoanpgeijokgpaaPSourceRoadsx7
import Derived.Test.YtoanpgeijokgpaaPSourceRoadsx8
namespace Go.Proofs.Ytoanpgeijokgpaa.PSourceRoads
open Go.RowKit Go.Proofs.YtoanpgeijokgpaaW.PrintWords Go.Proofs.YtoanpgeijokgpaaW.PrintLast Go.Proofs.YtoanpgeijokgpaaW.PrintMore Go.Proofs.YtoanpgeijokgpaaW.PrintMine
attribute [local go_sem] max2_int min2_int max_two min_two max_three min_three max_four min_four   -- for this text's walks alone
set_option linter.unusedVariables false
set_option linter.unusedSimpArgs false

/-! ### span_Slice: function 76 -/
mutual
def span_Slice.j0 : Nat → List (S53) → Int → Int → List (S53) → Bool → Option ((List (S53)))
  | 0, _, _, _, _, _ => none
  | k + 1, x0, x1, x2, x7, x16 => if x16 = true then (some ([] : List (S53))) else (span_Slice.l0 k x1 x2 x7 x0 (x0.length : Int) 0)
def span_Slice.l0 : Nat → Int → Int → List (S53) → List (S53) → Int → Int → Option ((List (S53)))
  | 0, _, _, _, _, _, _ => none
  | k + 1, x1, x2, x7, x17, x18, x19 => if x19 < x18 then (if 0 ≤ x19 then (if x19 < (x17.length : Int) then ((span_good.f ((rd_T53 x17 x19).f0) ((rd_T53 x17 x19).f1)).bind fun t219 => (if t219 = true then (if x1 ≥ ((rd_T53 x17 x19).f1) then (span_Slice.l0 k (wrap64 (x1 - ((rd_T53 x17 x19).f1))) x2 x7 x17 x18 (wrap64 (x19 + 1))) else (if x7.length < 8796093022208 then ((some (x7 ++ [(⟨wrap64 (((rd_T53 x17 x19).f0) + x1), mn x2 (wrap64 (((rd_T53 x17 x19).f1) - x1))⟩ : S53)] : List (S53))).bind fun y220 => (if (wrap64 (x2 - (mn x2 (wrap64 (((rd_T53 x17 x19).f1) - x1))))) = 0 then ((span_Glue.f k y220).bind fun t223 => (some t223)) else (span_Slice.l0 k 0 (wrap64 (x2 - (mn x2 (wrap64 (((rd_T53 x17 x19).f1) - x1))))) y220 x17 x18 (wrap64 (x19 + 1))))) else (none))) else (span_Slice.l0 k x1 x2 x7 x17 x18 (wrap64 (x19 + 1))))) else (none)) else (none)) else ((span_Glue.f k x7).bind fun t214 => (some t214))
end
def span_Slice.f (k : Nat) (l0 : List (S53)) (a1 : Int) (a2 : Int) : Option ((List (S53))) := if a1 < 0 then (span_Slice.j0 k l0 a1 a2 ([] : List (S53)) true) else (span_Slice.j0 k l0 a1 a2 ([] : List (S53)) (decide (a2 ≤ 0)))
theorem span_Slice.mono_l : ∀ k, (∀ y0 y1 y2 y3 y4, LeO (span_Slice.j0 k y0 y1 y2 y3 y4) (span_Slice.j0 (k + 1) y0 y1 y2 y3 y4)) ∧ (∀ y0 y1 y2 y3 y4 y5, LeO (span_Slice.l0 k y0 y1 y2 y3 y4 y5) (span_Slice.l0 (k + 1) y0 y1 y2 y3 y4 y5))
  | 0 => ⟨fun _ _ _ _ _ r h => by simp [span_Slice.j0] at h, fun _ _ _ _ _ _ r h => by simp [span_Slice.l0] at h⟩
  | k + 1 => by
    obtain ⟨ih0, ih1⟩ := span_Slice.mono_l k
    refine ⟨?_, ?_⟩
    · intro y0 y1 y2 y3 y4
      unfold span_Slice.j0
      repeat' first
      | (with_reducible exact ih0 _ _ _ _ _)
      | (with_reducible exact ih1 _ _ _ _ _ _)
      | (with_reducible exact span_Glue.mono _ _)
      | (with_reducible exact LeO.refl _)
      | (with_reducible exact LeO.none _)
      | (with_reducible refine LeO.ite ?_ ?_)
      | (with_reducible refine LeO.bind ?_ (fun _ => ?_))
      | exact ih0 _ _ _ _ _
      | exact ih1 _ _ _ _ _ _
      | exact span_Glue.mono _ _
      | exact LeO.none _
      | refine LeO.ite ?_ ?_
      | refine LeO.bind ?_ (fun _ => ?_)
    · intro y0 y1 y2 y3 y4 y5
      unfold span_Slice.l0
      repeat' first
      | (with_reducible exact ih0 _ _ _ _ _)
      | (with_reducible exact ih1 _ _ _ _ _ _)
      | (with_reducible exact span_Glue.mono _ _)
      | (with_reducible exact LeO.refl _)
      | (with_reducible exact LeO.none _)
      | (with_reducible refine LeO.ite ?_ ?_)
      | (with_reducible refine LeO.bind ?_ (fun _ => ?_))
      | exact ih0 _ _ _ _ _
      | exact ih1 _ _ _ _ _ _
      | exact span_Glue.mono _ _
      | exact LeO.none _
      | refine LeO.ite ?_ ?_
      | refine LeO.bind ?_ (fun _ => ?_)
theorem span_Slice.mono : ∀ a0 a1 a2 k, LeO (span_Slice.f k a0 a1 a2) (span_Slice.f (k + 1) a0 a1 a2) := by
  intro a0 a1 a2 k
  obtain ⟨ih0, ih1⟩ := span_Slice.mono_l k
  unfold span_Slice.f
  repeat' first
      | (with_reducible exact ih0 _ _ _ _ _)
      | (with_reducible exact ih1 _ _ _ _ _ _)
      | (with_reducible exact span_Glue.mono _ _)
      | (with_reducible exact LeO.refl _)
      | (with_reducible exact LeO.none _)
      | (with_reducible refine LeO.ite ?_ ?_)
      | (with_reducible refine LeO.bind ?_ (fun _ => ?_))
      | exact ih0 _ _ _ _ _
      | exact ih1 _ _ _ _ _ _
      | exact span_Glue.mono _ _
      | exact LeO.none _
      | refine LeO.ite ?_ ?_
      | refine LeO.bind ?_ (fun _ => ?_)
set_option maxHeartbeats 8000000 in
set_option maxRecDepth 100000 in
theorem span_Slice.calls (k : Nat) (A0 : Option Addr) (c0 : Nat) (l0 : List (S53)) (a1 : Int) (a2 : Int) (r : List (S53)) (w : World) (hr0 : Kd.C k53 w A0 l0.length l0) (hc0 : l0.length ≤ c0) (h : span_Slice.f k l0 a1 a2 = some r) :
    Calls Try.prog 76 #[.slice A0 l0.length c0, .int .i64 a1, .int .i64 a2] w fun e w' => ∃ v0_ : Value, e = .returned (v0_) ∧ Kd.R k53 53 w' w.heap.size (fun _ => True) v0_ r ∧ Below w.heap.size w w' := by
  have hu53 := Try.underlying53
  have HR0 := Aside0.mk hr0
  have HC0 := Aside0.mk hc0
  clear hr0 hc0
  have HB := Aside0.mk (Below.refl w.heap.size w)
  have H : (if a1 < 0 then (span_Slice.j0 k l0 a1 a2 ([] : List (S53)) true) else (span_Slice.j0 k l0 a1 a2 ([] : List (S53)) (decide (a2 ≤ 0)))) = some r := h
  clear h
  have HC4 := Aside0.mk H
  clear H
  go_enter Try.func76, Try.ntmps76
  go_upto_region 2 with (fail)
  go_cut [16] (fun v16 wc => ∃ (kq : Nat) (x16_3 : Bool), v16 = .bool x16_3 ∧ Aside0 (span_Slice.j0 kq l0 a1 a2 ([] : List (S53)) x16_3 = some r) ∧ Aside0 (kq ≤ k) ∧ Aside0 (Kd.R k53 53 wc w.heap.size (fun _ => True) (.slice none 0 0) ([] : List (S53))) ∧ Aside0 (Below w.heap.size w wc))
  case first =>
    have H := HC4.out
    clear HC4
    by_cases c5 : a1 < 0
    · rw [if_pos c5] at H
      have c5b0 : decide (a1 < 0) = true := decide_eq_true c5
      clear c5
      (first | rw [c5b0] | (simp only [i64_w, i32_w]; rw [c5b0]) | skip)
      have H' := Aside0.mk H
      clear H
      go_wp2
      go_meet
      case rel => exact ⟨_, (true), (by first | rfl | (simp; done) | (simp [*]; done)), H', ⟨by first | omega | exact Nat.le_refl _⟩, ⟨by first | exact Kd.R_nil _ _ _ _ _ | exact Kd.N_nil _ _ _ _ _ | exact Kd.V_nil _ _ _ _ _ | exact Kd.Q_nil _ _ _ _ _ | exact Kd.S_nil _ _ _ _ _⟩, ⟨by repeat (first | (with_reducible first | exact HB.out | apply below_alloc | apply pw_below_drewN | apply below_drew1) | exact HB.out)⟩⟩
    · rw [if_neg c5] at H
      have c5b0 : decide (a1 < 0) = false := decide_eq_false c5
      clear c5
      (first | rw [c5b0] | (simp only [i64_w, i32_w]; rw [c5b0]) | skip)
      have H' := Aside0.mk H
      clear H
      go_wp2
      go_meet
      case rel => exact ⟨_, (decide (a2 ≤ 0)), (by first | rfl | (simp; done) | (simp [*]; done)), H', ⟨by first | omega | exact Nat.le_refl _⟩, ⟨by first | exact Kd.R_nil _ _ _ _ _ | exact Kd.N_nil _ _ _ _ _ | exact Kd.V_nil _ _ _ _ _ | exact Kd.Q_nil _ _ _ _ _ | exact Kd.S_nil _ _ _ _ _⟩, ⟨by repeat (first | (with_reducible first | exact HB.out | apply below_alloc | apply pw_below_drewN | apply below_drew1) | exact HB.out)⟩⟩
  case rest =>
    clear HC4
    try clear p2
    try clear c5
    try clear c5b0
    obtain ⟨kq, x16_3, rfl, HA, HJ3, HO_7, HB⟩ := hcut
    cases kq with
    | zero => exact absurd HA.out (by simp [span_Slice.j0])
    | succ kj3 =>
      have H := HA.out
      clear HA
      simp only [span_Slice.j0] at H
      by_cases c6 : x16_3 = true
      · subst c6
        have H1 : (some ([] : List (S53))) = some r := by rw [if_pos rfl] at H; exact H
        clear H
        have H := H1
        clear H1
        obtain rfl := Option.some.inj H
        go_wp2
        go_ret
        exact ⟨_, by first | rfl | (simp [errW_none, errW_some] <;> rfl) | (simp [*, errW_none, errW_some] <;> rfl), by first | exact Kd.R_nil _ _ _ _ _ | exact Kd.N_nil _ _ _ _ _ | exact Kd.V_nil _ _ _ _ _ | exact Kd.Q_nil _ _ _ _ _ | exact Kd.S_nil _ _ _ _ _, by repeat (first | (with_reducible first | exact HB.out | apply below_alloc | apply pw_below_drewN | apply below_drew1) | exact HB.out)⟩
      · replace c6 := Bool.eq_false_iff.mpr c6
        subst c6
        have H1 : (span_Slice.l0 kj3 a1 a2 ([] : List (S53)) l0 (l0.length : Int) 0) = some r := by rw [if_neg (show ¬ (false = true) by decide)] at H; exact H
        clear H
        have H := H1
        clear H1
        have H' := Aside0.mk H
        clear H
        go_wp2
        go_loopg [1, 2, 7, 19] kj3 (fun kq v1 v2 v7 v19 w' => ∃ (x1_2 : Int) (x2_2 : Int) (x7_2 : List (S53)) (x19_2 : Int), v1 = .int .i64 x1_2 ∧ v2 = .int .i64 x2_2 ∧ v19 = .int .i64 x19_2 ∧ Aside0 (span_Slice.l0 kq x1_2 x2_2 x7_2 l0 (l0.length : Int) x19_2 = some r) ∧ Aside0 (kq ≤ kj3) ∧ Aside0 (Kd.R k53 53 w' w.heap.size (fun _ => True) v7 x7_2) ∧ Aside0 (Below w.heap.size w w'))
        case atStart => exact ⟨(a1), (a2), (([] : List (S53))), (0), (by first | rfl | (simp; done) | (simp [*]; done)), (by first | rfl | (simp; done) | (simp [*]; done)), (by first | rfl | (simp; done) | (simp [*]; done)), H', ⟨Nat.le_refl _⟩, ⟨by (with_reducible repeat (first | apply Kd.R_alloc | apply Kd.R_drewN | apply Kd.R_drew)); exact HO_7.out⟩, ⟨by repeat (first | (with_reducible first | exact HB.out | apply below_alloc | apply pw_below_drewN | apply below_drew1) | exact HB.out)⟩⟩
        case round =>
          clear H'
          try clear p2
          try clear c5
          try clear c5b0
          try clear c6
          try clear p2
          obtain ⟨x1_2, x2_2, x7_2, x19_2, rfl, rfl, rfl, HA, HK2, HO_7, HB⟩ := hrel
          cases gk with
          | zero => exact absurd HA.out (by simp [span_Slice.l0])
          | succ k2 =>
            have H := HA.out
            clear HA
            simp only [span_Slice.l0] at H
            by_cases c7 : x19_2 < (l0.length : Int)
            · rw [if_pos c7] at H
              have c7b0 : decide (x19_2 < (l0.length : Int)) = true := decide_eq_true c7
              clear c7
              by_cases c8 : 0 ≤ x19_2
              · rw [if_pos c8] at H
                have c8b0 : decide (0 ≤ x19_2) = true := decide_eq_true c8
                clear c8
                by_cases c9 : x19_2 < (l0.length : Int)
                · rw [if_pos c9] at H
                  have c9b0 : decide (x19_2 < (l0.length : Int)) = true := decide_eq_true c9
                  clear c9
                  replace H := Option.bind_eq_some_iff.mp H
                  obtain ⟨t219, A100, H⟩ := H
                  replace H : (if t219 = true then (if x1_2 ≥ ((rd_T53 l0 x19_2).f1) then (span_Slice.l0 k2 (wrap64 (x1_2 - ((rd_T53 l0 x19_2).f1))) x2_2 x7_2 l0 (l0.length : Int) (wrap64 (x19_2 + 1))) else (if x7_2.length < 8796093022208 then ((some (x7_2 ++ [(⟨wrap64 (((rd_T53 l0 x19_2).f0) + x1_2), mn x2_2 (wrap64 (((rd_T53 l0 x19_2).f1) - x1_2))⟩ : S53)] : List (S53))).bind fun y220 => (if (wrap64 (x2_2 - (mn x2_2 (wrap64 (((rd_T53 l0 x19_2).f1) - x1_2))))) = 0 then ((span_Glue.f k2 y220).bind fun t223 => (some t223)) else (span_Slice.l0 k2 0 (wrap64 (x2_2 - (mn x2_2 (wrap64 (((rd_T53 l0 x19_2).f1) - x1_2))))) y220 l0 (l0.length : Int) (wrap64 (x19_2 + 1))))) else (none))) else (span_Slice.l0 k2 x1_2 x2_2 x7_2 l0 (l0.length : Int) (wrap64 (x19_2 + 1)))) = some r := H
                  have A10 := Aside0.mk A100
                  clear A100
                  by_cases c11 : t219 = true
                  · subst c11
                    have H1 : (if x1_2 ≥ ((rd_T53 l0 x19_2).f1) then (span_Slice.l0 k2 (wrap64 (x1_2 - ((rd_T53 l0 x19_2).f1))) x2_2 x7_2 l0 (l0.length : Int) (wrap64 (x19_2 + 1))) else (if x7_2.length < 8796093022208 then ((some (x7_2 ++ [(⟨wrap64 (((rd_T53 l0 x19_2).f0) + x1_2), mn x2_2 (wrap64 (((rd_T53 l0 x19_2).f1) - x1_2))⟩ : S53)] : List (S53))).bind fun y220 => (if (wrap64 (x2_2 - (mn x2_2 (wrap64 (((rd_T53 l0 x19_2).f1) - x1_2))))) = 0 then ((span_Glue.f k2 y220).bind fun t223 => (some t223)) else (span_Slice.l0 k2 0 (wrap64 (x2_2 - (mn x2_2 (wrap64 (((rd_T53 l0 x19_2).f1) - x1_2))))) y220 l0 (l0.length : Int) (wrap64 (x19_2 + 1))))) else (none))) = some r := by rw [if_pos rfl] at H; exact H
                    clear H
                    have H := H1
                    clear H1
                    by_cases c12 : x1_2 ≥ ((rd_T53 l0 x19_2).f1)
                    · rw [if_pos c12] at H
                      have c12b0 : decide (((rd_T53 l0 x19_2).f1) ≤ x1_2) = true := decide_eq_true c12
                      clear c12
                      have H' := Aside0.mk H
                      clear H
                      have p217 : 0 ≤ (x19_2 : Int) := of_decide_eq_true (by first | (with_reducible assumption) | assumption)
                      have q217 : x19_2 < (l0.length : Int) := of_decide_eq_true (by first | (with_reducible assumption) | assumption)
                      obtain ⟨ad217, e217, hx217_0, hx217_1⟩ := at_T53 HR0.out x19_2 p217 q217
                      cases e217
                      replace hx217_0 := (HB.out.cell (World.block_lt_of_cell? w _ hx217_0)).trans hx217_0
                      replace hx217_1 := (HB.out.cell (World.block_lt_of_cell? w _ hx217_1)).trans hx217_1
                      replace p217 := eq_true p217
                      replace q217 := eq_true q217
                      go_wp2_with (first | ((with_reducible refine gate_dst (N := 9) rfl ?_); refine box_event ?hg (N := 9) ?hd (cs := #[.int .i64 0, .int .i64 0]) (t := 53) ?hr ?_; (case hd => rfl); (case hg => rfl); (case hr => first | (go_simp; done) | (go_simp; rfl)); intro gb218 hg w13 hbox hb; have n0_ := Aside0.mk (Kd.R_below (Kd.R_elderB (by (with_reducible repeat (first | apply Kd.R_alloc | apply Kd.R_drewN | apply Kd.R_drew)); exact HO_7.out) gb218 (Nat.le_of_eq hg.symm)) hb); have n1_ := Aside0.mk (below_step (by repeat (first | (with_reducible first | exact HB.out | apply below_alloc | apply pw_below_drewN | apply below_drew1) | exact HB.out)) hb); have n2_ := Aside0.mk (hbox); have n3_ := Aside0.mk ((by rw [hg]; exact (below_size (by repeat (first | (with_reducible first | exact HB.out | apply below_alloc | apply pw_below_drewN | apply below_drew1) | exact HB.out))) : w.heap.size ≤ gb218)); have n4_ := Aside0.mk ((by rw [hg]; exact (below_size (by repeat (first | (with_reducible first | exact HB.out | apply below_alloc | apply pw_below_drewN | apply below_drew1) | exact HB.out))) : w.heap.size ≤ gb218)); clear HO_7; clear HB; have HO_7 := n0_; have HB := n1_; have BK218 := n2_; have GW218 := n3_; have GE218 := n4_; clear n0_ n1_ n2_ n3_ n4_; clear hb hbox hg; have hcz14_0 : w13.cell? ⟨gb218, 0, none⟩ = some (.int .i64 0) := (blk_cell BK218.out 0).trans rfl; have hcz14_1 : w13.cell? ⟨gb218, 1, none⟩ = some (.int .i64 0) := (blk_cell BK218.out 1).trans rfl; have hfz14_0 := blk_frozen BK218.out 0; have hfz14_1 := blk_frozen BK218.out 1) | ((with_reducible refine gate_callee (f := 24) rfl ?_); refine goesL_ (some 24) rfl rfl Try.func24 (by kernel_rfl) rfl #[.agg #[.int .i64 ((rd_T53 l0 x19_2).f0), .int .i64 ((rd_T53 l0 x19_2).f1)]] rfl (by (try simp only [List.map_toArray, List.map_cons, List.map_nil]); first | done | rfl | (simp only [List.length_drop, List.length_take]; rfl)) ?_; (with_reducible refine (span_good.calls ((rd_T53 l0 x19_2).f0) ((rd_T53 l0 x19_2).f1) true _ A10.out).mono ?_); rintro e w15 ⟨rfl, hb⟩; refine ⟨_, rfl, ?_⟩; have n0_ := Aside0.mk (Kd.R_below (by (with_reducible repeat (first | apply Kd.R_alloc | apply Kd.R_drewN | apply Kd.R_drew)); exact (Kd.R_mono (Kd.R_far (p := ⟨gb218, 1, none⟩) (Kd.R_far (p := ⟨gb218, 0, none⟩) (Kd.R_mono HO_7.out (fun k_ hk => (⟨hk, hk.2⟩ : _ ∧ k_ ≠ gb218))) (fun _ hk => hk.2) (.int .i64 ((rd_T53 l0 x19_2).f0))) (fun _ hk => hk.2) (.int .i64 ((rd_T53 l0 x19_2).f1))) (fun _ h_ => h_.1))) hb); have n1_ := Aside0.mk (blk_below (g := gb218) (o := .cells #[.int .i64 ((rd_T53 l0 x19_2).f0), .int .i64 ((rd_T53 l0 x19_2).f1)] 53 (0, 0)) (by (with_reducible repeat (first | refine blk_drewN ?_ _ | refine blk_drew ?_ | refine blk_alloc ?_ _)); refine blk_put (cs := #[.int .i64 ((rd_T53 l0 x19_2).f0), .int .i64 0]) ?_ 1 _ rfl; (with_reducible repeat (first | refine blk_drewN ?_ _ | refine blk_drew ?_ | refine blk_alloc ?_ _)); refine blk_put (cs := #[.int .i64 0, .int .i64 0]) ?_ 0 _ rfl; (with_reducible repeat (first | refine blk_drewN ?_ _ | refine blk_drew ?_ | refine blk_alloc ?_ _)); exact BK218.out) hb); have n2_ := Aside0.mk (below_step (by repeat (first | (with_reducible first | exact HB.out | apply below_alloc | apply pw_below_drewN | apply below_drew1 | refine below_set ?_ GE218.out) | exact HB.out)) hb); clear HO_7; clear BK218; clear HB; have HO_7 := n0_; have BK218 := n1_; have HB := n2_; clear n0_ n1_ n2_; (try clear hb); (try clear hb2); (try clear hk); (try clear hi); have hcz16_0 : w15.cell? ⟨gb218, 0, none⟩ = some (.int .i64 ((rd_T53 l0 x19_2).f0)) := (blk_cell BK218.out 0).trans rfl; have hcz16_1 : w15.cell? ⟨gb218, 1, none⟩ = some (.int .i64 ((rd_T53 l0 x19_2).f1)) := (blk_cell BK218.out 1).trans rfl; have hfz16_0 := blk_frozen BK218.out 0; have hfz16_1 := blk_frozen BK218.out 1))
                      go_roundg k2
                      case measure => have := HJ3.out; have := HK2.out; omega
                      case rel => exact ⟨(wrap64 (x1_2 - ((rd_T53 l0 x19_2).f1))), (x2_2), (x7_2), (wrap64 (x19_2 + 1)), (by first | rfl | (simp; done) | (simp [*]; done)), (by first | rfl | (simp; done) | (simp [*]; done)), (by first | rfl | (simp; done) | (simp [*]; done)), H', ⟨by have := HJ3.out; have := HK2.out; omega⟩, ⟨by (with_reducible repeat (first | apply Kd.R_alloc | apply Kd.R_drewN | apply Kd.R_drew)); exact Kd.R_mono HO_7.out (fun _ hk => trivial)⟩, ⟨by repeat (first | (with_reducible first | exact HB.out | apply below_alloc | apply pw_below_drewN | apply below_drew1 | refine below_set ?_ GE218.out) | exact HB.out)⟩⟩
                    · rw [if_neg c12] at H
                      have c12b0 : decide (((rd_T53 l0 x19_2).f1) ≤ x1_2) = false := decide_eq_false c12
                      clear c12
                      obtain ⟨ji17, hji17⟩ : ∃ j_ : Int, (mn x2_2 (wrap64 (((rd_T53 l0 x19_2).f1) - x1_2))) = j_ := ⟨_, rfl⟩
                      replace H : (if x7_2.length < 8796093022208 then ((some (x7_2 ++ [(⟨wrap64 (((rd_T53 l0 x19_2).f0) + x1_2), ji17⟩ : S53)] : List (S53))).bind fun y220 => (if (wrap64 (x2_2 - (ji17))) = 0 then ((span_Glue.f k2 y220).bind fun t223 => (some t223)) else (span_Slice.l0 k2 0 (wrap64 (x2_2 - (ji17))) y220 l0 (l0.length : Int) (wrap64 (x19_2 + 1))))) else (none)) = some r := by first | (rw [hji17] at H; exact H) | (simp only [hji17] at H ⊢; exact H)
                      (try rw [hji17] at A10)
                      have hji17_ : (if (wrap64 (((rd_T53 l0 x19_2).f1) - x1_2)) < x2_2 then (wrap64 (((rd_T53 l0 x19_2).f1) - x1_2)) else x2_2) = ji17 := hji17
                      by_cases c18 : x7_2.length < 8796093022208
                      · rw [if_pos c18] at H
                        have LMc18 := Aside0.mk c18
                        clear c18
                        obtain ⟨y220, hy220⟩ : ∃ y_ : List (S53), y_ = (x7_2 ++ [(⟨wrap64 (((rd_T53 l0 x19_2).f0) + x1_2), ji17⟩ : S53)]) := ⟨_, rfl⟩
                        replace H : (if (wrap64 (x2_2 - (ji17))) = 0 then ((span_Glue.f k2 y220).bind fun t223 => (some t223)) else (span_Slice.l0 k2 0 (wrap64 (x2_2 - (ji17))) y220 l0 (l0.length : Int) (wrap64 (x19_2 + 1)))) = some r := by first | (rw [hy220]; with_reducible exact H) | (have H2_ := (Option.bind_some _ _).symm.trans H; rw [hy220]; with_reducible exact H2_) | (have H2_ := (Option.bind_some _ _).symm.trans H; with_reducible exact H2_) | with_reducible exact H | (rw [hy220]; exact H) | exact H
                        have Ny220 := Aside0.mk hy220
                        clear hy220
                        by_cases c19 : (wrap64 (x2_2 - (ji17))) = 0
                        · rw [if_pos c19] at H
                          have c19b0 : ((wrap64 (x2_2 - (ji17))) == 0) = true := beq_iff_eq.mpr c19
                          have c19b1 : ((wrap64 (x2_2 - (ji17))) != 0) = false := bne_eq_false_iff_eq.mpr c19
                          clear c19
                          replace H := Option.bind_eq_some_iff.mp H
                          obtain ⟨t223, A200, H⟩ := H
                          replace H : (some t223) = some r := H
                          have A20 := Aside0.mk A200
                          clear A200
                          obtain rfl := Option.some.inj H
                          have p217 : 0 ≤ (x19_2 : Int) := of_decide_eq_true (by first | (with_reducible assumption) | assumption)
                          have q217 : x19_2 < (l0.length : Int) := of_decide_eq_true (by first | (with_reducible assumption) | assumption)
                          obtain ⟨ad217, e217, hx217_0, hx217_1⟩ := at_T53 HR0.out x19_2 p217 q217
                          cases e217
                          replace hx217_0 := (HB.out.cell (World.block_lt_of_cell? w _ hx217_0)).trans hx217_0
                          replace hx217_1 := (HB.out.cell (World.block_lt_of_cell? w _ hx217_1)).trans hx217_1
                          replace p217 := eq_true p217
                          replace q217 := eq_true q217
                          go_wp2_with (first | ((with_reducible refine gate_dst (N := 9) rfl ?_); refine box_event ?hg (N := 9) ?hd (cs := #[.int .i64 0, .int .i64 0]) (t := 53) ?hr ?_; (case hd => rfl); (case hg => rfl); (case hr => first | (go_simp; done) | (go_simp; rfl)); intro gb218 hg w21 hbox hb; have n0_ := Aside0.mk (Kd.R_below (Kd.R_elderB (by (with_reducible repeat (first | apply Kd.R_alloc | apply Kd.R_drewN | apply Kd.R_drew)); exact HO_7.out) gb218 (Nat.le_of_eq hg.symm)) hb); have n1_ := Aside0.mk (below_step (by repeat (first | (with_reducible first | exact HB.out | apply below_alloc | apply pw_below_drewN | apply below_drew1) | exact HB.out)) hb); have n2_ := Aside0.mk (hbox); have n3_ := Aside0.mk ((by rw [hg]; exact (below_size (by repeat (first | (with_reducible first | exact HB.out | apply below_alloc | apply pw_below_drewN | apply below_drew1) | exact HB.out))) : w.heap.size ≤ gb218)); have n4_ := Aside0.mk ((by rw [hg]; exact (below_size (by repeat (first | (with_reducible first | exact HB.out | apply below_alloc | apply pw_below_drewN | apply below_drew1) | exact HB.out))) : w.heap.size ≤ gb218)); clear HO_7; clear HB; have HO_7 := n0_; have HB := n1_; have BK218 := n2_; have GW218 := n3_; have GE218 := n4_; clear n0_ n1_ n2_ n3_ n4_; clear hb hbox hg; have hcz22_0 : w21.cell? ⟨gb218, 0, none⟩ = some (.int .i64 0) := (blk_cell BK218.out 0).trans rfl; have hcz22_1 : w21.cell? ⟨gb218, 1, none⟩ = some (.int .i64 0) := (blk_cell BK218.out 1).trans rfl; have hfz22_0 := blk_frozen BK218.out 0; have hfz22_1 := blk_frozen BK218.out 1) | ((with_reducible refine gate_callee (f := 24) rfl ?_); refine goesL_ (some 24) rfl rfl Try.func24 (by kernel_rfl) rfl #[.agg #[.int .i64 ((rd_T53 l0 x19_2).f0), .int .i64 ((rd_T53 l0 x19_2).f1)]] rfl (by (try simp only [List.map_toArray, List.map_cons, List.map_nil]); first | done | rfl | (simp only [List.length_drop, List.length_take]; rfl)) ?_; (with_reducible refine (span_good.calls ((rd_T53 l0 x19_2).f0) ((rd_T53 l0 x19_2).f1) true _ A10.out).mono ?_); rintro e w23 ⟨rfl, hb⟩; refine ⟨_, rfl, ?_⟩; have n0_ := Aside0.mk (Kd.R_below (by (with_reducible repeat (first | apply Kd.R_alloc | apply Kd.R_drewN | apply Kd.R_drew)); exact (Kd.R_mono (Kd.R_far (p := ⟨gb218, 1, none⟩) (Kd.R_far (p := ⟨gb218, 0, none⟩) (Kd.R_mono HO_7.out (fun k_ hk => (⟨hk, hk.2⟩ : _ ∧ k_ ≠ gb218))) (fun _ hk => hk.2) (.int .i64 ((rd_T53 l0 x19_2).f0))) (fun _ hk => hk.2) (.int .i64 ((rd_T53 l0 x19_2).f1))) (fun _ h_ => h_.1))) hb); have n1_ := Aside0.mk (blk_below (g := gb218) (o := .cells #[.int .i64 ((rd_T53 l0 x19_2).f0), .int .i64 ((rd_T53 l0 x19_2).f1)] 53 (0, 0)) (by (with_reducible repeat (first | refine blk_drewN ?_ _ | refine blk_drew ?_ | refine blk_alloc ?_ _)); refine blk_put (cs := #[.int .i64 ((rd_T53 l0 x19_2).f0), .int .i64 0]) ?_ 1 _ rfl; (with_reducible repeat (first | refine blk_drewN ?_ _ | refine blk_drew ?_ | refine blk_alloc ?_ _)); refine blk_put (cs := #[.int .i64 0, .int .i64 0]) ?_ 0 _ rfl; (with_reducible repeat (first | refine blk_drewN ?_ _ | refine blk_drew ?_ | refine blk_alloc ?_ _)); exact BK218.out) hb); have n2_ := Aside0.mk (below_step (by repeat (first | (with_reducible first | exact HB.out | apply below_alloc | apply pw_below_drewN | apply below_drew1 | refine below_set ?_ GE218.out) | exact HB.out)) hb); clear HO_7; clear BK218; clear HB; have HO_7 := n0_; have BK218 := n1_; have HB := n2_; clear n0_ n1_ n2_; (try clear hb); (try clear hb2); (try clear hk); (try clear hi); have hcz24_0 : w23.cell? ⟨gb218, 0, none⟩ = some (.int .i64 ((rd_T53 l0 x19_2).f0)) := (blk_cell BK218.out 0).trans rfl; have hcz24_1 : w23.cell? ⟨gb218, 1, none⟩ = some (.int .i64 ((rd_T53 l0 x19_2).f1)) := (blk_cell BK218.out 1).trans rfl; have hfz24_0 := blk_frozen BK218.out 0; have hfz24_1 := blk_frozen BK218.out 1) | ((with_reducible refine gate_builtin (b := .append) (xs := #[.tmp 40, .tmp 47]) rfl ?_); at_builtin; refine Kd.R_append k53 (w0 := w) w.heap.size rfl (.tmp 40) (.tmp 47) 25 53 (.agg #[(.int .i64 0), (.int .i64 0)]) 16 rfl Try.underlying25 info53 rfl (by decide) (by omega) u7 x7_2 (⟨wrap64 (((rd_T53 l0 x19_2).f0) + x1_2), ji17⟩ : S53) [.int .i64 (wrap64 (((rd_T53 l0 x19_2).f0) + x1_2)), .int .i64 ji17] (fun k_ => k_ ≠ gb218) (fun _ => False) rfl rfl ?aP (fun _ hk => hk.elim) ?aF ?aO ?aB ?aS ?aL ?_; (case aP => exact k53_mkM _ _ _ (⟨wrap64 (((rd_T53 l0 x19_2).f0) + x1_2), ji17⟩ : S53)); (case aB => exact (by repeat (first | (with_reducible first | exact HB.out | apply below_alloc | apply pw_below_drewN | apply below_drew1 | refine below_set ?_ GE218.out) | exact HB.out))); (case aF => exact (fun k_ hk => Kd.freshB (g := gb218) (o := .cells #[.int .i64 ((rd_T53 l0 x19_2).f0), .int .i64 ((rd_T53 l0 x19_2).f1)] 53 (0, 0)) (by (with_reducible repeat (first | refine blk_drewN ?_ _ | refine blk_drew ?_ | refine blk_alloc ?_ _)); exact BK218.out) k_ hk)); (case aO => exact (by (with_reducible repeat (first | apply Kd.R_alloc | apply Kd.R_drewN | apply Kd.R_drew)); exact Kd.R_mono HO_7.out (fun _ hk => hk.2))); (case aS => exact (below_size (by repeat (first | (with_reducible first | exact HB.out | apply below_alloc | apply pw_below_drewN | apply below_drew1 | refine below_set ?_ GE218.out) | exact HB.out)))); (case aL => have := LMc18.out; omega); intro v221 w25 ho hb hg hat; rw [← Ny220.out] at ho; have n0_ := Aside0.mk (blk_grown (g := gb218) (o := .cells #[.int .i64 ((rd_T53 l0 x19_2).f0), .int .i64 ((rd_T53 l0 x19_2).f1)] 53 (0, 0)) (by (with_reducible repeat (first | refine blk_drewN ?_ _ | refine blk_drew ?_ | refine blk_alloc ?_ _)); exact BK218.out) hg (Kd.R_away HO_7.out (fun _ hk => hk.2))); have n1_ := Aside0.mk (hb); have n2_ := Aside0.mk (ho); clear BK218; clear HB; clear HO_7; have BK218 := n0_; have HB := n1_; have HO222 := n2_; clear n0_ n1_ n2_; clear ho hb hg hat; obtain ⟨Ao26, co26, eo26⟩ := Kd.R_slice HO222.out; subst eo26) | ((with_reducible refine gate_callee (f := 71) rfl ?_); refine goesL_ (some 56) rfl rfl Try.func71 (by kernel_rfl) rfl #[.slice Ao26 y220.length co26] rfl (by (try simp only [List.map_toArray, List.map_cons, List.map_nil]); first | done | rfl | (simp only [List.length_drop, List.length_take]; rfl)) ?_; (with_reducible refine (span_Glue.calls k2 _ _ y220 t223 _ ?side1 ?side2 A20.out).mono ?_); (case side1 => repeat (first | exact (Kd.R_reads' HO222.out).2.2 | (with_reducible refine Kd.C_alloc ?_ _) | (with_reducible refine Kd.C_drewN ?_ _) | (with_reducible refine Kd.C_drew ?_))); (case side2 => exact (Kd.R_reads' HO222.out).2.1); rintro e w27 ⟨v224, rfl, ho0, hb⟩; refine ⟨_, rfl, ?_⟩; have n0_ := Aside0.mk (Kd.R_elder' (by (with_reducible repeat (first | apply Kd.R_alloc | apply Kd.R_drewN | apply Kd.R_drew)); exact HO222.out) (Kd.R_base ho0) hb); have n1_ := Aside0.mk (Kd.R_lower (Kd.R_newB (Kd.R_new' ho0 (Kd.R_lt (by (with_reducible repeat (first | apply Kd.R_alloc | apply Kd.R_drewN | apply Kd.R_drew)); exact HO222.out))) (g := gb218) (o := .cells #[.int .i64 ((rd_T53 l0 x19_2).f0), .int .i64 ((rd_T53 l0 x19_2).f1)] 53 (0, 0)) (by (with_reducible repeat (first | refine blk_drewN ?_ _ | refine blk_drew ?_ | refine blk_alloc ?_ _)); exact BK218.out)) (below_size (by repeat (first | (with_reducible first | exact HB.out | apply below_alloc | apply pw_below_drewN | apply below_drew1 | refine below_set ?_ GE218.out) | exact HB.out)))); have n2_ := Aside0.mk (blk_below (g := gb218) (o := .cells #[.int .i64 ((rd_T53 l0 x19_2).f0), .int .i64 ((rd_T53 l0 x19_2).f1)] 53 (0, 0)) (by (with_reducible repeat (first | refine blk_drewN ?_ _ | refine blk_drew ?_ | refine blk_alloc ?_ _)); exact BK218.out) hb); have n3_ := Aside0.mk (below_step (by repeat (first | (with_reducible first | exact HB.out | apply below_alloc | apply pw_below_drewN | apply below_drew1 | refine below_set ?_ GE218.out) | exact HB.out)) hb); clear HO222; clear BK218; clear HB; have HO222 := n0_; have HO225 := n1_; have BK218 := n2_; have HB := n3_; clear n0_ n1_ n2_ n3_; (try clear hb); (try clear hb2); (try clear hk); (try clear hi); (try clear ho0)))
                          go_ret
                          exact ⟨_, by first | rfl | (simp [errW_none, errW_some] <;> rfl) | (simp only [← hji17]; first | rfl | (simp [errW_none, errW_some] <;> rfl)) | (simp [*, errW_none, errW_some] <;> rfl), by (with_reducible repeat (first | apply Kd.R_alloc | apply Kd.R_drewN | apply Kd.R_drew)); exact Kd.R_mono HO225.out (fun _ hk => trivial), by repeat (first | (with_reducible first | exact HB.out | apply below_alloc | apply pw_below_drewN | apply below_drew1 | refine below_set ?_ GE218.out) | exact HB.out)⟩
                        · rw [if_neg c19] at H
                          have c19b0 : ((wrap64 (x2_2 - (ji17))) == 0) = false := beq_eq_false_iff_ne.mpr c19
                          have c19b1 : ((wrap64 (x2_2 - (ji17))) != 0) = true := bne_iff_ne.mpr c19
                          have H' := Aside0.mk H
                          clear H
                          have p217 : 0 ≤ (x19_2 : Int) := of_decide_eq_true (by first | (with_reducible assumption) | assumption)
                          have q217 : x19_2 < (l0.length : Int) := of_decide_eq_true (by first | (with_reducible assumption) | assumption)
                          obtain ⟨ad217, e217, hx217_0, hx217_1⟩ := at_T53 HR0.out x19_2 p217 q217
                          cases e217
                          replace hx217_0 := (HB.out.cell (World.block_lt_of_cell? w _ hx217_0)).trans hx217_0
                          replace hx217_1 := (HB.out.cell (World.block_lt_of_cell? w _ hx217_1)).trans hx217_1
                          replace p217 := eq_true p217
                          replace q217 := eq_true q217
                          go_wp2_with (first | ((with_reducible refine gate_dst (N := 9) rfl ?_); refine box_event ?hg (N := 9) ?hd (cs := #[.int .i64 0, .int .i64 0]) (t := 53) ?hr ?_; (case hd => rfl); (case hg => rfl); (case hr => first | (go_simp; done) | (go_simp; rfl)); intro gb218 hg w28 hbox hb; have n0_ := Aside0.mk (Kd.R_below (Kd.R_elderB (by (with_reducible repeat (first | apply Kd.R_alloc | apply Kd.R_drewN | apply Kd.R_drew)); exact HO_7.out) gb218 (Nat.le_of_eq hg.symm)) hb); have n1_ := Aside0.mk (below_step (by repeat (first | (with_reducible first | exact HB.out | apply below_alloc | apply pw_below_drewN | apply below_drew1) | exact HB.out)) hb); have n2_ := Aside0.mk (hbox); have n3_ := Aside0.mk ((by rw [hg]; exact (below_size (by repeat (first | (with_reducible first | exact HB.out | apply below_alloc | apply pw_below_drewN | apply below_drew1) | exact HB.out))) : w.heap.size ≤ gb218)); have n4_ := Aside0.mk ((by rw [hg]; exact (below_size (by repeat (first | (with_reducible first | exact HB.out | apply below_alloc | apply pw_below_drewN | apply below_drew1) | exact HB.out))) : w.heap.size ≤ gb218)); clear HO_7; clear HB; have HO_7 := n0_; have HB := n1_; have BK218 := n2_; have GW218 := n3_; have GE218 := n4_; clear n0_ n1_ n2_ n3_ n4_; clear hb hbox hg; have hcz29_0 : w28.cell? ⟨gb218, 0, none⟩ = some (.int .i64 0) := (blk_cell BK218.out 0).trans rfl; have hcz29_1 : w28.cell? ⟨gb218, 1, none⟩ = some (.int .i64 0) := (blk_cell BK218.out 1).trans rfl; have hfz29_0 := blk_frozen BK218.out 0; have hfz29_1 := blk_frozen BK218.out 1) | ((with_reducible refine gate_callee (f := 24) rfl ?_); refine goesL_ (some 24) rfl rfl Try.func24 (by kernel_rfl) rfl #[.agg #[.int .i64 ((rd_T53 l0 x19_2).f0), .int .i64 ((rd_T53 l0 x19_2).f1)]] rfl (by (try simp only [List.map_toArray, List.map_cons, List.map_nil]); first | done | rfl | (simp only [List.length_drop, List.length_take]; rfl)) ?_; (with_reducible refine (span_good.calls ((rd_T53 l0 x19_2).f0) ((rd_T53 l0 x19_2).f1) true _ A10.out).mono ?_); rintro e w30 ⟨rfl, hb⟩; refine ⟨_, rfl, ?_⟩; have n0_ := Aside0.mk (Kd.R_below (by (with_reducible repeat (first | apply Kd.R_alloc | apply Kd.R_drewN | apply Kd.R_drew)); exact (Kd.R_mono (Kd.R_far (p := ⟨gb218, 1, none⟩) (Kd.R_far (p := ⟨gb218, 0, none⟩) (Kd.R_mono HO_7.out (fun k_ hk => (⟨hk, hk.2⟩ : _ ∧ k_ ≠ gb218))) (fun _ hk => hk.2) (.int .i64 ((rd_T53 l0 x19_2).f0))) (fun _ hk => hk.2) (.int .i64 ((rd_T53 l0 x19_2).f1))) (fun _ h_ => h_.1))) hb); have n1_ := Aside0.mk (blk_below (g := gb218) (o := .cells #[.int .i64 ((rd_T53 l0 x19_2).f0), .int .i64 ((rd_T53 l0 x19_2).f1)] 53 (0, 0)) (by (with_reducible repeat (first | refine blk_drewN ?_ _ | refine blk_drew ?_ | refine blk_alloc ?_ _)); refine blk_put (cs := #[.int .i64 ((rd_T53 l0 x19_2).f0), .int .i64 0]) ?_ 1 _ rfl; (with_reducible repeat (first | refine blk_drewN ?_ _ | refine blk_drew ?_ | refine blk_alloc ?_ _)); refine blk_put (cs := #[.int .i64 0, .int .i64 0]) ?_ 0 _ rfl; (with_reducible repeat (first | refine blk_drewN ?_ _ | refine blk_drew ?_ | refine blk_alloc ?_ _)); exact BK218.out) hb); have n2_ := Aside0.mk (below_step (by repeat (first | (with_reducible first | exact HB.out | apply below_alloc | apply pw_below_drewN | apply below_drew1 | refine below_set ?_ GE218.out) | exact HB.out)) hb); clear HO_7; clear BK218; clear HB; have HO_7 := n0_; have BK218 := n1_; have HB := n2_; clear n0_ n1_ n2_; (try clear hb); (try clear hb2); (try clear hk); (try clear hi); have hcz31_0 : w30.cell? ⟨gb218, 0, none⟩ = some (.int .i64 ((rd_T53 l0 x19_2).f0)) := (blk_cell BK218.out 0).trans rfl; have hcz31_1 : w30.cell? ⟨gb218, 1, none⟩ = some (.int .i64 ((rd_T53 l0 x19_2).f1)) := (blk_cell BK218.out 1).trans rfl; have hfz31_0 := blk_frozen BK218.out 0; have hfz31_1 := blk_frozen BK218.out 1) | ((with_reducible refine gate_builtin (b := .append) (xs := #[.tmp 40, .tmp 47]) rfl ?_); at_builtin; refine Kd.R_append k53 (w0 := w) w.heap.size rfl (.tmp 40) (.tmp 47) 25 53 (.agg #[(.int .i64 0), (.int .i64 0)]) 16 rfl Try.underlying25 info53 rfl (by decide) (by omega) u7 x7_2 (⟨wrap64 (((rd_T53 l0 x19_2).f0) + x1_2), ji17⟩ : S53) [.int .i64 (wrap64 (((rd_T53 l0 x19_2).f0) + x1_2)), .int .i64 ji17] (fun k_ => k_ ≠ gb218) (fun _ => False) rfl rfl ?aP (fun _ hk => hk.elim) ?aF ?aO ?aB ?aS ?aL ?_; (case aP => exact k53_mkM _ _ _ (⟨wrap64 (((rd_T53 l0 x19_2).f0) + x1_2), ji17⟩ : S53)); (case aB => exact (by repeat (first | (with_reducible first | exact HB.out | apply below_alloc | apply pw_below_drewN | apply below_drew1 | refine below_set ?_ GE218.out) | exact HB.out))); (case aF => exact (fun k_ hk => Kd.freshB (g := gb218) (o := .cells #[.int .i64 ((rd_T53 l0 x19_2).f0), .int .i64 ((rd_T53 l0 x19_2).f1)] 53 (0, 0)) (by (with_reducible repeat (first | refine blk_drewN ?_ _ | refine blk_drew ?_ | refine blk_alloc ?_ _)); exact BK218.out) k_ hk)); (case aO => exact (by (with_reducible repeat (first | apply Kd.R_alloc | apply Kd.R_drewN | apply Kd.R_drew)); exact Kd.R_mono HO_7.out (fun _ hk => hk.2))); (case aS => exact (below_size (by repeat (first | (with_reducible first | exact HB.out | apply below_alloc | apply pw_below_drewN | apply below_drew1 | refine below_set ?_ GE218.out) | exact HB.out)))); (case aL => have := LMc18.out; omega); intro v221 w32 ho hb hg hat; rw [← Ny220.out] at ho; have n0_ := Aside0.mk (blk_grown (g := gb218) (o := .cells #[.int .i64 ((rd_T53 l0 x19_2).f0), .int .i64 ((rd_T53 l0 x19_2).f1)] 53 (0, 0)) (by (with_reducible repeat (first | refine blk_drewN ?_ _ | refine blk_drew ?_ | refine blk_alloc ?_ _)); exact BK218.out) hg (Kd.R_away HO_7.out (fun _ hk => hk.2))); have n1_ := Aside0.mk (hb); have n2_ := Aside0.mk (ho); clear BK218; clear HB; clear HO_7; have BK218 := n0_; have HB := n1_; have HO222 := n2_; clear n0_ n1_ n2_; clear ho hb hg hat))
                          go_roundg k2
                          case measure => have := HJ3.out; have := HK2.out; omega
                          case rel => exact ⟨(0), (wrap64 (x2_2 - (ji17))), (y220), (wrap64 (x19_2 + 1)), (by first | rfl | (simp; done) | (simp [*]; done)), (by first | rfl | (simp; done) | (simp only [← hji17] <;> (first | rfl | simp)) | (simp [*]; done)), (by first | rfl | (simp; done) | (simp [*]; done)), H', ⟨by have := HJ3.out; have := HK2.out; omega⟩, ⟨by (with_reducible repeat (first | apply Kd.R_alloc | apply Kd.R_drewN | apply Kd.R_drew)); exact Kd.R_mono HO222.out (fun _ hk => trivial)⟩, ⟨by repeat (first | (with_reducible first | exact HB.out | apply below_alloc | apply pw_below_drewN | apply below_drew1 | refine below_set ?_ GE218.out) | exact HB.out)⟩⟩
                      · rw [if_neg c18] at H
                        exact absurd H (by simp)
                  · replace c11 := Bool.eq_false_iff.mpr c11
                    subst c11
                    have H1 : (span_Slice.l0 k2 x1_2 x2_2 x7_2 l0 (l0.length : Int) (wrap64 (x19_2 + 1))) = some r := by rw [if_neg (show ¬ (false = true) by decide)] at H; exact H
                    clear H
                    have H := H1
                    clear H1
                    have H' := Aside0.mk H
                    clear H
                    have p217 : 0 ≤ (x19_2 : Int) := of_decide_eq_true (by first | (with_reducible assumption) | assumption)
                    have q217 : x19_2 < (l0.length : Int) := of_decide_eq_true (by first | (with_reducible assumption) | assumption)
                    obtain ⟨ad217, e217, hx217_0, hx217_1⟩ := at_T53 HR0.out x19_2 p217 q217
                    cases e217
                    replace hx217_0 := (HB.out.cell (World.block_lt_of_cell? w _ hx217_0)).trans hx217_0
                    replace hx217_1 := (HB.out.cell (World.block_lt_of_cell? w _ hx217_1)).trans hx217_1
                    replace p217 := eq_true p217
                    replace q217 := eq_true q217
                    go_wp2_with (first | ((with_reducible refine gate_dst (N := 9) rfl ?_); refine box_event ?hg (N := 9) ?hd (cs := #[.int .i64 0, .int .i64 0]) (t := 53) ?hr ?_; (case hd => rfl); (case hg => rfl); (case hr => first | (go_simp; done) | (go_simp; rfl)); intro gb218 hg w33 hbox hb; have n0_ := Aside0.mk (Kd.R_below (Kd.R_elderB (by (with_reducible repeat (first | apply Kd.R_alloc | apply Kd.R_drewN | apply Kd.R_drew)); exact HO_7.out) gb218 (Nat.le_of_eq hg.symm)) hb); have n1_ := Aside0.mk (below_step (by repeat (first | (with_reducible first | exact HB.out | apply below_alloc | apply pw_below_drewN | apply below_drew1) | exact HB.out)) hb); have n2_ := Aside0.mk (hbox); have n3_ := Aside0.mk ((by rw [hg]; exact (below_size (by repeat (first | (with_reducible first | exact HB.out | apply below_alloc | apply pw_below_drewN | apply below_drew1) | exact HB.out))) : w.heap.size ≤ gb218)); have n4_ := Aside0.mk ((by rw [hg]; exact (below_size (by repeat (first | (with_reducible first | exact HB.out | apply below_alloc | apply pw_below_drewN | apply below_drew1) | exact HB.out))) : w.heap.size ≤ gb218)); clear HO_7; clear HB; have HO_7 := n0_; have HB := n1_; have BK218 := n2_; have GW218 := n3_; have GE218 := n4_; clear n0_ n1_ n2_ n3_ n4_; clear hb hbox hg; have hcz34_0 : w33.cell? ⟨gb218, 0, none⟩ = some (.int .i64 0) := (blk_cell BK218.out 0).trans rfl; have hcz34_1 : w33.cell? ⟨gb218, 1, none⟩ = some (.int .i64 0) := (blk_cell BK218.out 1).trans rfl; have hfz34_0 := blk_frozen BK218.out 0; have hfz34_1 := blk_frozen BK218.out 1) | ((with_reducible refine gate_callee (f := 24) rfl ?_); refine goesL_ (some 24) rfl rfl Try.func24 (by kernel_rfl) rfl #[.agg #[.int .i64 ((rd_T53 l0 x19_2).f0), .int .i64 ((rd_T53 l0 x19_2).f1)]] rfl (by (try simp only [List.map_toArray, List.map_cons, List.map_nil]); first | done | rfl | (simp only [List.length_drop, List.length_take]; rfl)) ?_; (with_reducible refine (span_good.calls ((rd_T53 l0 x19_2).f0) ((rd_T53 l0 x19_2).f1) false _ A10.out).mono ?_); rintro e w35 ⟨rfl, hb⟩; refine ⟨_, rfl, ?_⟩; have n0_ := Aside0.mk (Kd.R_below (by (with_reducible repeat (first | apply Kd.R_alloc | apply Kd.R_drewN | apply Kd.R_drew)); exact (Kd.R_mono (Kd.R_far (p := ⟨gb218, 1, none⟩) (Kd.R_far (p := ⟨gb218, 0, none⟩) (Kd.R_mono HO_7.out (fun k_ hk => (⟨hk, hk.2⟩ : _ ∧ k_ ≠ gb218))) (fun _ hk => hk.2) (.int .i64 ((rd_T53 l0 x19_2).f0))) (fun _ hk => hk.2) (.int .i64 ((rd_T53 l0 x19_2).f1))) (fun _ h_ => h_.1))) hb); have n1_ := Aside0.mk (blk_below (g := gb218) (o := .cells #[.int .i64 ((rd_T53 l0 x19_2).f0), .int .i64 ((rd_T53 l0 x19_2).f1)] 53 (0, 0)) (by (with_reducible repeat (first | refine blk_drewN ?_ _ | refine blk_drew ?_ | refine blk_alloc ?_ _)); refine blk_put (cs := #[.int .i64 ((rd_T53 l0 x19_2).f0), .int .i64 0]) ?_ 1 _ rfl; (with_reducible repeat (first | refine blk_drewN ?_ _ | refine blk_drew ?_ | refine blk_alloc ?_ _)); refine blk_put (cs := #[.int .i64 0, .int .i64 0]) ?_ 0 _ rfl; (with_reducible repeat (first | refine blk_drewN ?_ _ | refine blk_drew ?_ | refine blk_alloc ?_ _)); exact BK218.out) hb); have n2_ := Aside0.mk (below_step (by repeat (first | (with_reducible first | exact HB.out | apply below_alloc | apply pw_below_drewN | apply below_drew1 | refine below_set ?_ GE218.out) | exact HB.out)) hb); clear HO_7; clear BK218; clear HB; have HO_7 := n0_; have BK218 := n1_; have HB := n2_; clear n0_ n1_ n2_; (try clear hb); (try clear hb2); (try clear hk); (try clear hi)))
                    go_roundg k2
                    case measure => have := HJ3.out; have := HK2.out; omega
                    case rel => exact ⟨(x1_2), (x2_2), (x7_2), (wrap64 (x19_2 + 1)), (by first | rfl | (simp; done) | (simp [*]; done)), (by first | rfl | (simp; done) | (simp [*]; done)), (by first | rfl | (simp; done) | (simp [*]; done)), H', ⟨by have := HJ3.out; have := HK2.out; omega⟩, ⟨by (with_reducible repeat (first | apply Kd.R_alloc | apply Kd.R_drewN | apply Kd.R_drew)); exact Kd.R_mono HO_7.out (fun _ hk => trivial)⟩, ⟨by repeat (first | (with_reducible first | exact HB.out | apply below_alloc | apply pw_below_drewN | apply below_drew1 | refine below_set ?_ GE218.out) | exact HB.out)⟩⟩
                · rw [if_neg c9] at H
                  exact absurd H (by simp)
              · rw [if_neg c8] at H
                exact absurd H (by simp)
            · rw [if_neg c7] at H
              have c7b0 : decide (x19_2 < (l0.length : Int)) = false := decide_eq_false c7
              clear c7
              replace H := Option.bind_eq_some_iff.mp H
              obtain ⟨t214, A360, H⟩ := H
              replace H : (some t214) = some r := H
              have A36 := Aside0.mk A360
              clear A360
              obtain rfl := Option.some.inj H
              obtain ⟨Ao37, co37, eo37⟩ := Kd.R_slice HO_7.out
              subst eo37
              go_wp2_with (first | ((with_reducible refine gate_callee (f := 71) rfl ?_); refine goesL_ (some 56) rfl rfl Try.func71 (by kernel_rfl) rfl #[.slice Ao37 x7_2.length co37] rfl (by (try simp only [List.map_toArray, List.map_cons, List.map_nil]); first | done | rfl | (simp only [List.length_drop, List.length_take]; rfl)) ?_; (with_reducible refine (span_Glue.calls k2 _ _ x7_2 t214 _ ?side1 ?side2 A36.out).mono ?_); (case side1 => repeat (first | exact (Kd.R_reads' HO_7.out).2.2 | (with_reducible refine Kd.C_alloc ?_ _) | (with_reducible refine Kd.C_drewN ?_ _) | (with_reducible refine Kd.C_drew ?_))); (case side2 => exact (Kd.R_reads' HO_7.out).2.1); rintro e w38 ⟨v215, rfl, ho0, hb⟩; refine ⟨_, rfl, ?_⟩; have n0_ := Aside0.mk (Kd.R_elder' (by (with_reducible repeat (first | apply Kd.R_alloc | apply Kd.R_drewN | apply Kd.R_drew)); exact HO_7.out) (Kd.R_base ho0) hb); have n1_ := Aside0.mk (Kd.R_lower (Kd.R_new' ho0 (Kd.R_lt (by (with_reducible repeat (first | apply Kd.R_alloc | apply Kd.R_drewN | apply Kd.R_drew)); exact HO_7.out))) (below_size (by repeat (first | (with_reducible first | exact HB.out | apply below_alloc | apply pw_below_drewN | apply below_drew1) | exact HB.out)))); have n2_ := Aside0.mk (below_step (by repeat (first | (with_reducible first | exact HB.out | apply below_alloc | apply pw_below_drewN | apply below_drew1) | exact HB.out)) hb); clear HO_7; clear HB; have HO_7 := n0_; have HO216 := n1_; have HB := n2_; clear n0_ n1_ n2_; (try clear hb); (try clear hb2); (try clear hk); (try clear hi); (try clear ho0)))
              go_ret
              exact ⟨_, by first | rfl | (simp [errW_none, errW_some] <;> rfl) | (simp [*, errW_none, errW_some] <;> rfl), by (with_reducible repeat (first | apply Kd.R_alloc | apply Kd.R_drewN | apply Kd.R_drew)); exact Kd.R_mono HO216.out (fun _ hk => trivial), by repeat (first | (with_reducible first | exact HB.out | apply below_alloc | apply pw_below_drewN | apply below_drew1) | exact HB.out)⟩

/-! ### source_pieces_Read: function 73 -/
/-- What is read of several places, one after the other. -/
def readL (rd : Int → Int → Option (List Int)) : List S53 → List Int → Option (List Int)
  | [], acc => some acc
  | x :: t, acc => (rd x.f0 x.f1).bind fun r => if acc.length + r.length ≤ 65536 then readL rd t (acc ++ r) else none
def Src.read (k : Nat) : Src → Int → Int → Option (List Int)
  | .img b l, off, n => (source_image_Read.f k b l off n).bind fun r => if r.2 = 0 then some r.1 else none
  | .pcs s l N, off, n => if 0 ≤ off ∧ 0 ≤ n ∧ n ≤ N ∧ off ≤ N - n ∧ N ≤ 65536 then (span_Slice.f k l off n).bind fun xs => readL (Src.read k s) xs [] else none
def ReadsAs (k : Nat) (s : Src) : Prop := ∀ (g : Nat) (off n : Int) (r : List Int) (w : World), SrcAt w g s → Src.read k s off n = some r →
  Calls Try.prog s.fread #[.pointer (some ⟨g, 0, none⟩), .int .i64 off, .int .i64 n] w fun e w' => ∃ v0_ : Value, e = .returned (.tuple #[v0_, .int .i64 0]) ∧ Kd.R (Kd.int .u8) 5 w' w.heap.size (fun _ => True) v0_ r ∧ Below w.heap.size w w'
set_option maxHeartbeats 4000000 in
set_option maxRecDepth 100000 in
theorem source_pieces_Read.calls (k : Nat) (s : Src) (l : List S53) (N : Int) (ih : ReadsAs k s) : ReadsAs k (.pcs s l N) := by
  intro g off n r w hI h
  show Calls Try.prog 73 _ _ _
  unfold Src.read at h
  split at h
  case isFalse => exact absurd h (by simp)
  case isTrue hh =>
  obtain ⟨q1, q2, q3, q4, q5⟩ := hh
  obtain ⟨xs, hx, h⟩ := Option.bind_eq_some_iff.mp h
  obtain ⟨g', B, d, h1, h2, h3, h4⟩ := hI
  have IH := Aside0.mk ih
  have HI := Aside0.mk h1
  have HB := Aside0.mk h2
  have HD := Aside0.mk h3
  have HS := Aside0.mk h4
  have HX := Aside0.mk hx
  have H := Aside0.mk h
  have hwi : source_within.f off n N = some true := by
    have e : wrap64 (N - n) = N - n := by unfold wrap64; omega
    unfold source_within.f
    rw [if_pos (by omega), if_pos (by omega), if_pos (by omega), e]
    simp; omega
  have HW := Aside0.mk hwi
  have x0 : w.cell? ⟨g, 2, none⟩ = some (.int .i64 N) := (blk_cell h1 2).trans rfl
  clear h1 h2 h3 h4 hx h hwi ih
  go_enter Try.func73, Try.ntmps73
  go_upto_region 3 with (go_at_call 26; refine (source_within.calls off n N true _ HW.out).mono ?_; rintro e w1 ⟨rfl, nd, rfl⟩)
  have HB1 : Aside0 (Below w.heap.size w (w.drewN nd)) := ⟨pw_below_drewN (Below.refl _ _) _⟩
  generalize w.drewN nd = W1 at HB1 ⊢
  clear x0
  obtain ⟨i0, hi0, hz0, hsz, hby⟩ := info_parts info5
  obtain ⟨W2, hmk, hown, hgr⟩ := run_make_own (P := Try.prog) W1 w.heap.size 23 5 i0 _ 1 Try.underlying23 hi0 hz0 hsz .i64 .i64 n.toNat (by rw [hby]; omega) (by unfold maxLen; omega) (below_size HB1.out)
  rw [Int.toNat_of_nonneg q2] at hmk
  have HB2 := Aside0.mk (HB1.out.grown hgr (below_size HB1.out) (fun k hk => by cases hk))
  have HO2 : Aside0 (Kd.R (Kd.int .u8) 5 W2 w.heap.size (fun _ => True) (.slice (some ⟨W1.heap.size, 0, none⟩) 0 n.toNat) []) := ⟨⟨fun _ _ => trivial, [], hown, Reps.none _ _⟩⟩
  clear hown hgr hi0 hz0 hsz hby
  go_upto_region 4 with (fail)
  clear hmk
  have x1 : W2.cell? ⟨g, 1, none⟩ = some (.slice B l.length d) := (blk_cell (blk_below HI.out HB2.out) 1).trans rfl
  go_wp2_with (go_at_call 76; refine (span_Slice.calls k B d l off n xs _ (Kd.C_below HB.out HB2.out) HD.out HX.out).mono ?_; rintro e w3 ⟨v3, rfl, hR, hb⟩; have HR3 := Aside0.mk hR; have HS3 := Aside0.mk hb; clear hR hb; obtain ⟨Bx, cx, ex⟩ := Kd.R_slice HR3.out; subst ex)
  have HB3 := Aside0.mk (below_step HB2.out HS3.out)
  have HO3 := Aside0.mk (Kd.R_below HO2.out HS3.out)
  have HX3 := Aside0.mk (Kd.R_mono (ok' := fun k => some k ≠ (Value.slice (some ⟨W1.heap.size, 0, none⟩) 0 n.toNat).ownBlock) (Kd.R_lower (Kd.R_newR HR3.out HO2.out) (below_size HB2.out)) (fun k hk => hk.2))
  have hmax := (Kd.R_reads' HR3.out).2.2.2.1
  unfold maxLen at hmax
  clear HR3 HS3 HO2 HB2 HB1 x1
  go_loopw [31, 8] (fun i v8 wr => ∃ (j : Nat) (acc : List Int), j ≤ xs.length ∧ i = .int .i64 j ∧ Aside0 (Kd.R (Kd.int .u8) 5 wr w.heap.size (fun _ => True) v8 acc) ∧ Aside0 (readL (Src.read k s) (xs.drop j) acc = some r) ∧ Aside0 (Kd.R k53 53 wr w.heap.size (fun k => some k ≠ v8.ownBlock) (.slice Bx xs.length cx) xs) ∧ Aside0 (Below w.heap.size w wr)) (fun i _ _ => xs.length - (intOf i).toNat)
  case atStart => exact ⟨0, [], Nat.zero_le _, rfl, HO3, H, HX3, HB3⟩
  case round =>
    clear HO3 H HX3 HB3
    obtain ⟨j, acc, hj, rfl, HO, H, HX3, HBr⟩ := hrel
    by_cases hlt : j < xs.length
    · obtain ⟨x, hxe⟩ : ∃ x, x = xs[j] := ⟨_, rfl⟩
      obtain ⟨ad, e1, y0, y1⟩ := at_T53 (Kd.R_reads' HX3.out).2.2 (j : Int) (by omega) (by omega)
      have hrd : rd_T53 xs (j : Int) = x := by
        unfold rd_T53
        rw [Int.toNat_natCast, List.getD_eq_getElem?_getD, List.getElem?_eq_getElem hlt, hxe]
        rfl
      rw [hrd, Int.toNat_natCast] at y0 y1
      have h := H.out
      rw [List.drop_eq_getElem_cons hlt, ← hxe] at h
      unfold readL at h
      obtain ⟨r1, hr1, h⟩ := Option.bind_eq_some_iff.mp h
      split at h
      case isFalse => exact absurd h (by simp)
      case isTrue hc =>
      have H' := Aside0.mk h
      have HR1 := Aside0.mk hr1
      have HCL := Aside0.mk hc
      clear h H hr1 hc hxe hrd
      obtain ⟨Ax, ea⟩ : ∃ A, A = Bx := ⟨_, rfl⟩
      cases e1
      generalize x.f0 = f0 at *
      generalize x.f1 = f1 at *
      have x0 : wr.cell? ⟨g, 0, none⟩ = some (.iface s.ty (.pointer (some ⟨g', 0, none⟩))) := (blk_cell (blk_below HI.out HBr.out) 0).trans rfl
      have IHr := Aside0.mk (IH.out g' f0 f1 r1)
      have HSr := Aside0.mk (SrcAt.below HBr.out HS.out)
      cases s with
      | img sb sl =>
        replace x0 : wr.cell? ⟨g, 0, none⟩ = some (.iface 55 (.pointer (some ⟨g', 0, none⟩))) := x0
        have m1 := img_read ⟨g', 0, none⟩
        have IH' : Aside0 (∀ w, SrcAt w g' (.img sb sl) → Calls Try.prog 67 #[.pointer (some ⟨g', 0, none⟩), .int .i64 f0, .int .i64 f1] w fun e w' => ∃ v0_ : Value, e = .returned (.tuple #[v0_, .int .i64 0]) ∧ Kd.R (Kd.int .u8) 5 w' w.heap.size (fun _ => True) v0_ r1 ∧ Below w.heap.size w w') := ⟨fun w hw => IHr.out w hw HR1.out⟩
        clear IHr
        go_upto_region 7 with (first | ((with_reducible refine gate_dst (N := 10) rfl ?_); refine box_event ?hg (N := 10) ?hd (cs := #[.int .i64 0, .int .i64 0]) (t := 53) ?hr ?_; (case hd => rfl); (case hg => rfl); (case hr => first | (go_simp; done) | (go_simp; rfl)); intro gb hg w7 hbox hb; have BK7 := Aside0.mk hbox; have GE7 := Aside0.mk (show wr.heap.size ≤ gb from by rw [hg]; exact Nat.le_refl _); have HS7 := Aside0.mk hb; clear hb hbox hg; have z0 : w7.cell? ⟨gb, 0, none⟩ = some (.int .i64 0) := (blk_cell BK7.out 0).trans rfl; have z1 : w7.cell? ⟨gb, 1, none⟩ = some (.int .i64 0) := (blk_cell BK7.out 1).trans rfl; have fz0 := blk_frozen BK7.out 0; have fz1 := blk_frozen BK7.out 1))
        have BK8 : ((w7.setCell ⟨gb, 0, none⟩ (.int .i64 f0)).setCell ⟨gb, 1, none⟩ (.int .i64 f1)).heap[gb]? = some (.cells #[.int .i64 f0, .int .i64 f1] 53 (0, 0)) := blk_put (cs := #[.int .i64 f0, .int .i64 0]) (blk_put (cs := #[.int .i64 0, .int .i64 0]) BK7.out 0 _ rfl) 1 _ rfl
        have HS8 : Below wr.heap.size wr ((w7.setCell ⟨gb, 0, none⟩ (.int .i64 f0)).setCell ⟨gb, 1, none⟩ (.int .i64 f1)) := below_set (below_set HS7.out GE7.out) GE7.out
        clear z0 z1 fz0 fz1 BK7 GE7 HS7 y0 y1
        generalize (w7.setCell ⟨gb, 0, none⟩ (.int .i64 f0)).setCell ⟨gb, 1, none⟩ (.int .i64 f1) = W8 at BK8 HS8 ⊢
        have y0 : W8.cell? ⟨gb, 0, none⟩ = some (.int .i64 f0) := (blk_cell BK8 0).trans rfl
        have y1 : W8.cell? ⟨gb, 1, none⟩ = some (.int .i64 f1) := (blk_cell BK8 1).trans rfl
        replace x0 : W8.cell? ⟨g, 0, none⟩ = some (.iface 55 (.pointer (some ⟨g', 0, none⟩)) : Value) := (HS8.cell (World.block_lt_of_cell? wr _ x0)).trans x0
        have HB8 := Aside0.mk (below_step HBr.out HS8)
        have HS8' := Aside0.mk HS8
        clear BK8 HS8
        go_region_with (go_at_call 67; refine (IH'.out _ (SrcAt.below (by repeat (first | (with_reducible first | exact HS8'.out | apply below_alloc | apply pw_below_drewN | apply below_drew1) | exact HS8'.out)) HSr.out)).mono ?_; rintro e w9 ⟨v9, rfl, hR, hb⟩; have HR9 := Aside0.mk hR; have HS9 := Aside0.mk (below_step (by repeat (first | (with_reducible first | exact HS8'.out | apply below_alloc | apply pw_below_drewN | apply below_drew1) | exact HS8'.out)) hb); clear hR hb; obtain ⟨A9, c9, e9⟩ := Kd.R_slice HR9.out; subst e9)
        all_goals
          have HO9 := Aside0.mk (Kd.R_below HO.out HS9.out)
          have HX9 := Aside0.mk (Kd.R_below HX3.out HS9.out)
          have HB9 := Aside0.mk (below_step HBr.out HS9.out)
          clear x0 y0 y1
          go_wp2_with (first | ((with_reducible refine gate_builtin (b := .append) (xs := #[.tmp 50, .tmp 51]) rfl ?_); at_builtin; refine Kd.R_append_rows (Kd.int .u8) (w0 := w) w.heap.size rfl (.tmp 50) (.tmp 51) 23 5 (.int .u8 0) 1 rfl Try.underlying23 info5 rfl (by decide) (by omega) u8 acc r1 _ _ _ (fun _ => True) (fun _ => False) rfl rfl HO9.out (Kd.R_reads' HR9.out).2.2 (fun _ _ h => h) (fun _ h => h.elim) (fun _ _ => trivial) HB9.out (below_size HB9.out) (by have := HCL.out; omega) ?_; intro v10 w10 ho hb hg hat; have HO10 := Aside0.mk ho; have HB10 := Aside0.mk hb; have HX10 := Aside0.mk (R_apart HX9.out hg hat); clear ho hb hg hat))
          go_roundw
          case rel => exact ⟨j + 1, acc ++ r1, by omega, by go_num, HO10, H', HX10, HB10⟩
          case measure => simp [intOf]; omega
      | pcs s2 l2 n2 =>
        replace x0 : wr.cell? ⟨g, 0, none⟩ = some (.iface 63 (.pointer (some ⟨g', 0, none⟩))) := x0
        have m1 := pcs_read ⟨g', 0, none⟩
        have IH' : Aside0 (∀ w, SrcAt w g' (.pcs s2 l2 n2) → Calls Try.prog 73 #[.pointer (some ⟨g', 0, none⟩), .int .i64 f0, .int .i64 f1] w fun e w' => ∃ v0_ : Value, e = .returned (.tuple #[v0_, .int .i64 0]) ∧ Kd.R (Kd.int .u8) 5 w' w.heap.size (fun _ => True) v0_ r1 ∧ Below w.heap.size w w') := ⟨fun w hw => IHr.out w hw HR1.out⟩
        clear IHr
        go_upto_region 7 with (first | ((with_reducible refine gate_dst (N := 10) rfl ?_); refine box_event ?hg (N := 10) ?hd (cs := #[.int .i64 0, .int .i64 0]) (t := 53) ?hr ?_; (case hd => rfl); (case hg => rfl); (case hr => first | (go_simp; done) | (go_simp; rfl)); intro gb hg w7 hbox hb; have BK7 := Aside0.mk hbox; have GE7 := Aside0.mk (show wr.heap.size ≤ gb from by rw [hg]; exact Nat.le_refl _); have HS7 := Aside0.mk hb; clear hb hbox hg; have z0 : w7.cell? ⟨gb, 0, none⟩ = some (.int .i64 0) := (blk_cell BK7.out 0).trans rfl; have z1 : w7.cell? ⟨gb, 1, none⟩ = some (.int .i64 0) := (blk_cell BK7.out 1).trans rfl; have fz0 := blk_frozen BK7.out 0; have fz1 := blk_frozen BK7.out 1))
        have BK8 : ((w7.setCell ⟨gb, 0, none⟩ (.int .i64 f0)).setCell ⟨gb, 1, none⟩ (.int .i64 f1)).heap[gb]? = some (.cells #[.int .i64 f0, .int .i64 f1] 53 (0, 0)) := blk_put (cs := #[.int .i64 f0, .int .i64 0]) (blk_put (cs := #[.int .i64 0, .int .i64 0]) BK7.out 0 _ rfl) 1 _ rfl
        have HS8 : Below wr.heap.size wr ((w7.setCell ⟨gb, 0, none⟩ (.int .i64 f0)).setCell ⟨gb, 1, none⟩ (.int .i64 f1)) := below_set (below_set HS7.out GE7.out) GE7.out
        clear z0 z1 fz0 fz1 BK7 GE7 HS7 y0 y1
        generalize (w7.setCell ⟨gb, 0, none⟩ (.int .i64 f0)).setCell ⟨gb, 1, none⟩ (.int .i64 f1) = W8 at BK8 HS8 ⊢
        have y0 : W8.cell? ⟨gb, 0, none⟩ = some (.int .i64 f0) := (blk_cell BK8 0).trans rfl
        have y1 : W8.cell? ⟨gb, 1, none⟩ = some (.int .i64 f1) := (blk_cell BK8 1).trans rfl
        replace x0 : W8.cell? ⟨g, 0, none⟩ = some (.iface 63 (.pointer (some ⟨g', 0, none⟩)) : Value) := (HS8.cell (World.block_lt_of_cell? wr _ x0)).trans x0
        have HB8 := Aside0.mk (below_step HBr.out HS8)
        have HS8' := Aside0.mk HS8
        clear BK8 HS8
        go_region_with (go_at_call 73; refine (IH'.out _ (SrcAt.below (by repeat (first | (with_reducible first | exact HS8'.out | apply below_alloc | apply pw_below_drewN | apply below_drew1) | exact HS8'.out)) HSr.out)).mono ?_; rintro e w9 ⟨v9, rfl, hR, hb⟩; have HR9 := Aside0.mk hR; have HS9 := Aside0.mk (below_step (by repeat (first | (with_reducible first | exact HS8'.out | apply below_alloc | apply pw_below_drewN | apply below_drew1) | exact HS8'.out)) hb); clear hR hb; obtain ⟨A9, c9, e9⟩ := Kd.R_slice HR9.out; subst e9)
        all_goals
          have HO9 := Aside0.mk (Kd.R_below HO.out HS9.out)
          have HX9 := Aside0.mk (Kd.R_below HX3.out HS9.out)
          have HB9 := Aside0.mk (below_step HBr.out HS9.out)
          clear x0 y0 y1
          go_wp2_with (first | ((with_reducible refine gate_builtin (b := .append) (xs := #[.tmp 50, .tmp 51]) rfl ?_); at_builtin; refine Kd.R_append_rows (Kd.int .u8) (w0 := w) w.heap.size rfl (.tmp 50) (.tmp 51) 23 5 (.int .u8 0) 1 rfl Try.underlying23 info5 rfl (by decide) (by omega) u8 acc r1 _ _ _ (fun _ => True) (fun _ => False) rfl rfl HO9.out (Kd.R_reads' HR9.out).2.2 (fun _ _ h => h) (fun _ h => h.elim) (fun _ _ => trivial) HB9.out (below_size HB9.out) (by have := HCL.out; omega) ?_; intro v10 w10 ho hb hg hat; have HO10 := Aside0.mk ho; have HB10 := Aside0.mk hb; have HX10 := Aside0.mk (R_apart HX9.out hg hat); clear ho hb hg hat))
          go_roundw
          case rel => exact ⟨j + 1, acc ++ r1, by omega, by go_num, HO10, H', HX10, HB10⟩
          case measure => simp [intOf]; omega
    · have h := H.out
      rw [List.drop_of_length_le (by omega)] at h
      unfold readL at h
      obtain rfl := Option.some.inj h
      clear h H
      go_wp2
      go_ret2
      exact ⟨_, rfl, HO.out, HBr.out⟩
theorem src_read (k : Nat) : ∀ s : Src, ReadsAs k s
  | .img b l => fun g off n r w hI h => by
    unfold Src.read at h
    obtain ⟨⟨x, y⟩, h1, h⟩ := Option.bind_eq_some_iff.mp h
    simp only at h
    split at h
    case isFalse => exact absurd h (by simp)
    case isTrue e =>
      obtain rfl := Option.some.inj h
      subst e
      exact source_image_Read.calls k g b l off n x 0 w hI h1
  | .pcs s l N => source_pieces_Read.calls k s l N (src_read k s)

/-! ### source_image_Road: function 68 -/
def source_image_Road.f (k : Nat) (b : List Int) (off n : Int) : Option (List S53) := if 0 ≤ off ∧ 0 ≤ n ∧ n ≤ (b.length : Int) ∧ off ≤ (b.length : Int) - n ∧ b.length ≤ 65536 then span_Glue.f k [⟨off, n⟩] else none
set_option maxHeartbeats 2000000 in
set_option maxRecDepth 100000 in
theorem source_image_Road.calls (k : Nat) (g : Nat) (b : List Int) (l : List S53) (off n : Int) (r : List S53) (w : World) (hI : IsImg w g b l) (h : source_image_Road.f k b off n = some r) :
    Calls Try.prog 68 #[.pointer (some ⟨g, 0, none⟩), .int .i64 off, .int .i64 n] w fun e w' => ∃ v0_ : Value, e = .returned v0_ ∧ Kd.R k53 53 w' w.heap.size (fun _ => True) v0_ r ∧ Below w.heap.size w w' := by
  unfold source_image_Road.f at h
  split at h
  case isFalse => exact absurd h (by simp)
  case isTrue hh =>
  obtain ⟨q1, q2, q3, q4, q5⟩ := hh
  obtain ⟨A, c, B, d, h1, _, h3, _, _⟩ := hI
  have H := Aside0.mk h
  have hwi : source_within.f off n (b.length : Int) = some true := by
    have e : wrap64 ((b.length : Int) - n) = (b.length : Int) - n := by unfold wrap64; omega
    unfold source_within.f
    rw [if_pos (by omega), if_pos (by omega), if_pos (by omega), e]
    simp; omega
  have HW := Aside0.mk hwi
  have x0 : w.cell? ⟨g, 0, none⟩ = some (.slice A b.length c) := (blk_cell h1 0).trans rfl
  clear h1 h3 h hwi
  go_enter Try.func68, Try.ntmps68
  go_upto_region 3 with (go_at_call 26; refine (source_within.calls off n _ true _ HW.out).mono ?_; rintro e w1 ⟨rfl, nd, rfl⟩)
  have HB1 : Aside0 (Below w.heap.size w (w.drewN nd)) := ⟨pw_below_drewN (Below.refl _ _) _⟩
  generalize w.drewN nd = W at HB1 ⊢
  clear x0
  go_wp2_with (go_at_call 71; refine (span_Glue.calls k (some ⟨W.heap.size, 0, none⟩) 1 [⟨off, n⟩] r _ (one53 W off n _) (Nat.le_refl 1) H.out).mono ?_; rintro e w2 ⟨v2, rfl, hR, hb⟩; have HR2 := Aside0.mk hR; have HB2 := Aside0.mk (below_step (below_alloc HB1.out _) hb); have HL := Aside0.mk (below_size (below_alloc HB1.out (.cells #[.int .i64 off, .int .i64 n] 53))); clear hR hb)
  go_ret
  exact ⟨_, rfl, Kd.R_lower HR2.out HL.out, HB2.out⟩

/-! ### source_pieces_Road: function 74 -/
/-- What is read of several places, one after the other. -/
def roadL (rd : Int → Int → Option (List S53)) : List S53 → List S53 → Option (List S53)
  | [], acc => some acc
  | x :: t, acc => (rd x.f0 x.f1).bind fun r => if acc.length + r.length ≤ 65536 then roadL rd t (acc ++ r) else none
def Src.road (k : Nat) : Src → Int → Int → Option (List S53)
  | .img b _, off, n => source_image_Road.f k b off n
  | .pcs s l N, off, n => if 0 ≤ off ∧ 0 ≤ n ∧ n ≤ N ∧ off ≤ N - n ∧ N ≤ 65536 then (span_Slice.f k l off n).bind fun xs => (roadL (Src.road k s) xs []).bind fun ys => span_Glue.f k ys else none
def RoadsAs (k : Nat) (s : Src) : Prop := ∀ (g : Nat) (off n : Int) (r : List S53) (w : World), SrcAt w g s → Src.road k s off n = some r →
  Calls Try.prog s.froad #[.pointer (some ⟨g, 0, none⟩), .int .i64 off, .int .i64 n] w fun e w' => ∃ v0_ : Value, e = .returned v0_ ∧ Kd.R k53 53 w' w.heap.size (fun _ => True) v0_ r ∧ Below w.heap.size w w'
set_option maxHeartbeats 4000000 in
set_option maxRecDepth 100000 in
theorem source_pieces_Road.calls (k : Nat) (s : Src) (l : List S53) (N : Int) (ih : RoadsAs k s) : RoadsAs k (.pcs s l N) := by
  intro g off n r w hI h
  show Calls Try.prog 74 _ _ _
  unfold Src.road at h
  split at h
  case isFalse => exact absurd h (by simp)
  case isTrue hh =>
  obtain ⟨q1, q2, q3, q4, q5⟩ := hh
  obtain ⟨xs, hx, h⟩ := Option.bind_eq_some_iff.mp h
  obtain ⟨ys, hy, h⟩ := Option.bind_eq_some_iff.mp h
  obtain ⟨g', B, d, h1, h2, h3, h4⟩ := hI
  have IH := Aside0.mk ih
  have HI := Aside0.mk h1
  have HB := Aside0.mk h2
  have HD := Aside0.mk h3
  have HS := Aside0.mk h4
  have HX := Aside0.mk hx
  have H := Aside0.mk hy
  have HG := Aside0.mk h
  have hwi : source_within.f off n N = some true := by
    have e : wrap64 (N - n) = N - n := by unfold wrap64; omega
    unfold source_within.f
    rw [if_pos (by omega), if_pos (by omega), if_pos (by omega), e]
    simp; omega
  have HW := Aside0.mk hwi
  have x0 : w.cell? ⟨g, 2, none⟩ = some (.int .i64 N) := (blk_cell h1 2).trans rfl
  clear h1 h2 h3 h4 hx hy h hwi ih
  go_enter Try.func74, Try.ntmps74
  go_upto_region 4 with (go_at_call 26; refine (source_within.calls off n N true _ HW.out).mono ?_; rintro e w1 ⟨rfl, nd, rfl⟩)
  have HB1 : Aside0 (Below w.heap.size w (w.drewN nd)) := ⟨pw_below_drewN (Below.refl _ _) _⟩
  generalize w.drewN nd = W1 at HB1 ⊢
  clear x0
  have x1 : W1.cell? ⟨g, 1, none⟩ = some (.slice B l.length d) := (blk_cell (blk_below HI.out HB1.out) 1).trans rfl
  go_wp2_with (go_at_call 76; refine (span_Slice.calls k B d l off n xs _ (Kd.C_below HB.out HB1.out) HD.out HX.out).mono ?_; rintro e w3 ⟨v3, rfl, hR, hb⟩; have HR3 := Aside0.mk hR; have HS3 := Aside0.mk hb; clear hR hb; obtain ⟨Bx, cx, ex⟩ := Kd.R_slice HR3.out; subst ex)
  have HB3 := Aside0.mk (below_step HB1.out HS3.out)
  have HX3 := Aside0.mk (Kd.R_mono (ok' := fun k => some k ≠ (Value.slice none 0 0).ownBlock) (Kd.R_lower HR3.out (below_size HB1.out)) (fun k hk => by simp [Value.ownBlock]))
  have HO3 : Aside0 (Kd.R k53 53 w3 w.heap.size (fun _ => True) (.slice none 0 0) []) := ⟨Kd.R_nil _ _ _ _ _⟩
  have hmax := (Kd.R_reads' HR3.out).2.2.2.1
  unfold maxLen at hmax
  clear HR3 HS3 HB1 x1
  go_loopw [26, 7] (fun i v7 wr => ∃ (j : Nat) (acc : List S53), j ≤ xs.length ∧ i = .int .i64 j ∧ Aside0 (Kd.R k53 53 wr w.heap.size (fun _ => True) v7 acc) ∧ Aside0 (roadL (Src.road k s) (xs.drop j) acc = some ys) ∧ Aside0 (Kd.R k53 53 wr w.heap.size (fun k => some k ≠ v7.ownBlock) (.slice Bx xs.length cx) xs) ∧ Aside0 (Below w.heap.size w wr)) (fun i _ _ => xs.length - (intOf i).toNat)
  case atStart => exact ⟨0, [], Nat.zero_le _, rfl, HO3, H, HX3, HB3⟩
  case round =>
    clear HO3 H HX3 HB3
    obtain ⟨j, acc, hj, rfl, HO, H, HX3, HBr⟩ := hrel
    by_cases hlt : j < xs.length
    · obtain ⟨x, hxe⟩ : ∃ x, x = xs[j] := ⟨_, rfl⟩
      obtain ⟨ad, e1, y0, y1⟩ := at_T53 (Kd.R_reads' HX3.out).2.2 (j : Int) (by omega) (by omega)
      have hrd : rd_T53 xs (j : Int) = x := by
        unfold rd_T53
        rw [Int.toNat_natCast, List.getD_eq_getElem?_getD, List.getElem?_eq_getElem hlt, hxe]
        rfl
      rw [hrd, Int.toNat_natCast] at y0 y1
      have h := H.out
      rw [List.drop_eq_getElem_cons hlt, ← hxe] at h
      unfold roadL at h
      obtain ⟨r1, hr1, h⟩ := Option.bind_eq_some_iff.mp h
      split at h
      case isFalse => exact absurd h (by simp)
      case isTrue hc =>
      have H' := Aside0.mk h
      have HR1 := Aside0.mk hr1
      have HCL := Aside0.mk hc
      clear h H hr1 hc hxe hrd
      obtain ⟨Ax, ea⟩ : ∃ A, A = Bx := ⟨_, rfl⟩
      cases e1
      generalize x.f0 = f0 at *
      generalize x.f1 = f1 at *
      have x0 : wr.cell? ⟨g, 0, none⟩ = some (.iface s.ty (.pointer (some ⟨g', 0, none⟩))) := (blk_cell (blk_below HI.out HBr.out) 0).trans rfl
      have IHr := Aside0.mk (IH.out g' f0 f1 r1)
      have HSr := Aside0.mk (SrcAt.below HBr.out HS.out)
      cases s with
      | img sb sl =>
        replace x0 : wr.cell? ⟨g, 0, none⟩ = some (.iface 55 (.pointer (some ⟨g', 0, none⟩))) := x0
        have m1 := img_road ⟨g', 0, none⟩
        have IH' : Aside0 (∀ w, SrcAt w g' (.img sb sl) → Calls Try.prog 68 #[.pointer (some ⟨g', 0, none⟩), .int .i64 f0, .int .i64 f1] w fun e w' => ∃ v0_ : Value, e = .returned v0_ ∧ Kd.R k53 53 w' w.heap.size (fun _ => True) v0_ r1 ∧ Below w.heap.size w w') := ⟨fun w hw => IHr.out w hw HR1.out⟩
        clear IHr
        go_upto_region 7 with (first | ((with_reducible refine gate_dst (N := 9) rfl ?_); refine box_event ?hg (N := 9) ?hd (cs := #[.int .i64 0, .int .i64 0]) (t := 53) ?hr ?_; (case hd => rfl); (case hg => rfl); (case hr => first | (go_simp; done) | (go_simp; rfl)); intro gb hg w7 hbox hb; have BK7 := Aside0.mk hbox; have GE7 := Aside0.mk (show wr.heap.size ≤ gb from by rw [hg]; exact Nat.le_refl _); have HS7 := Aside0.mk hb; clear hb hbox hg; have z0 : w7.cell? ⟨gb, 0, none⟩ = some (.int .i64 0) := (blk_cell BK7.out 0).trans rfl; have z1 : w7.cell? ⟨gb, 1, none⟩ = some (.int .i64 0) := (blk_cell BK7.out 1).trans rfl; have fz0 := blk_frozen BK7.out 0; have fz1 := blk_frozen BK7.out 1))
        have BK8 : ((w7.setCell ⟨gb, 0, none⟩ (.int .i64 f0)).setCell ⟨gb, 1, none⟩ (.int .i64 f1)).heap[gb]? = some (.cells #[.int .i64 f0, .int .i64 f1] 53 (0, 0)) := blk_put (cs := #[.int .i64 f0, .int .i64 0]) (blk_put (cs := #[.int .i64 0, .int .i64 0]) BK7.out 0 _ rfl) 1 _ rfl
        have HS8 : Below wr.heap.size wr ((w7.setCell ⟨gb, 0, none⟩ (.int .i64 f0)).setCell ⟨gb, 1, none⟩ (.int .i64 f1)) := below_set (below_set HS7.out GE7.out) GE7.out
        clear z0 z1 fz0 fz1 BK7 GE7 HS7 y0 y1
        generalize (w7.setCell ⟨gb, 0, none⟩ (.int .i64 f0)).setCell ⟨gb, 1, none⟩ (.int .i64 f1) = W8 at BK8 HS8 ⊢
        have y0 : W8.cell? ⟨gb, 0, none⟩ = some (.int .i64 f0) := (blk_cell BK8 0).trans rfl
        have y1 : W8.cell? ⟨gb, 1, none⟩ = some (.int .i64 f1) := (blk_cell BK8 1).trans rfl
        replace x0 : W8.cell? ⟨g, 0, none⟩ = some (.iface 55 (.pointer (some ⟨g', 0, none⟩)) : Value) := (HS8.cell (World.block_lt_of_cell? wr _ x0)).trans x0
        have HB8 := Aside0.mk (below_step HBr.out HS8)
        have HS8' := Aside0.mk HS8
        clear BK8 HS8
        go_region_law (first | (go_simp; go_at_call 68; refine (IH'.out _ (SrcAt.below (by repeat (first | (with_reducible first | exact HS8'.out | apply below_alloc | apply pw_below_drewN | apply below_drew1) | exact HS8'.out)) HSr.out)).mono ?_; rintro e w9 ⟨v9, rfl, hR, hb⟩; have HR9 := Aside0.mk hR; have HS9 := Aside0.mk (below_step (by repeat (first | (with_reducible first | exact HS8'.out | apply below_alloc | apply pw_below_drewN | apply below_drew1) | exact HS8'.out)) hb); have HO9 := Aside0.mk (Kd.R_below HO.out HS9.out); have HX9 := Aside0.mk (Kd.R_below HX3.out HS9.out); have HB9 := Aside0.mk (below_step HBr.out HS9.out); clear hR hb; obtain ⟨A9, c9, e9⟩ := Kd.R_slice HR9.out; subst e9) | (refine Kd.R_append_rows_step k53 (w0 := w) w.heap.size rfl (.tmp 30) (.tmp 39) 25 53 (.agg #[(.int .i64 0), (.int .i64 0)]) 16 rfl Try.underlying25 info53 rfl (by decide) (by omega) u7 acc r1 _ _ _ (fun _ => True) (fun _ => False) rfl rfl HO9.out (Kd.R_reads' HR9.out).2.2 (fun _ _ h => h) (fun _ h => h.elim) (fun _ _ => trivial) HB9.out (below_size HB9.out) (by have := HCL.out; omega) ?_; intro v10 w10 ho hb hg hat; have HO10 := Aside0.mk ho; have HB10 := Aside0.mk hb; have HX10 := Aside0.mk (R_apart HX9.out hg hat); clear ho hb hg hat))
        all_goals
          clear x0 y0 y1
          go_wp2
          go_roundw
          case rel => exact ⟨j + 1, acc ++ r1, by omega, by go_num, HO10, H', HX10, HB10⟩
          case measure => simp [intOf]; omega
      | pcs s2 l2 n2 =>
        replace x0 : wr.cell? ⟨g, 0, none⟩ = some (.iface 63 (.pointer (some ⟨g', 0, none⟩))) := x0
        have m1 := pcs_road ⟨g', 0, none⟩
        have IH' : Aside0 (∀ w, SrcAt w g' (.pcs s2 l2 n2) → Calls Try.prog 74 #[.pointer (some ⟨g', 0, none⟩), .int .i64 f0, .int .i64 f1] w fun e w' => ∃ v0_ : Value, e = .returned v0_ ∧ Kd.R k53 53 w' w.heap.size (fun _ => True) v0_ r1 ∧ Below w.heap.size w w') := ⟨fun w hw => IHr.out w hw HR1.out⟩
        clear IHr
        go_upto_region 7 with (first | ((with_reducible refine gate_dst (N := 9) rfl ?_); refine box_event ?hg (N := 9) ?hd (cs := #[.int .i64 0, .int .i64 0]) (t := 53) ?hr ?_; (case hd => rfl); (case hg => rfl); (case hr => first | (go_simp; done) | (go_simp; rfl)); intro gb hg w7 hbox hb; have BK7 := Aside0.mk hbox; have GE7 := Aside0.mk (show wr.heap.size ≤ gb from by rw [hg]; exact Nat.le_refl _); have HS7 := Aside0.mk hb; clear hb hbox hg; have z0 : w7.cell? ⟨gb, 0, none⟩ = some (.int .i64 0) := (blk_cell BK7.out 0).trans rfl; have z1 : w7.cell? ⟨gb, 1, none⟩ = some (.int .i64 0) := (blk_cell BK7.out 1).trans rfl; have fz0 := blk_frozen BK7.out 0; have fz1 := blk_frozen BK7.out 1))
        have BK8 : ((w7.setCell ⟨gb, 0, none⟩ (.int .i64 f0)).setCell ⟨gb, 1, none⟩ (.int .i64 f1)).heap[gb]? = some (.cells #[.int .i64 f0, .int .i64 f1] 53 (0, 0)) := blk_put (cs := #[.int .i64 f0, .int .i64 0]) (blk_put (cs := #[.int .i64 0, .int .i64 0]) BK7.out 0 _ rfl) 1 _ rfl
        have HS8 : Below wr.heap.size wr ((w7.setCell ⟨gb, 0, none⟩ (.int .i64 f0)).setCell ⟨gb, 1, none⟩ (.int .i64 f1)) := below_set (below_set HS7.out GE7.out) GE7.out
        clear z0 z1 fz0 fz1 BK7 GE7 HS7 y0 y1
        generalize (w7.setCell ⟨gb, 0, none⟩ (.int .i64 f0)).setCell ⟨gb, 1, none⟩ (.int .i64 f1) = W8 at BK8 HS8 ⊢
        have y0 : W8.cell? ⟨gb, 0, none⟩ = some (.int .i64 f0) := (blk_cell BK8 0).trans rfl
        have y1 : W8.cell? ⟨gb, 1, none⟩ = some (.int .i64 f1) := (blk_cell BK8 1).trans rfl
        replace x0 : W8.cell? ⟨g, 0, none⟩ = some (.iface 63 (.pointer (some ⟨g', 0, none⟩)) : Value) := (HS8.cell (World.block_lt_of_cell? wr _ x0)).trans x0
        have HB8 := Aside0.mk (below_step HBr.out HS8)
        have HS8' := Aside0.mk HS8
        clear BK8 HS8
        go_region_law (first | (go_simp; go_at_call 74; refine (IH'.out _ (SrcAt.below (by repeat (first | (with_reducible first | exact HS8'.out | apply below_alloc | apply pw_below_drewN | apply below_drew1) | exact HS8'.out)) HSr.out)).mono ?_; rintro e w9 ⟨v9, rfl, hR, hb⟩; have HR9 := Aside0.mk hR; have HS9 := Aside0.mk (below_step (by repeat (first | (with_reducible first | exact HS8'.out | apply below_alloc | apply pw_below_drewN | apply below_drew1) | exact HS8'.out)) hb); have HO9 := Aside0.mk (Kd.R_below HO.out HS9.out); have HX9 := Aside0.mk (Kd.R_below HX3.out HS9.out); have HB9 := Aside0.mk (below_step HBr.out HS9.out); clear hR hb; obtain ⟨A9, c9, e9⟩ := Kd.R_slice HR9.out; subst e9) | (refine Kd.R_append_rows_step k53 (w0 := w) w.heap.size rfl (.tmp 30) (.tmp 39) 25 53 (.agg #[(.int .i64 0), (.int .i64 0)]) 16 rfl Try.underlying25 info53 rfl (by decide) (by omega) u7 acc r1 _ _ _ (fun _ => True) (fun _ => False) rfl rfl HO9.out (Kd.R_reads' HR9.out).2.2 (fun _ _ h => h) (fun _ h => h.elim) (fun _ _ => trivial) HB9.out (below_size HB9.out) (by have := HCL.out; omega) ?_; intro v10 w10 ho hb hg hat; have HO10 := Aside0.mk ho; have HB10 := Aside0.mk hb; have HX10 := Aside0.mk (R_apart HX9.out hg hat); clear ho hb hg hat))
        all_goals
          clear x0 y0 y1
          go_wp2
          go_roundw
          case rel => exact ⟨j + 1, acc ++ r1, by omega, by go_num, HO10, H', HX10, HB10⟩
          case measure => simp [intOf]; omega
    · have h := H.out
      rw [List.drop_of_length_le (by omega)] at h
      unfold roadL at h
      obtain rfl := Option.some.inj h
      clear h H
      obtain ⟨Ay, cy, ey⟩ := Kd.R_slice HO.out
      subst ey
      go_wp2_with (go_at_call 71; refine (span_Glue.calls k Ay cy acc r _ (Kd.R_reads' HO.out).2.2 (Kd.R_reads' HO.out).2.1 HG.out).mono ?_; rintro e w2 ⟨v2, rfl, hR, hb⟩; have HR2 := Aside0.mk hR; have HB2 := Aside0.mk (below_step HBr.out hb); clear hR hb)
      go_ret
      exact ⟨_, rfl, Kd.R_lower HR2.out (below_size HBr.out), HB2.out⟩
theorem src_road (k : Nat) : ∀ s : Src, RoadsAs k s
  | .img b l => fun g off n r w hI h => source_image_Road.calls k g b l off n r w hI h
  | .pcs s l N => source_pieces_Road.calls k s l N (src_road k s)

/-! ### wrackkeep1_SourceRoads: function 5 -/
theorem pieces_eq {s r : Src} {l : List S53} (h : source_Pieces.f s l = some r) : r = .pcs s l (lenS l) := by
  unfold source_Pieces.f at h
  split at h
  case isFalse => exact absurd h (by simp)
  case isTrue hh => exact (Option.some.inj h).symm
set_option maxHeartbeats 2000000 in
set_option maxRecDepth 100000 in
theorem all_pcs (k : Nat) (g : Nat) (s : Src) (l : List S53) (n : Int) (r : List Int) (w : World) (hI : SrcAt w g (.pcs s l n)) (h : Src.read k (.pcs s l n) 0 n = some r) :
    Calls Try.prog 15 #[.iface 63 (.pointer (some ⟨g, 0, none⟩))] w fun e w' => ∃ v0_ : Value, e = .returned (.tuple #[v0_, .int .i64 0]) ∧ Kd.R (Kd.int .u8) 5 w' w.heap.size (fun _ => True) v0_ r ∧ Below w.heap.size w w' := by
  have HI := Aside0.mk hI
  have H := Aside0.mk h
  have SR : Aside0 (∀ W : World, SrcAt W g (.pcs s l n) → Calls Try.prog 73 #[.pointer (some ⟨g, 0, none⟩), .int .i64 0, .int .i64 n] W fun e w' => ∃ v0_ : Value, e = .returned (.tuple #[v0_, .int .i64 0]) ∧ Kd.R (Kd.int .u8) 5 w' W.heap.size (fun _ => True) v0_ r ∧ Below W.heap.size W w') := ⟨fun W hW => src_read k (.pcs s l n) g 0 n r W hW h⟩
  have SS : Aside0 (∀ W : World, SrcAt W g (.pcs s l n) → Calls Try.prog 75 #[.pointer (some ⟨g, 0, none⟩)] W fun e w' => e = .returned (.int .i64 n) ∧ W = w') := ⟨fun W hW => src_size (.pcs s l n) g W hW⟩
  clear hI h
  have m1 := pcs_size ⟨g, 0, none⟩
  have m2 := pcs_read ⟨g, 0, none⟩
  have m3 := pcs_nread ⟨g, 0, none⟩
  go_enter Try.func15, Try.ntmps15
  go_wp2
  go_region_with (first | (go_at_call 75; refine (SS.out _ (SrcAt.below (by repeat (first | (with_reducible first | exact Below.refl _ _ | apply below_alloc | apply pw_below_drewN | apply below_drew1) | exact Below.refl _ _)) HI.out)).mono ?_; rintro e w1 ⟨rfl, rfl⟩) | (go_at_call 73; refine (SR.out _ (SrcAt.below (by repeat (first | (with_reducible first | exact Below.refl _ _ | apply below_alloc | apply pw_below_drewN | apply below_drew1) | exact Below.refl _ _)) HI.out)).mono ?_; rintro e w1 ⟨v, rfl, hR, hb⟩; have HR := Aside0.mk hR; have HB := Aside0.mk (below_step (by repeat (first | (with_reducible first | exact Below.refl _ _ | apply below_alloc | apply pw_below_drewN | apply below_drew1) | exact Below.refl _ _)) hb : Below w.heap.size w w1); clear hR hb))
  all_goals
    go_wp2
    go_ret2
    exact ⟨v, rfl, Kd.R_lower HR.out (by simp), HB.out⟩
set_option maxHeartbeats 4000000 in
set_option maxRecDepth 100000 in
theorem wrackkeep1_SourceRoads.lawx (k : Nat) (A0 : Option Addr) (c0 : Nat) (l0 : List Int) (A1 : Option Addr) (c1 : Nat) (l1 : List Int) (A2 : Option Addr) (c2 : Nat) (l2 : List Int) (a3 a4 : Int) (w : World) (hr0 : Kd.C (Kd.int .i64) w A0 l0.length l0) (hc0 : l0.length ≤ c0) (hr1 : Kd.C (Kd.int .i64) w A1 l1.length l1) (hc1 : l1.length ≤ c1) (hr2 : Kd.C (Kd.int .i64) w A2 l2.length l2) (hc2 : l2.length ≤ c2)
    (b : List Int) (h1 : wrackmake_Image.f k l0 = some b) (r0 : List S53) (h2 : source_Of.f k b = some r0) (h3 : wrackkeep1_sources.f k = some true) (h4 : wrackkeep1_spans.f k = some true)
    (x1 : List S53) (h5 : wrackmake_Spans.f k l1 (b.length : Int) 6 = some x1) (n1 : Int) (h6 : source_Pieces.f (.img b r0) x1 = some (.pcs (.img b r0) x1 n1))
    (x2 : List S53) (h7 : wrackmake_Spans.f k l2 n1 6 = some x2) (n2 : Int) (h8 : source_Pieces.f (.pcs (.img b r0) x1 n1) x2 = some (.pcs (.pcs (.img b r0) x1 n1) x2 n2)) (g1 : 0 ≤ n2) (g2 : n2 ≤ 65536)
    (off : Int) (h9 : wrackmake_Below.f a3 (n2 + 1) = some off) (g3 : 0 ≤ off) (g4 : off ≤ n2) (n : Int) (h10 : wrackmake_Below.f a4 (n2 - off + 1) = some n)
    (x : List Int) (h11 : Src.read k (.pcs (.pcs (.img b r0) x1 n1) x2 n2) off n = some x) (ro : List S53) (h12 : Src.road k (.pcs (.pcs (.img b r0) x1 n1) x2 n2) off n = some ro)
    (n3 : Int) (h13 : source_Pieces.f (.img b r0) ro = some (.pcs (.img b r0) ro n3)) (y : List Int) (h14 : Src.read k (.pcs (.img b r0) ro n3) 0 n3 = some y) (h15 : slices_Equal_byte_byte.f k x y = some true) (h16 : (x.length : Int) = n) :
    Calls Try.prog 5 #[.slice A0 l0.length c0, .slice A1 l1.length c1, .slice A2 l2.length c2, .int .i64 a3, .int .i64 a4] w fun e w' => e = .returned (.bool true) ∧ Below w.heap.size w w' := by
  have HR0 := Aside0.mk hr0
  have HR1 := Aside0.mk hr1
  have HR2 := Aside0.mk hr2
  have HC0 := Aside0.mk hc0
  have HC1 := Aside0.mk hc1
  have HC2 := Aside0.mk hc2
  have H1 := Aside0.mk h1
  have H2 := Aside0.mk h2
  have H3 := Aside0.mk h3
  have H4 := Aside0.mk h4
  have H5 := Aside0.mk h5
  have H6 := Aside0.mk h6
  have H7 := Aside0.mk h7
  have H8 := Aside0.mk h8
  have H9 := Aside0.mk h9
  have H10 := Aside0.mk h10
  have H11 := Aside0.mk h11
  have H12 := Aside0.mk h12
  have H13 := Aside0.mk h13
  have H14 := Aside0.mk h14
  have H15 := Aside0.mk h15
  have H16 := Aside0.mk h16
  clear hr0 hr1 hr2 hc0 hc1 hc2 h1 h2 h3 h4 h5 h6 h7 h8 h9 h10 h11 h12 h13 h14 h15 h16
  go_enter Try.func5, Try.ntmps5
  go_upto_region 2 with (go_at_call 6; refine (wrackmake_Image.calls k A0 c0 l0 b _ HR0.out HC0.out H1.out).mono ?_; rintro e w1 ⟨v1, rfl, hR, hb⟩; have HRb := Aside0.mk hR; have HB1 := Aside0.mk hb; clear hR hb; obtain ⟨Ab, cb, eb⟩ := Kd.R_slice HRb.out; subst eb)
  go_upto_region 3 with (go_at_call 13; refine (source_Of.calls k Ab cb b r0 _ (Kd.R_reads' HRb.out).2.2 (Kd.R_reads' HRb.out).2.1 H2.out).mono ?_; rintro e w2 ⟨g, rfl, hI, hb⟩; have HI : Aside0 (SrcAt w2 g (.img b r0)) := ⟨hI.img⟩; have HB2 := Aside0.mk (below_step HB1.out hb); clear hI hb)
  clear HB1 HRb
  go_upto_region 5 with (first | (go_at_call 9; refine (wrackkeep1_sources.calls k true _ H3.out).mono ?_; rintro e w4 ⟨rfl, hb⟩; have HS4 := Aside0.mk hb; have HB4 := Aside0.mk (below_step HB2.out hb); clear hb) | (go_at_call 10; refine (wrackkeep1_spans.calls k true _ H4.out).mono ?_; rintro e w5 ⟨rfl, hb⟩; have HS5 := Aside0.mk (below_step HS4.out hb); have HB5 := Aside0.mk (below_step HB4.out hb); clear hb))
  have HI5 := Aside0.mk (SrcAt.below HS5.out HI.out)
  clear HI HB2 HS4 HS5 HB4
  go_upto_region 6 with (first | (go_at_call 7; refine (wrackmake_Spans.calls k A1 c1 l1 (b.length : Int) 6 x1 _ (Kd.C_below HR1.out HB5.out) HC1.out H5.out).mono ?_; rintro e w6 ⟨v6, rfl, hR, hb⟩; have HX1 := Aside0.mk hR; have HB6 := Aside0.mk (below_step HB5.out hb); have HI6 := Aside0.mk (SrcAt.below hb HI5.out); clear hR hb; obtain ⟨Ax, cx, ex⟩ := Kd.R_slice HX1.out; subst ex) | (go_at_call 17; refine (source_Pieces.calls (.img b r0) g Ax cx x1 _ _ HI6.out (Kd.R_reads' HX1.out).2.2 (Kd.R_reads' HX1.out).2.1 H6.out).mono ?_; rintro e w7 ⟨gp, rfl, hI, hb⟩; have HP7 := Aside0.mk hI; have HI7 := Aside0.mk (SrcAt.below hb HI6.out); have HB7 := Aside0.mk (below_step HB6.out hb); clear hI hb))
  clear HI5 HB5 HX1 HI6 HB6
  go_upto_region 8 with (fail)
  have mp1 := pcs_size ⟨gp, 0, none⟩
  have SP : Aside0 (∀ W : World, SrcAt W gp (.pcs (.img b r0) x1 n1) → Calls Try.prog 75 #[.pointer (some ⟨gp, 0, none⟩)] W fun e w' => e = .returned (.int .i64 n1) ∧ W = w') := ⟨fun W hW => src_size (.pcs (.img b r0) x1 n1) gp W hW⟩
  go_upto_region 9 with (first | (go_at_call 75; refine (SP.out _ HP7.out).mono ?_; rintro e w7' ⟨rfl, rfl⟩) | (go_at_call 7; refine (wrackmake_Spans.calls k A2 c2 l2 n1 6 x2 _ (Kd.C_below HR2.out HB7.out) HC2.out H7.out).mono ?_; rintro e w8 ⟨v8, rfl, hR, hb⟩; have HX2 := Aside0.mk hR; have HB8 := Aside0.mk (below_step HB7.out hb); have HI8 := Aside0.mk (SrcAt.below hb HI7.out); have HP8 := Aside0.mk (SrcAt.below hb HP7.out); clear hR hb; obtain ⟨Ay, cy, ey⟩ := Kd.R_slice HX2.out; subst ey) | (go_at_call 17; refine (source_Pieces.calls (.pcs (.img b r0) x1 n1) gp Ay cy x2 _ _ HP8.out (Kd.R_reads' HX2.out).2.2 (Kd.R_reads' HX2.out).2.1 H8.out).mono ?_; rintro e w9 ⟨gq, rfl, hI, hb⟩; have HQ9 := Aside0.mk hI; have HI9 := Aside0.mk (SrcAt.below hb HI8.out); have HB9 := Aside0.mk (below_step HB8.out hb); clear hI hb))
  clear HI7 HB7 HX2 HI8 HB8 HP7 HP8 SP mp1
  go_upto_region 11 with (fail)
  have mq1 := pcs_size ⟨gq, 0, none⟩
  have mq2 := pcs_read ⟨gq, 0, none⟩
  have mq3 := pcs_road ⟨gq, 0, none⟩
  have mq4 := pcs_plain ⟨gq, 0, none⟩
  have SQ : Aside0 (∀ W : World, SrcAt W gq (.pcs (.pcs (.img b r0) x1 n1) x2 n2) → Calls Try.prog 75 #[.pointer (some ⟨gq, 0, none⟩)] W fun e w' => e = .returned (.int .i64 n2) ∧ W = w') := ⟨fun W hW => src_size (.pcs (.pcs (.img b r0) x1 n1) x2 n2) gq W hW⟩
  have RQ : Aside0 (∀ W : World, SrcAt W gq (.pcs (.pcs (.img b r0) x1 n1) x2 n2) → Calls Try.prog 73 #[.pointer (some ⟨gq, 0, none⟩), .int .i64 off, .int .i64 n] W fun e w' => ∃ v0_ : Value, e = .returned (.tuple #[v0_, .int .i64 0]) ∧ Kd.R (Kd.int .u8) 5 w' W.heap.size (fun _ => True) v0_ x ∧ Below W.heap.size W w') := ⟨fun W hW => src_read k (.pcs (.pcs (.img b r0) x1 n1) x2 n2) gq off n x W hW H11.out⟩
  have OQ : Aside0 (∀ W : World, SrcAt W gq (.pcs (.pcs (.img b r0) x1 n1) x2 n2) → Calls Try.prog 74 #[.pointer (some ⟨gq, 0, none⟩), .int .i64 off, .int .i64 n] W fun e w' => ∃ v0_ : Value, e = .returned v0_ ∧ Kd.R k53 53 w' W.heap.size (fun _ => True) v0_ ro ∧ Below W.heap.size W w') := ⟨fun W hW => src_road k (.pcs (.pcs (.img b r0) x1 n1) x2 n2) gq off n ro W hW H12.out⟩
  have PQ : Aside0 (∀ W : World, SrcAt W gq (.pcs (.pcs (.img b r0) x1 n1) x2 n2) → Calls Try.prog 72 #[.pointer (some ⟨gq, 0, none⟩)] W fun e w' => e = .returned (.bool true) ∧ W = w') := ⟨fun W hW => src_plain (.pcs (.pcs (.img b r0) x1 n1) x2 n2) gq W hW⟩
  go_upto_region 12 with (first | (go_at_call 75; refine (SQ.out _ HQ9.out).mono ?_; rintro e w10 ⟨rfl, rfl⟩) | (go_at_call 11; refine (wrackmake_Below.calls a3 (n2 + 1) off _ H9.out).mono ?_; rintro e w11 ⟨rfl, nd, rfl⟩; have HQ11 := Aside0.mk (SrcAt.below (pw_below_drewN (Below.refl _ _) nd) HQ9.out); have HI11 := Aside0.mk (SrcAt.below (pw_below_drewN (Below.refl _ _) nd) HI9.out); have HB11 := Aside0.mk (pw_below_drewN HB9.out nd)))
  clear HQ9 HI9 HB9
  generalize w9.drewN nd = W11 at HQ11 HI11 HB11 ⊢
  go_upto_region 13 with (first | (go_at_call 75; refine (SQ.out _ HQ11.out).mono ?_; rintro e w10 ⟨rfl, rfl⟩) | (go_at_call 11; refine (wrackmake_Below.calls a4 (n2 - off + 1) n _ H10.out).mono ?_; rintro e w12 ⟨rfl, ne, rfl⟩; have HQ12 := Aside0.mk (SrcAt.below (pw_below_drewN (Below.refl _ _) ne) HQ11.out); have HI12 := Aside0.mk (SrcAt.below (pw_below_drewN (Below.refl _ _) ne) HI11.out); have HB12 := Aside0.mk (pw_below_drewN HB11.out ne)))
  clear HQ11 HI11 HB11
  generalize W11.drewN ne = W12 at HQ12 HI12 HB12 ⊢
  go_upto_region 14 with (go_at_call 73; refine (RQ.out _ HQ12.out).mono ?_; rintro e w13 ⟨v13, rfl, hR, hb⟩; have HX13 := Aside0.mk hR; have HS13 := Aside0.mk hb; have HB13 := Aside0.mk (below_step HB12.out hb); have HQ13 := Aside0.mk (SrcAt.below hb HQ12.out); have HI13 := Aside0.mk (SrcAt.below hb HI12.out); clear hR hb; obtain ⟨Av, cv, ev⟩ := Kd.R_slice HX13.out; subst ev)
  clear HQ12 HI12 HB12
  go_upto_region 15 with (first | (go_at_call 74; refine (OQ.out _ HQ13.out).mono ?_; rintro e w14 ⟨v14, rfl, hR, hb⟩; have HO14 := Aside0.mk hR; have HB14 := Aside0.mk (below_step HB13.out hb); have HQ14 := Aside0.mk (SrcAt.below hb HQ13.out); have HI14 := Aside0.mk (SrcAt.below hb HI13.out); have HX14 := Aside0.mk (Kd.R_below HX13.out hb); clear hR hb; obtain ⟨Ao, co, eo⟩ := Kd.R_slice HO14.out; subst eo) | (go_at_call 17; refine (source_Pieces.calls (.img b r0) g Ao co ro _ _ HI14.out (Kd.R_reads' HO14.out).2.2 (Kd.R_reads' HO14.out).2.1 H13.out).mono ?_; rintro e w15 ⟨gr, rfl, hI, hb⟩; have HZ15 := Aside0.mk hI; have HQ15 := Aside0.mk (SrcAt.below hb HQ14.out); have HX15 := Aside0.mk (Kd.R_below HX14.out hb); have HB15 := Aside0.mk (below_step HB14.out hb); clear hI hb))
  clear HX13 HS13 HB13 HQ13 HI13 HO14 HB14 HQ14 HI14 HX14
  go_upto_region 17 with (fail)
  go_upto_region 18 with (go_at_call 15; refine (all_pcs k gr (.img b r0) ro n3 y _ HZ15.out H14.out).mono ?_; rintro e w16 ⟨v16, rfl, hR, hb⟩; have HY16 := Aside0.mk hR; have HB16 := Aside0.mk (below_step HB15.out hb); have HQ16 := Aside0.mk (SrcAt.below hb HQ15.out); have HX16 := Aside0.mk (Kd.R_below HX15.out hb); clear hR hb; obtain ⟨Aw, cw, ew⟩ := Kd.R_slice HY16.out; subst ew)
  have t1 : ((x.length : Int) == n) = true := by rw [H16.out]; exact beq_self_eq_true _
  go_wp2_with (first | (go_at_call 16; refine (slices_Equal_byte_byte.calls k Av cv x Aw cw y true _ (Kd.R_reads' HX16.out).2.2 (Kd.R_reads' HX16.out).2.1 (Kd.R_reads' HY16.out).2.2 (Kd.R_reads' HY16.out).2.1 H15.out).mono ?_; rintro e w17 ⟨rfl, nf, rfl⟩; have HQ17 := Aside0.mk (SrcAt.below (pw_below_drewN (Below.refl _ _) nf) HQ16.out); have HB17 := Aside0.mk (pw_below_drewN HB16.out nf)) | (go_at_call 72; refine (PQ.out _ HQ17.out).mono ?_; rintro e w18 ⟨rfl, rfl⟩))
  go_ret
  exact ⟨by first | rfl | simp, HB17.out⟩
def wrackkeep1_SourceRoads.f (k : Nat) (l0 l1 l2 : List Int) (a3 a4 : Int) : Option Bool :=
  (wrackmake_Image.f k l0).bind fun b => (source_Of.f k b).bind fun r0 => (wrackkeep1_sources.f k).bind fun s1 => (wrackkeep1_spans.f k).bind fun s2 => (wrackmake_Spans.f k l1 (b.length : Int) 6).bind fun x1 => (source_Pieces.f (.img b r0) x1).bind fun P =>
  (wrackmake_Spans.f k l2 P.size 6).bind fun x2 => (source_Pieces.f P x2).bind fun Q => (wrackmake_Below.f a3 (Q.size + 1)).bind fun off => (wrackmake_Below.f a4 (Q.size - off + 1)).bind fun n => (Src.read k Q off n).bind fun x => (Src.road k Q off n).bind fun ro =>
  (source_Pieces.f (.img b r0) ro).bind fun R => (Src.read k R 0 R.size).bind fun y => (slices_Equal_byte_byte.f k x y).bind fun t =>
  if s1 = true ∧ s2 = true ∧ 0 ≤ Q.size ∧ Q.size ≤ 65536 ∧ 0 ≤ off ∧ off ≤ Q.size ∧ t = true ∧ (x.length : Int) = n then some true else none
theorem wrackkeep1_SourceRoads.calls (k : Nat) (A0 : Option Addr) (c0 : Nat) (l0 : List Int) (A1 : Option Addr) (c1 : Nat) (l1 : List Int) (A2 : Option Addr) (c2 : Nat) (l2 : List Int) (a3 a4 : Int) (r : Bool) (w : World) (hr0 : Kd.C (Kd.int .i64) w A0 l0.length l0) (hc0 : l0.length ≤ c0) (hr1 : Kd.C (Kd.int .i64) w A1 l1.length l1) (hc1 : l1.length ≤ c1) (hr2 : Kd.C (Kd.int .i64) w A2 l2.length l2) (hc2 : l2.length ≤ c2) (h : wrackkeep1_SourceRoads.f k l0 l1 l2 a3 a4 = some r) :
    Calls Try.prog 5 #[.slice A0 l0.length c0, .slice A1 l1.length c1, .slice A2 l2.length c2, .int .i64 a3, .int .i64 a4] w fun e w' => e = .returned (.bool r) ∧ Below w.heap.size w w' := by
  unfold wrackkeep1_SourceRoads.f at h
  obtain ⟨b, h1, h⟩ := Option.bind_eq_some_iff.mp h
  obtain ⟨r0, h2, h⟩ := Option.bind_eq_some_iff.mp h
  obtain ⟨s1, h3, h⟩ := Option.bind_eq_some_iff.mp h
  obtain ⟨s2, h4, h⟩ := Option.bind_eq_some_iff.mp h
  obtain ⟨x1, h5, h⟩ := Option.bind_eq_some_iff.mp h
  obtain ⟨P, h6, h⟩ := Option.bind_eq_some_iff.mp h
  obtain ⟨x2, h7, h⟩ := Option.bind_eq_some_iff.mp h
  obtain ⟨Q, h8, h⟩ := Option.bind_eq_some_iff.mp h
  obtain ⟨off, h9, h⟩ := Option.bind_eq_some_iff.mp h
  obtain ⟨n, h10, h⟩ := Option.bind_eq_some_iff.mp h
  obtain ⟨x, h11, h⟩ := Option.bind_eq_some_iff.mp h
  obtain ⟨ro, h12, h⟩ := Option.bind_eq_some_iff.mp h
  obtain ⟨R, h13, h⟩ := Option.bind_eq_some_iff.mp h
  obtain ⟨y, h14, h⟩ := Option.bind_eq_some_iff.mp h
  obtain ⟨t, h15, h⟩ := Option.bind_eq_some_iff.mp h
  split at h
  case isFalse => exact absurd h (by simp)
  case isTrue hh =>
    obtain rfl := Option.some.inj h
    obtain ⟨rfl, rfl, g1, g2, g3, g4, rfl, h16⟩ := hh
    obtain rfl := pieces_eq h6
    obtain rfl := pieces_eq h8
    obtain rfl := pieces_eq h13
    exact wrackkeep1_SourceRoads.lawx k A0 c0 l0 A1 c1 l1 A2 c2 l2 a3 a4 w hr0 hc0 hr1 hc1 hr2 hc2 b h1 r0 h2 h3 h4 x1 h5 _ h6 x2 h7 _ h8 g1 g2 off h9 g3 g4 n h10 x h11 ro h12 _ h13 y h14 h15 h16
/-- THE ONE PURE STATEMENT of wrackkeep1_SourceRoads. -/
def wrackkeep1_SourceRoads.Pure : Prop := ∀ (l0 : List Int) (l1 : List Int) (l2 : List Int) (a3 : Int) (a4 : Int), l0.length ≤ maxLen → l0.length * 8 ≤ 140737488351232 → (∀ x ∈ l0, (Lit.int .i64 x).wf = true) → l1.length ≤ maxLen → l1.length * 8 ≤ 140737488351232 → (∀ x ∈ l1, (Lit.int .i64 x).wf = true) → l2.length ≤ maxLen → l2.length * 8 ≤ 140737488351232 → (∀ x ∈ l2, (Lit.int .i64 x).wf = true) → (Lit.int .i64 a3).wf = true → (Lit.int .i64 a4).wf = true → ∃ k, wrackkeep1_SourceRoads.f k l0 l1 l2 a3 a4 = some true
theorem wrackkeep1_SourceRoads.walk (P : wrackkeep1_SourceRoads.Pure) (a0 : Option Addr) (len0 cap0 : Nat) (z0 : List Int) (a1 : Option Addr) (len1 cap1 : Nat) (z1 : List Int) (a2 : Option Addr) (len2 cap2 : Nat) (z2 : List Int) (a3 : Int) (a4 : Int) (w : World) (w0 : (a0 = none ∧ len0 = 0 ∧ cap0 = 0 ∧ z0 = []) ∨ ∃ x, a0 = some x ∧ len0 ≤ cap0 ∧ cap0 ≤ maxLen ∧ z0.length = cap0 ∧ (∀ i, i < z0.length → w.cell? (x.add i) = some (.int .i64 (z0.getD i 0))) ∧ ∀ n ∈ z0, (Lit.int .i64 n).wf = true) (y0 : len0 * 8 ≤ 140737488351232) (w1 : (a1 = none ∧ len1 = 0 ∧ cap1 = 0 ∧ z1 = []) ∨ ∃ x, a1 = some x ∧ len1 ≤ cap1 ∧ cap1 ≤ maxLen ∧ z1.length = cap1 ∧ (∀ i, i < z1.length → w.cell? (x.add i) = some (.int .i64 (z1.getD i 0))) ∧ ∀ n ∈ z1, (Lit.int .i64 n).wf = true) (y1 : len1 * 8 ≤ 140737488351232) (w2 : (a2 = none ∧ len2 = 0 ∧ cap2 = 0 ∧ z2 = []) ∨ ∃ x, a2 = some x ∧ len2 ≤ cap2 ∧ cap2 ≤ maxLen ∧ z2.length = cap2 ∧ (∀ i, i < z2.length → w.cell? (x.add i) = some (.int .i64 (z2.getD i 0))) ∧ ∀ n ∈ z2, (Lit.int .i64 n).wf = true) (y2 : len2 * 8 ≤ 140737488351232) (w3 : (Lit.int .i64 a3).wf = true) (w4 : (Lit.int .i64 a4).wf = true) :
    Calls Try.prog 5 #[.slice a0 len0 cap0, .slice a1 len1 cap1, .slice a2 len2 cap2, .int .i64 a3, .int .i64 a4] w fun e w' => e = .returned (.bool true) ∧ Below w.heap.size w w' := by
  obtain ⟨l0, rfl, hr0, hm0, hw0, hc0⟩ := ReadsInt.ofRowC w0
  obtain ⟨l1, rfl, hr1, hm1, hw1, hc1⟩ := ReadsInt.ofRowC w1
  obtain ⟨l2, rfl, hr2, hm2, hw2, hc2⟩ := ReadsInt.ofRowC w2
  obtain ⟨k, h⟩ := P l0 l1 l2 a3 a4 hm0 y0 hw0 hm1 y1 hw1 hm2 y2 hw2 w3 w4
  exact wrackkeep1_SourceRoads.calls k _ _ l0 _ _ l1 _ _ l2 a3 a4 true w (Kd.C_of_reads (d := (0 : Int)) (h1 := fun _ => rfl) hr0) hc0 (Kd.C_of_reads (d := (0 : Int)) (h1 := fun _ => rfl) hr1) hc1 (Kd.C_of_reads (d := (0 : Int)) (h1 := fun _ => rfl) hr2) hc2 h

end Go.Proofs.Ytoanpgeijokgpaa.PSourceRoads
