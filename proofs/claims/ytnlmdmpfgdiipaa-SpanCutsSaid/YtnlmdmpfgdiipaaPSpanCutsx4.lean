-- written by prn.py, a program of this session, over the kit's printer
import Derived.Test.YtnlmdmpfgdiipaaPSpanCutsx0
import Derived.Test.YtnlmdmpfgdiipaaPSpanCutsx2
import Derived.Test.YtnlmdmpfgdiipaaPSpanCutsx3
namespace Go.Proofs.Ytnlmdmpfgdiipaa.PSpanCuts
open Go.RowKit Go.Proofs.YtnlmdmpfgdiipaaW.PrintWords Go.Proofs.YtnlmdmpfgdiipaaW.PrintLast Go.Proofs.YtnlmdmpfgdiipaaW.PrintMore Go.Proofs.YtnlmdmpfgdiipaaW.PrintMine
attribute [local go_sem] max2_int min2_int max_two min_two max_three min_three max_four min_four   -- for this text's walks alone
set_option linter.unusedVariables false
set_option linter.unusedSimpArgs false

/-! ### span_Slice: function 28 -/
mutual
def span_Slice.j0 : Nat → List (S53) → Int → Int → List (S53) → Bool → Option ((List (S53)))
  | 0, _, _, _, _, _ => none
  | k + 1, x0, x1, x2, x7, x16 => if x16 = true then (some ([] : List (S53))) else (span_Slice.l0 k x1 x2 x7 x0 (x0.length : Int) 0)
def span_Slice.l0 : Nat → Int → Int → List (S53) → List (S53) → Int → Int → Option ((List (S53)))
  | 0, _, _, _, _, _, _ => none
  | k + 1, x1, x2, x7, x17, x18, x19 => if x19 < x18 then (if 0 ≤ x19 then (if x19 < (x17.length : Int) then ((span_good.f ((rd_T53 x17 x19).f0) ((rd_T53 x17 x19).f1)).bind fun t136 => (if t136 = true then (if x1 ≥ ((rd_T53 x17 x19).f1) then (span_Slice.l0 k (wrap64 (x1 - ((rd_T53 x17 x19).f1))) x2 x7 x17 x18 (wrap64 (x19 + 1))) else (if x7.length < 8796093022208 then ((some (x7 ++ [(⟨wrap64 (((rd_T53 x17 x19).f0) + x1), mn x2 (wrap64 (((rd_T53 x17 x19).f1) - x1))⟩ : S53)] : List (S53))).bind fun y137 => (if (wrap64 (x2 - (mn x2 (wrap64 (((rd_T53 x17 x19).f1) - x1))))) = 0 then ((span_Glue.f k y137).bind fun t140 => (some t140)) else (span_Slice.l0 k 0 (wrap64 (x2 - (mn x2 (wrap64 (((rd_T53 x17 x19).f1) - x1))))) y137 x17 x18 (wrap64 (x19 + 1))))) else (none))) else (span_Slice.l0 k x1 x2 x7 x17 x18 (wrap64 (x19 + 1))))) else (none)) else (none)) else ((span_Glue.f k x7).bind fun t131 => (some t131))
end
def span_Slice.f (k : Nat) (l0 : List (S53)) (a1 : Int) (a2 : Int) : Option ((List (S53))) := if a1 < 0 then (span_Slice.j0 k l0 a1 a2 ([] : List (S53)) true) else (span_Slice.j0 k l0 a1 a2 ([] : List (S53)) (decide (a2 ≤ 0)))
theorem span_Slice.mono_l : ∀ k, (∀ y0 y1 y2 y3 y4, LeO (span_Slice.j0 k y0 y1 y2 y3 y4) (span_Slice.j0 (k + 1) y0 y1 y2 y3 y4)) ∧ (∀ y0 y1 y2 y3 y4 y5, LeO (span_Slice.l0 k y0 y1 y2 y3 y4 y5) (span_Slice.l0 (k + 1) y0 y1 y2 y3 y4 y5))
  | 0 => ⟨fun _ _ _ _ _ r h => by simp [span_Slice.j0] at h, fun _ _ _ _ _ _ r h => by simp [span_Slice.l0] at h⟩
  | k + 1 => by
    obtain ⟨ih0, ih1⟩ := span_Slice.mono_l k
    refine ⟨?_, ?_⟩
    · intro y0 y1 y2 y3 y4
      unfold span_Slice.j0
      repeat' first
      | (with_reducible exact ih0 _ _ _ _ _)
      | (with_reducible exact ih1 _ _ _ _ _ _)
      | (with_reducible exact span_Glue.mono _ _)
      | (with_reducible exact LeO.refl _)
      | (with_reducible exact LeO.none _)
      | (with_reducible refine LeO.ite ?_ ?_)
      | (with_reducible refine LeO.bind ?_ (fun _ => ?_))
      | exact ih0 _ _ _ _ _
      | exact ih1 _ _ _ _ _ _
      | exact span_Glue.mono _ _
      | exact LeO.none _
      | refine LeO.ite ?_ ?_
      | refine LeO.bind ?_ (fun _ => ?_)
    · intro y0 y1 y2 y3 y4 y5
      unfold span_Slice.l0
      repeat' first
      | (with_reducible exact ih0 _ _ _ _ _)
      | (with_reducible exact ih1 _ _ _ _ _ _)
      | (with_reducible exact span_Glue.mono _ _)
      | (with_reducible exact LeO.refl _)
      | (with_reducible exact LeO.none _)
      | (with_reducible refine LeO.ite ?_ ?_)
      | (with_reducible refine LeO.bind ?_ (fun _ => ?_))
      | exact ih0 _ _ _ _ _
      | exact ih1 _ _ _ _ _ _
      | exact span_Glue.mono _ _
      | exact LeO.none _
      | refine LeO.ite ?_ ?_
      | refine LeO.bind ?_ (fun _ => ?_)
theorem span_Slice.mono : ∀ a0 a1 a2 k, LeO (span_Slice.f k a0 a1 a2) (span_Slice.f (k + 1) a0 a1 a2) := by
  intro a0 a1 a2 k
  obtain ⟨ih0, ih1⟩ := span_Slice.mono_l k
  unfold span_Slice.f
  repeat' first
      | (with_reducible exact ih0 _ _ _ _ _)
      | (with_reducible exact ih1 _ _ _ _ _ _)
      | (with_reducible exact span_Glue.mono _ _)
      | (with_reducible exact LeO.refl _)
      | (with_reducible exact LeO.none _)
      | (with_reducible refine LeO.ite ?_ ?_)
      | (with_reducible refine LeO.bind ?_ (fun _ => ?_))
      | exact ih0 _ _ _ _ _
      | exact ih1 _ _ _ _ _ _
      | exact span_Glue.mono _ _
      | exact LeO.none _
      | refine LeO.ite ?_ ?_
      | refine LeO.bind ?_ (fun _ => ?_)
set_option maxHeartbeats 8000000 in
set_option maxRecDepth 100000 in
theorem span_Slice.calls (k : Nat) (A0 : Option Addr) (c0 : Nat) (l0 : List (S53)) (a1 : Int) (a2 : Int) (r : List (S53)) (w : World) (hr0 : Kd.C k53 w A0 l0.length l0) (hc0 : l0.length ≤ c0) (h : span_Slice.f k l0 a1 a2 = some r) :
    Calls Try.prog 28 #[.slice A0 l0.length c0, .int .i64 a1, .int .i64 a2] w fun e w' => ∃ v0_ : Value, e = .returned (v0_) ∧ Kd.R k53 53 w' w.heap.size (fun _ => True) v0_ r ∧ Below w.heap.size w w' := by
  have hu53 := Try.underlying53
  have HR0 := Aside0.mk hr0
  have HC0 := Aside0.mk hc0
  clear hr0 hc0
  have HB := Aside0.mk (Below.refl w.heap.size w)
  have H : (if a1 < 0 then (span_Slice.j0 k l0 a1 a2 ([] : List (S53)) true) else (span_Slice.j0 k l0 a1 a2 ([] : List (S53)) (decide (a2 ≤ 0)))) = some r := h
  clear h
  have HC4 := Aside0.mk H
  clear H
  go_enter Try.func28, Try.ntmps28
  go_upto_region 2 with (fail)
  go_cut [16] (fun v16 wc => ∃ (kq : Nat) (x16_3 : Bool), v16 = .bool x16_3 ∧ Aside0 (span_Slice.j0 kq l0 a1 a2 ([] : List (S53)) x16_3 = some r) ∧ Aside0 (kq ≤ k) ∧ Aside0 (Kd.R k53 53 wc w.heap.size (fun _ => True) (.slice none 0 0) ([] : List (S53))) ∧ Aside0 (Below w.heap.size w wc))
  case first =>
    have H := HC4.out
    clear HC4
    by_cases c5 : a1 < 0
    · rw [if_pos c5] at H
      have c5b0 : decide (a1 < 0) = true := decide_eq_true c5
      clear c5
      (first | rw [c5b0] | (simp only [i64_w, i32_w]; rw [c5b0]) | skip)
      have H' := Aside0.mk H
      clear H
      go_wp2
      go_meet
      case rel => exact ⟨_, (true), (by first | rfl | (simp; done) | (simp [*]; done)), H', ⟨by first | omega | exact Nat.le_refl _⟩, ⟨by first | exact Kd.R_nil _ _ _ _ _ | exact Kd.N_nil _ _ _ _ _ | exact Kd.V_nil _ _ _ _ _ | exact Kd.Q_nil _ _ _ _ _ | exact Kd.S_nil _ _ _ _ _⟩, ⟨by repeat (first | (with_reducible first | exact HB.out | apply below_alloc | apply pw_below_drewN | apply below_drew1) | exact HB.out)⟩⟩
    · rw [if_neg c5] at H
      have c5b0 : decide (a1 < 0) = false := decide_eq_false c5
      clear c5
      (first | rw [c5b0] | (simp only [i64_w, i32_w]; rw [c5b0]) | skip)
      have H' := Aside0.mk H
      clear H
      go_wp2
      go_meet
      case rel => exact ⟨_, (decide (a2 ≤ 0)), (by first | rfl | (simp; done) | (simp [*]; done)), H', ⟨by first | omega | exact Nat.le_refl _⟩, ⟨by first | exact Kd.R_nil _ _ _ _ _ | exact Kd.N_nil _ _ _ _ _ | exact Kd.V_nil _ _ _ _ _ | exact Kd.Q_nil _ _ _ _ _ | exact Kd.S_nil _ _ _ _ _⟩, ⟨by repeat (first | (with_reducible first | exact HB.out | apply below_alloc | apply pw_below_drewN | apply below_drew1) | exact HB.out)⟩⟩
  case rest =>
    clear HC4
    try clear c2
    try clear p2
    try clear c5
    try clear c5b0
    obtain ⟨kq, x16_3, rfl, HA, HJ3, HO_7, HB⟩ := hcut
    cases kq with
    | zero => exact absurd HA.out (by simp [span_Slice.j0])
    | succ kj3 =>
      have H := HA.out
      clear HA
      simp only [span_Slice.j0] at H
      by_cases c6 : x16_3 = true
      · subst c6
        have H1 : (some ([] : List (S53))) = some r := by rw [if_pos rfl] at H; exact H
        clear H
        have H := H1
        clear H1
        obtain rfl := Option.some.inj H
        go_wp2
        go_ret
        exact ⟨_, by first | rfl | (simp [errW_none, errW_some] <;> rfl) | (simp [*, errW_none, errW_some] <;> rfl), by first | exact Kd.R_nil _ _ _ _ _ | exact Kd.N_nil _ _ _ _ _ | exact Kd.V_nil _ _ _ _ _ | exact Kd.Q_nil _ _ _ _ _ | exact Kd.S_nil _ _ _ _ _, by repeat (first | (with_reducible first | exact HB.out | apply below_alloc | apply pw_below_drewN | apply below_drew1) | exact HB.out)⟩
      · replace c6 := Bool.eq_false_iff.mpr c6
        subst c6
        have H1 : (span_Slice.l0 kj3 a1 a2 ([] : List (S53)) l0 (l0.length : Int) 0) = some r := by rw [if_neg (show ¬ (false = true) by decide)] at H; exact H
        clear H
        have H := H1
        clear H1
        have H' := Aside0.mk H
        clear H
        go_wp2
        go_loopg [1, 2, 7, 19] kj3 (fun kq v1 v2 v7 v19 w' => ∃ (x1_2 : Int) (x2_2 : Int) (x7_2 : List (S53)) (x19_2 : Int), v1 = .int .i64 x1_2 ∧ v2 = .int .i64 x2_2 ∧ v19 = .int .i64 x19_2 ∧ Aside0 (span_Slice.l0 kq x1_2 x2_2 x7_2 l0 (l0.length : Int) x19_2 = some r) ∧ Aside0 (kq ≤ kj3) ∧ Aside0 (Kd.R k53 53 w' w.heap.size (fun _ => True) v7 x7_2) ∧ Aside0 (Below w.heap.size w w'))
        case atStart => exact ⟨(a1), (a2), (([] : List (S53))), (0), (by first | rfl | (simp; done) | (simp [*]; done)), (by first | rfl | (simp; done) | (simp [*]; done)), (by first | rfl | (simp; done) | (simp [*]; done)), H', ⟨Nat.le_refl _⟩, ⟨by (with_reducible repeat (first | apply Kd.R_alloc | apply Kd.R_drewN | apply Kd.R_drew)); exact HO_7.out⟩, ⟨by repeat (first | (with_reducible first | exact HB.out | apply below_alloc | apply pw_below_drewN | apply below_drew1) | exact HB.out)⟩⟩
        case round =>
          clear H'
          try clear c2
          try clear p2
          try clear c5
          try clear c5b0
          try clear c6
          try clear p2
          obtain ⟨x1_2, x2_2, x7_2, x19_2, rfl, rfl, rfl, HA, HK2, HO_7, HB⟩ := hrel
          cases gk with
          | zero => exact absurd HA.out (by simp [span_Slice.l0])
          | succ k2 =>
            have H := HA.out
            clear HA
            simp only [span_Slice.l0] at H
            by_cases c7 : x19_2 < (l0.length : Int)
            · rw [if_pos c7] at H
              have c7b0 : decide (x19_2 < (l0.length : Int)) = true := decide_eq_true c7
              clear c7
              by_cases c8 : 0 ≤ x19_2
              · rw [if_pos c8] at H
                have c8b0 : decide (0 ≤ x19_2) = true := decide_eq_true c8
                clear c8
                by_cases c9 : x19_2 < (l0.length : Int)
                · rw [if_pos c9] at H
                  have c9b0 : decide (x19_2 < (l0.length : Int)) = true := decide_eq_true c9
                  clear c9
                  replace H := Option.bind_eq_some_iff.mp H
                  obtain ⟨t136, A100, H⟩ := H
                  replace H : (if t136 = true then (if x1_2 ≥ ((rd_T53 l0 x19_2).f1) then (span_Slice.l0 k2 (wrap64 (x1_2 - ((rd_T53 l0 x19_2).f1))) x2_2 x7_2 l0 (l0.length : Int) (wrap64 (x19_2 + 1))) else (if x7_2.length < 8796093022208 then ((some (x7_2 ++ [(⟨wrap64 (((rd_T53 l0 x19_2).f0) + x1_2), mn x2_2 (wrap64 (((rd_T53 l0 x19_2).f1) - x1_2))⟩ : S53)] : List (S53))).bind fun y137 => (if (wrap64 (x2_2 - (mn x2_2 (wrap64 (((rd_T53 l0 x19_2).f1) - x1_2))))) = 0 then ((span_Glue.f k2 y137).bind fun t140 => (some t140)) else (span_Slice.l0 k2 0 (wrap64 (x2_2 - (mn x2_2 (wrap64 (((rd_T53 l0 x19_2).f1) - x1_2))))) y137 l0 (l0.length : Int) (wrap64 (x19_2 + 1))))) else (none))) else (span_Slice.l0 k2 x1_2 x2_2 x7_2 l0 (l0.length : Int) (wrap64 (x19_2 + 1)))) = some r := H
                  have A10 := Aside0.mk A100
                  clear A100
                  by_cases c11 : t136 = true
                  · subst c11
                    have H1 : (if x1_2 ≥ ((rd_T53 l0 x19_2).f1) then (span_Slice.l0 k2 (wrap64 (x1_2 - ((rd_T53 l0 x19_2).f1))) x2_2 x7_2 l0 (l0.length : Int) (wrap64 (x19_2 + 1))) else (if x7_2.length < 8796093022208 then ((some (x7_2 ++ [(⟨wrap64 (((rd_T53 l0 x19_2).f0) + x1_2), mn x2_2 (wrap64 (((rd_T53 l0 x19_2).f1) - x1_2))⟩ : S53)] : List (S53))).bind fun y137 => (if (wrap64 (x2_2 - (mn x2_2 (wrap64 (((rd_T53 l0 x19_2).f1) - x1_2))))) = 0 then ((span_Glue.f k2 y137).bind fun t140 => (some t140)) else (span_Slice.l0 k2 0 (wrap64 (x2_2 - (mn x2_2 (wrap64 (((rd_T53 l0 x19_2).f1) - x1_2))))) y137 l0 (l0.length : Int) (wrap64 (x19_2 + 1))))) else (none))) = some r := by rw [if_pos rfl] at H; exact H
                    clear H
                    have H := H1
                    clear H1
                    by_cases c12 : x1_2 ≥ ((rd_T53 l0 x19_2).f1)
                    · rw [if_pos c12] at H
                      have c12b0 : decide (((rd_T53 l0 x19_2).f1) ≤ x1_2) = true := decide_eq_true c12
                      clear c12
                      have H' := Aside0.mk H
                      clear H
                      have p134 : 0 ≤ (x19_2 : Int) := of_decide_eq_true (by first | (with_reducible assumption) | assumption)
                      have q134 : x19_2 < (l0.length : Int) := of_decide_eq_true (by first | (with_reducible assumption) | assumption)
                      obtain ⟨ad134, e134, hx134_0, hx134_1⟩ := at_T53 HR0.out x19_2 p134 q134
                      cases e134
                      replace hx134_0 := (HB.out.cell (World.block_lt_of_cell? w _ hx134_0)).trans hx134_0
                      replace hx134_1 := (HB.out.cell (World.block_lt_of_cell? w _ hx134_1)).trans hx134_1
                      replace p134 := eq_true p134
                      replace q134 := eq_true q134
                      go_wp2_with (first | ((with_reducible refine gate_dst (N := 9) rfl ?_); refine box_event ?hg (N := 9) ?hd (cs := #[.int .i64 0, .int .i64 0]) (t := 53) ?hr ?_; (case hd => rfl); (case hg => rfl); (case hr => first | (go_simp; done) | (go_simp; rfl)); intro gb135 hg w13 hbox hb; have n0_ := Aside0.mk (Kd.R_below (Kd.R_elderB (by (with_reducible repeat (first | apply Kd.R_alloc | apply Kd.R_drewN | apply Kd.R_drew)); exact HO_7.out) gb135 (Nat.le_of_eq hg.symm)) hb); have n1_ := Aside0.mk (below_step (by repeat (first | (with_reducible first | exact HB.out | apply below_alloc | apply pw_below_drewN | apply below_drew1) | exact HB.out)) hb); have n2_ := Aside0.mk (hbox); have n3_ := Aside0.mk ((by rw [hg]; exact (below_size (by repeat (first | (with_reducible first | exact HB.out | apply below_alloc | apply pw_below_drewN | apply below_drew1) | exact HB.out))) : w.heap.size ≤ gb135)); have n4_ := Aside0.mk ((by rw [hg]; exact (below_size (by repeat (first | (with_reducible first | exact HB.out | apply below_alloc | apply pw_below_drewN | apply below_drew1) | exact HB.out))) : w.heap.size ≤ gb135)); clear HO_7; clear HB; have HO_7 := n0_; have HB := n1_; have BK135 := n2_; have GW135 := n3_; have GE135 := n4_; clear n0_ n1_ n2_ n3_ n4_; clear hb hbox hg; have hcz14_0 : w13.cell? ⟨gb135, 0, none⟩ = some (.int .i64 0) := (blk_cell BK135.out 0).trans rfl; have hcz14_1 : w13.cell? ⟨gb135, 1, none⟩ = some (.int .i64 0) := (blk_cell BK135.out 1).trans rfl; have hfz14_0 := blk_frozen BK135.out 0; have hfz14_1 := blk_frozen BK135.out 1) | ((with_reducible refine gate_callee (f := 80) rfl ?_); refine goesL_ (some 24) rfl rfl Try.func80 (by kernel_rfl) rfl #[.agg #[.int .i64 ((rd_T53 l0 x19_2).f0), .int .i64 ((rd_T53 l0 x19_2).f1)]] rfl (by (try simp only [List.map_toArray, List.map_cons, List.map_nil]); first | done | rfl | (simp only [List.length_drop, List.length_take]; rfl)) ?_; (with_reducible refine (span_good.calls ((rd_T53 l0 x19_2).f0) ((rd_T53 l0 x19_2).f1) true _ A10.out).mono ?_); rintro e w15 ⟨rfl, hb⟩; refine ⟨_, rfl, ?_⟩; have n0_ := Aside0.mk (Kd.R_below (by (with_reducible repeat (first | apply Kd.R_alloc | apply Kd.R_drewN | apply Kd.R_drew)); exact (Kd.R_mono (Kd.R_far (p := ⟨gb135, 1, none⟩) (Kd.R_far (p := ⟨gb135, 0, none⟩) (Kd.R_mono HO_7.out (fun k_ hk => (⟨hk, hk.2⟩ : _ ∧ k_ ≠ gb135))) (fun _ hk => hk.2) (.int .i64 ((rd_T53 l0 x19_2).f0))) (fun _ hk => hk.2) (.int .i64 ((rd_T53 l0 x19_2).f1))) (fun _ h_ => h_.1))) hb); have n1_ := Aside0.mk (blk_below (g := gb135) (o := .cells #[.int .i64 ((rd_T53 l0 x19_2).f0), .int .i64 ((rd_T53 l0 x19_2).f1)] 53 (0, 0)) (by (with_reducible repeat (first | refine blk_drewN ?_ _ | refine blk_drew ?_ | refine blk_alloc ?_ _)); refine blk_put (cs := #[.int .i64 ((rd_T53 l0 x19_2).f0), .int .i64 0]) ?_ 1 _ rfl; (with_reducible repeat (first | refine blk_drewN ?_ _ | refine blk_drew ?_ | refine blk_alloc ?_ _)); refine blk_put (cs := #[.int .i64 0, .int .i64 0]) ?_ 0 _ rfl; (with_reducible repeat (first | refine blk_drewN ?_ _ | refine blk_drew ?_ | refine blk_alloc ?_ _)); exact BK135.out) hb); have n2_ := Aside0.mk (below_step (by repeat (first | (with_reducible first | exact HB.out | apply below_alloc | apply pw_below_drewN | apply below_drew1 | refine below_set ?_ GE135.out) | exact HB.out)) hb); clear HO_7; clear BK135; clear HB; have HO_7 := n0_; have BK135 := n1_; have HB := n2_; clear n0_ n1_ n2_; (try clear hb); (try clear hb2); (try clear hk); (try clear hi); have hcz16_0 : w15.cell? ⟨gb135, 0, none⟩ = some (.int .i64 ((rd_T53 l0 x19_2).f0)) := (blk_cell BK135.out 0).trans rfl; have hcz16_1 : w15.cell? ⟨gb135, 1, none⟩ = some (.int .i64 ((rd_T53 l0 x19_2).f1)) := (blk_cell BK135.out 1).trans rfl; have hfz16_0 := blk_frozen BK135.out 0; have hfz16_1 := blk_frozen BK135.out 1))
                      go_roundg k2
                      case measure => have := HJ3.out; have := HK2.out; omega
                      case rel => exact ⟨(wrap64 (x1_2 - ((rd_T53 l0 x19_2).f1))), (x2_2), (x7_2), (wrap64 (x19_2 + 1)), (by first | rfl | (simp; done) | (simp [*]; done)), (by first | rfl | (simp; done) | (simp [*]; done)), (by first | rfl | (simp; done) | (simp [*]; done)), H', ⟨by have := HJ3.out; have := HK2.out; omega⟩, ⟨by (with_reducible repeat (first | apply Kd.R_alloc | apply Kd.R_drewN | apply Kd.R_drew)); exact Kd.R_mono HO_7.out (fun _ hk => trivial)⟩, ⟨by repeat (first | (with_reducible first | exact HB.out | apply below_alloc | apply pw_below_drewN | apply below_drew1 | refine below_set ?_ GE135.out) | exact HB.out)⟩⟩
                    · rw [if_neg c12] at H
                      have c12b0 : decide (((rd_T53 l0 x19_2).f1) ≤ x1_2) = false := decide_eq_false c12
                      clear c12
                      obtain ⟨ji17, hji17⟩ : ∃ j_ : Int, (mn x2_2 (wrap64 (((rd_T53 l0 x19_2).f1) - x1_2))) = j_ := ⟨_, rfl⟩
                      replace H : (if x7_2.length < 8796093022208 then ((some (x7_2 ++ [(⟨wrap64 (((rd_T53 l0 x19_2).f0) + x1_2), ji17⟩ : S53)] : List (S53))).bind fun y137 => (if (wrap64 (x2_2 - (ji17))) = 0 then ((span_Glue.f k2 y137).bind fun t140 => (some t140)) else (span_Slice.l0 k2 0 (wrap64 (x2_2 - (ji17))) y137 l0 (l0.length : Int) (wrap64 (x19_2 + 1))))) else (none)) = some r := by first | (rw [hji17] at H; exact H) | (simp only [hji17] at H ⊢; exact H)
                      (try rw [hji17] at A10)
                      have hji17_ : (if (wrap64 (((rd_T53 l0 x19_2).f1) - x1_2)) < x2_2 then (wrap64 (((rd_T53 l0 x19_2).f1) - x1_2)) else x2_2) = ji17 := hji17
                      by_cases c18 : x7_2.length < 8796093022208
                      · rw [if_pos c18] at H
                        have LMc18 := Aside0.mk c18
                        clear c18
                        obtain ⟨y137, hy137⟩ : ∃ y_ : List (S53), y_ = (x7_2 ++ [(⟨wrap64 (((rd_T53 l0 x19_2).f0) + x1_2), ji17⟩ : S53)]) := ⟨_, rfl⟩
                        replace H : (if (wrap64 (x2_2 - (ji17))) = 0 then ((span_Glue.f k2 y137).bind fun t140 => (some t140)) else (span_Slice.l0 k2 0 (wrap64 (x2_2 - (ji17))) y137 l0 (l0.length : Int) (wrap64 (x19_2 + 1)))) = some r := by first | (rw [hy137]; with_reducible exact H) | (have H2_ := (Option.bind_some _ _).symm.trans H; rw [hy137]; with_reducible exact H2_) | (have H2_ := (Option.bind_some _ _).symm.trans H; with_reducible exact H2_) | with_reducible exact H | (rw [hy137]; exact H) | exact H
                        have Ny137 := Aside0.mk hy137
                        clear hy137
                        by_cases c19 : (wrap64 (x2_2 - (ji17))) = 0
                        · rw [if_pos c19] at H
                          have c19b0 : ((wrap64 (x2_2 - (ji17))) == 0) = true := beq_iff_eq.mpr c19
                          have c19b1 : ((wrap64 (x2_2 - (ji17))) != 0) = false := bne_eq_false_iff_eq.mpr c19
                          clear c19
                          replace H := Option.bind_eq_some_iff.mp H
                          obtain ⟨t140, A200, H⟩ := H
                          replace H : (some t140) = some r := H
                          have A20 := Aside0.mk A200
                          clear A200
                          obtain rfl := Option.some.inj H
                          have p134 : 0 ≤ (x19_2 : Int) := of_decide_eq_true (by first | (with_reducible assumption) | assumption)
                          have q134 : x19_2 < (l0.length : Int) := of_decide_eq_true (by first | (with_reducible assumption) | assumption)
                          obtain ⟨ad134, e134, hx134_0, hx134_1⟩ := at_T53 HR0.out x19_2 p134 q134
                          cases e134
                          replace hx134_0 := (HB.out.cell (World.block_lt_of_cell? w _ hx134_0)).trans hx134_0
                          replace hx134_1 := (HB.out.cell (World.block_lt_of_cell? w _ hx134_1)).trans hx134_1
                          replace p134 := eq_true p134
                          replace q134 := eq_true q134
                          go_wp2_with (first | ((with_reducible refine gate_dst (N := 9) rfl ?_); refine box_event ?hg (N := 9) ?hd (cs := #[.int .i64 0, .int .i64 0]) (t := 53) ?hr ?_; (case hd => rfl); (case hg => rfl); (case hr => first | (go_simp; done) | (go_simp; rfl)); intro gb135 hg w21 hbox hb; have n0_ := Aside0.mk (Kd.R_below (Kd.R_elderB (by (with_reducible repeat (first | apply Kd.R_alloc | apply Kd.R_drewN | apply Kd.R_drew)); exact HO_7.out) gb135 (Nat.le_of_eq hg.symm)) hb); have n1_ := Aside0.mk (below_step (by repeat (first | (with_reducible first | exact HB.out | apply below_alloc | apply pw_below_drewN | apply below_drew1) | exact HB.out)) hb); have n2_ := Aside0.mk (hbox); have n3_ := Aside0.mk ((by rw [hg]; exact (below_size (by repeat (first | (with_reducible first | exact HB.out | apply below_alloc | apply pw_below_drewN | apply below_drew1) | exact HB.out))) : w.heap.size ≤ gb135)); have n4_ := Aside0.mk ((by rw [hg]; exact (below_size (by repeat (first | (with_reducible first | exact HB.out | apply below_alloc | apply pw_below_drewN | apply below_drew1) | exact HB.out))) : w.heap.size ≤ gb135)); clear HO_7; clear HB; have HO_7 := n0_; have HB := n1_; have BK135 := n2_; have GW135 := n3_; have GE135 := n4_; clear n0_ n1_ n2_ n3_ n4_; clear hb hbox hg; have hcz22_0 : w21.cell? ⟨gb135, 0, none⟩ = some (.int .i64 0) := (blk_cell BK135.out 0).trans rfl; have hcz22_1 : w21.cell? ⟨gb135, 1, none⟩ = some (.int .i64 0) := (blk_cell BK135.out 1).trans rfl; have hfz22_0 := blk_frozen BK135.out 0; have hfz22_1 := blk_frozen BK135.out 1) | ((with_reducible refine gate_callee (f := 80) rfl ?_); refine goesL_ (some 24) rfl rfl Try.func80 (by kernel_rfl) rfl #[.agg #[.int .i64 ((rd_T53 l0 x19_2).f0), .int .i64 ((rd_T53 l0 x19_2).f1)]] rfl (by (try simp only [List.map_toArray, List.map_cons, List.map_nil]); first | done | rfl | (simp only [List.length_drop, List.length_take]; rfl)) ?_; (with_reducible refine (span_good.calls ((rd_T53 l0 x19_2).f0) ((rd_T53 l0 x19_2).f1) true _ A10.out).mono ?_); rintro e w23 ⟨rfl, hb⟩; refine ⟨_, rfl, ?_⟩; have n0_ := Aside0.mk (Kd.R_below (by (with_reducible repeat (first | apply Kd.R_alloc | apply Kd.R_drewN | apply Kd.R_drew)); exact (Kd.R_mono (Kd.R_far (p := ⟨gb135, 1, none⟩) (Kd.R_far (p := ⟨gb135, 0, none⟩) (Kd.R_mono HO_7.out (fun k_ hk => (⟨hk, hk.2⟩ : _ ∧ k_ ≠ gb135))) (fun _ hk => hk.2) (.int .i64 ((rd_T53 l0 x19_2).f0))) (fun _ hk => hk.2) (.int .i64 ((rd_T53 l0 x19_2).f1))) (fun _ h_ => h_.1))) hb); have n1_ := Aside0.mk (blk_below (g := gb135) (o := .cells #[.int .i64 ((rd_T53 l0 x19_2).f0), .int .i64 ((rd_T53 l0 x19_2).f1)] 53 (0, 0)) (by (with_reducible repeat (first | refine blk_drewN ?_ _ | refine blk_drew ?_ | refine blk_alloc ?_ _)); refine blk_put (cs := #[.int .i64 ((rd_T53 l0 x19_2).f0), .int .i64 0]) ?_ 1 _ rfl; (with_reducible repeat (first | refine blk_drewN ?_ _ | refine blk_drew ?_ | refine blk_alloc ?_ _)); refine blk_put (cs := #[.int .i64 0, .int .i64 0]) ?_ 0 _ rfl; (with_reducible repeat (first | refine blk_drewN ?_ _ | refine blk_drew ?_ | refine blk_alloc ?_ _)); exact BK135.out) hb); have n2_ := Aside0.mk (below_step (by repeat (first | (with_reducible first | exact HB.out | apply below_alloc | apply pw_below_drewN | apply below_drew1 | refine below_set ?_ GE135.out) | exact HB.out)) hb); clear HO_7; clear BK135; clear HB; have HO_7 := n0_; have BK135 := n1_; have HB := n2_; clear n0_ n1_ n2_; (try clear hb); (try clear hb2); (try clear hk); (try clear hi); have hcz24_0 : w23.cell? ⟨gb135, 0, none⟩ = some (.int .i64 ((rd_T53 l0 x19_2).f0)) := (blk_cell BK135.out 0).trans rfl; have hcz24_1 : w23.cell? ⟨gb135, 1, none⟩ = some (.int .i64 ((rd_T53 l0 x19_2).f1)) := (blk_cell BK135.out 1).trans rfl; have hfz24_0 := blk_frozen BK135.out 0; have hfz24_1 := blk_frozen BK135.out 1) | ((with_reducible refine gate_builtin (b := .append) (xs := #[.tmp 40, .tmp 47]) rfl ?_); at_builtin; refine Kd.R_append k53 (w0 := w) w.heap.size rfl (.tmp 40) (.tmp 47) 46 53 (.agg #[(.int .i64 0), (.int .i64 0)]) 16 rfl Try.underlying46 info53 rfl (by decide) (by omega) u7 x7_2 (⟨wrap64 (((rd_T53 l0 x19_2).f0) + x1_2), ji17⟩ : S53) [.int .i64 (wrap64 (((rd_T53 l0 x19_2).f0) + x1_2)), .int .i64 ji17] (fun k_ => k_ ≠ gb135) (fun _ => False) rfl rfl ?aP (fun _ hk => hk.elim) ?aF ?aO ?aB ?aS ?aL ?_; (case aP => exact k53_mkM _ _ _ (⟨wrap64 (((rd_T53 l0 x19_2).f0) + x1_2), ji17⟩ : S53)); (case aB => exact (by repeat (first | (with_reducible first | exact HB.out | apply below_alloc | apply pw_below_drewN | apply below_drew1 | refine below_set ?_ GE135.out) | exact HB.out))); (case aF => exact (fun k_ hk => Kd.freshB (g := gb135) (o := .cells #[.int .i64 ((rd_T53 l0 x19_2).f0), .int .i64 ((rd_T53 l0 x19_2).f1)] 53 (0, 0)) (by (with_reducible repeat (first | refine blk_drewN ?_ _ | refine blk_drew ?_ | refine blk_alloc ?_ _)); exact BK135.out) k_ hk)); (case aO => exact (by (with_reducible repeat (first | apply Kd.R_alloc | apply Kd.R_drewN | apply Kd.R_drew)); exact Kd.R_mono HO_7.out (fun _ hk => hk.2))); (case aS => exact (below_size (by repeat (first | (with_reducible first | exact HB.out | apply below_alloc | apply pw_below_drewN | apply below_drew1 | refine below_set ?_ GE135.out) | exact HB.out)))); (case aL => have := LMc18.out; omega); intro v138 w25 ho hb hg hat; rw [← Ny137.out] at ho; have n0_ := Aside0.mk (blk_grown (g := gb135) (o := .cells #[.int .i64 ((rd_T53 l0 x19_2).f0), .int .i64 ((rd_T53 l0 x19_2).f1)] 53 (0, 0)) (by (with_reducible repeat (first | refine blk_drewN ?_ _ | refine blk_drew ?_ | refine blk_alloc ?_ _)); exact BK135.out) hg (Kd.R_away HO_7.out (fun _ hk => hk.2))); have n1_ := Aside0.mk (hb); have n2_ := Aside0.mk (ho); clear BK135; clear HB; clear HO_7; have BK135 := n0_; have HB := n1_; have HO139 := n2_; clear n0_ n1_ n2_; clear ho hb hg hat; obtain ⟨Ao26, co26, eo26⟩ := Kd.R_slice HO139.out; subst eo26) | ((with_reducible refine gate_callee (f := 31) rfl ?_); refine goesL_ (some 56) rfl rfl Try.func31 (by kernel_rfl) rfl #[.slice Ao26 y137.length co26] rfl (by (try simp only [List.map_toArray, List.map_cons, List.map_nil]); first | done | rfl | (simp only [List.length_drop, List.length_take]; rfl)) ?_; (with_reducible refine (span_Glue.calls k2 _ _ y137 t140 _ ?side1 ?side2 A20.out).mono ?_); (case side1 => repeat (first | exact (Kd.R_reads' HO139.out).2.2 | (with_reducible refine Kd.C_alloc ?_ _) | (with_reducible refine Kd.C_drewN ?_ _) | (with_reducible refine Kd.C_drew ?_))); (case side2 => exact (Kd.R_reads' HO139.out).2.1); rintro e w27 ⟨v141, rfl, ho0, hb⟩; refine ⟨_, rfl, ?_⟩; have n0_ := Aside0.mk (Kd.R_elder' (by (with_reducible repeat (first | apply Kd.R_alloc | apply Kd.R_drewN | apply Kd.R_drew)); exact HO139.out) (Kd.R_base ho0) hb); have n1_ := Aside0.mk (Kd.R_lower (Kd.R_newB (Kd.R_new' ho0 (Kd.R_lt (by (with_reducible repeat (first | apply Kd.R_alloc | apply Kd.R_drewN | apply Kd.R_drew)); exact HO139.out))) (g := gb135) (o := .cells #[.int .i64 ((rd_T53 l0 x19_2).f0), .int .i64 ((rd_T53 l0 x19_2).f1)] 53 (0, 0)) (by (with_reducible repeat (first | refine blk_drewN ?_ _ | refine blk_drew ?_ | refine blk_alloc ?_ _)); exact BK135.out)) (below_size (by repeat (first | (with_reducible first | exact HB.out | apply below_alloc | apply pw_below_drewN | apply below_drew1 | refine below_set ?_ GE135.out) | exact HB.out)))); have n2_ := Aside0.mk (blk_below (g := gb135) (o := .cells #[.int .i64 ((rd_T53 l0 x19_2).f0), .int .i64 ((rd_T53 l0 x19_2).f1)] 53 (0, 0)) (by (with_reducible repeat (first | refine blk_drewN ?_ _ | refine blk_drew ?_ | refine blk_alloc ?_ _)); exact BK135.out) hb); have n3_ := Aside0.mk (below_step (by repeat (first | (with_reducible first | exact HB.out | apply below_alloc | apply pw_below_drewN | apply below_drew1 | refine below_set ?_ GE135.out) | exact HB.out)) hb); clear HO139; clear BK135; clear HB; have HO139 := n0_; have HO142 := n1_; have BK135 := n2_; have HB := n3_; clear n0_ n1_ n2_ n3_; (try clear hb); (try clear hb2); (try clear hk); (try clear hi); (try clear ho0)))
                          go_ret
                          exact ⟨_, by first | rfl | (simp [errW_none, errW_some] <;> rfl) | (simp only [← hji17]; first | rfl | (simp [errW_none, errW_some] <;> rfl)) | (simp [*, errW_none, errW_some] <;> rfl), by (with_reducible repeat (first | apply Kd.R_alloc | apply Kd.R_drewN | apply Kd.R_drew)); exact Kd.R_mono HO142.out (fun _ hk => trivial), by repeat (first | (with_reducible first | exact HB.out | apply below_alloc | apply pw_below_drewN | apply below_drew1 | refine below_set ?_ GE135.out) | exact HB.out)⟩
                        · rw [if_neg c19] at H
                          have c19b0 : ((wrap64 (x2_2 - (ji17))) == 0) = false := beq_eq_false_iff_ne.mpr c19
                          have c19b1 : ((wrap64 (x2_2 - (ji17))) != 0) = true := bne_iff_ne.mpr c19
                          have H' := Aside0.mk H
                          clear H
                          have p134 : 0 ≤ (x19_2 : Int) := of_decide_eq_true (by first | (with_reducible assumption) | assumption)
                          have q134 : x19_2 < (l0.length : Int) := of_decide_eq_true (by first | (with_reducible assumption) | assumption)
                          obtain ⟨ad134, e134, hx134_0, hx134_1⟩ := at_T53 HR0.out x19_2 p134 q134
                          cases e134
                          replace hx134_0 := (HB.out.cell (World.block_lt_of_cell? w _ hx134_0)).trans hx134_0
                          replace hx134_1 := (HB.out.cell (World.block_lt_of_cell? w _ hx134_1)).trans hx134_1
                          replace p134 := eq_true p134
                          replace q134 := eq_true q134
                          go_wp2_with (first | ((with_reducible refine gate_dst (N := 9) rfl ?_); refine box_event ?hg (N := 9) ?hd (cs := #[.int .i64 0, .int .i64 0]) (t := 53) ?hr ?_; (case hd => rfl); (case hg => rfl); (case hr => first | (go_simp; done) | (go_simp; rfl)); intro gb135 hg w28 hbox hb; have n0_ := Aside0.mk (Kd.R_below (Kd.R_elderB (by (with_reducible repeat (first | apply Kd.R_alloc | apply Kd.R_drewN | apply Kd.R_drew)); exact HO_7.out) gb135 (Nat.le_of_eq hg.symm)) hb); have n1_ := Aside0.mk (below_step (by repeat (first | (with_reducible first | exact HB.out | apply below_alloc | apply pw_below_drewN | apply below_drew1) | exact HB.out)) hb); have n2_ := Aside0.mk (hbox); have n3_ := Aside0.mk ((by rw [hg]; exact (below_size (by repeat (first | (with_reducible first | exact HB.out | apply below_alloc | apply pw_below_drewN | apply below_drew1) | exact HB.out))) : w.heap.size ≤ gb135)); have n4_ := Aside0.mk ((by rw [hg]; exact (below_size (by repeat (first | (with_reducible first | exact HB.out | apply below_alloc | apply pw_below_drewN | apply below_drew1) | exact HB.out))) : w.heap.size ≤ gb135)); clear HO_7; clear HB; have HO_7 := n0_; have HB := n1_; have BK135 := n2_; have GW135 := n3_; have GE135 := n4_; clear n0_ n1_ n2_ n3_ n4_; clear hb hbox hg; have hcz29_0 : w28.cell? ⟨gb135, 0, none⟩ = some (.int .i64 0) := (blk_cell BK135.out 0).trans rfl; have hcz29_1 : w28.cell? ⟨gb135, 1, none⟩ = some (.int .i64 0) := (blk_cell BK135.out 1).trans rfl; have hfz29_0 := blk_frozen BK135.out 0; have hfz29_1 := blk_frozen BK135.out 1) | ((with_reducible refine gate_callee (f := 80) rfl ?_); refine goesL_ (some 24) rfl rfl Try.func80 (by kernel_rfl) rfl #[.agg #[.int .i64 ((rd_T53 l0 x19_2).f0), .int .i64 ((rd_T53 l0 x19_2).f1)]] rfl (by (try simp only [List.map_toArray, List.map_cons, List.map_nil]); first | done | rfl | (simp only [List.length_drop, List.length_take]; rfl)) ?_; (with_reducible refine (span_good.calls ((rd_T53 l0 x19_2).f0) ((rd_T53 l0 x19_2).f1) true _ A10.out).mono ?_); rintro e w30 ⟨rfl, hb⟩; refine ⟨_, rfl, ?_⟩; have n0_ := Aside0.mk (Kd.R_below (by (with_reducible repeat (first | apply Kd.R_alloc | apply Kd.R_drewN | apply Kd.R_drew)); exact (Kd.R_mono (Kd.R_far (p := ⟨gb135, 1, none⟩) (Kd.R_far (p := ⟨gb135, 0, none⟩) (Kd.R_mono HO_7.out (fun k_ hk => (⟨hk, hk.2⟩ : _ ∧ k_ ≠ gb135))) (fun _ hk => hk.2) (.int .i64 ((rd_T53 l0 x19_2).f0))) (fun _ hk => hk.2) (.int .i64 ((rd_T53 l0 x19_2).f1))) (fun _ h_ => h_.1))) hb); have n1_ := Aside0.mk (blk_below (g := gb135) (o := .cells #[.int .i64 ((rd_T53 l0 x19_2).f0), .int .i64 ((rd_T53 l0 x19_2).f1)] 53 (0, 0)) (by (with_reducible repeat (first | refine blk_drewN ?_ _ | refine blk_drew ?_ | refine blk_alloc ?_ _)); refine blk_put (cs := #[.int .i64 ((rd_T53 l0 x19_2).f0), .int .i64 0]) ?_ 1 _ rfl; (with_reducible repeat (first | refine blk_drewN ?_ _ | refine blk_drew ?_ | refine blk_alloc ?_ _)); refine blk_put (cs := #[.int .i64 0, .int .i64 0]) ?_ 0 _ rfl; (with_reducible repeat (first | refine blk_drewN ?_ _ | refine blk_drew ?_ | refine blk_alloc ?_ _)); exact BK135.out) hb); have n2_ := Aside0.mk (below_step (by repeat (first | (with_reducible first | exact HB.out | apply below_alloc | apply pw_below_drewN | apply below_drew1 | refine below_set ?_ GE135.out) | exact HB.out)) hb); clear HO_7; clear BK135; clear HB; have HO_7 := n0_; have BK135 := n1_; have HB := n2_; clear n0_ n1_ n2_; (try clear hb); (try clear hb2); (try clear hk); (try clear hi); have hcz31_0 : w30.cell? ⟨gb135, 0, none⟩ = some (.int .i64 ((rd_T53 l0 x19_2).f0)) := (blk_cell BK135.out 0).trans rfl; have hcz31_1 : w30.cell? ⟨gb135, 1, none⟩ = some (.int .i64 ((rd_T53 l0 x19_2).f1)) := (blk_cell BK135.out 1).trans rfl; have hfz31_0 := blk_frozen BK135.out 0; have hfz31_1 := blk_frozen BK135.out 1) | ((with_reducible refine gate_builtin (b := .append) (xs := #[.tmp 40, .tmp 47]) rfl ?_); at_builtin; refine Kd.R_append k53 (w0 := w) w.heap.size rfl (.tmp 40) (.tmp 47) 46 53 (.agg #[(.int .i64 0), (.int .i64 0)]) 16 rfl Try.underlying46 info53 rfl (by decide) (by omega) u7 x7_2 (⟨wrap64 (((rd_T53 l0 x19_2).f0) + x1_2), ji17⟩ : S53) [.int .i64 (wrap64 (((rd_T53 l0 x19_2).f0) + x1_2)), .int .i64 ji17] (fun k_ => k_ ≠ gb135) (fun _ => False) rfl rfl ?aP (fun _ hk => hk.elim) ?aF ?aO ?aB ?aS ?aL ?_; (case aP => exact k53_mkM _ _ _ (⟨wrap64 (((rd_T53 l0 x19_2).f0) + x1_2), ji17⟩ : S53)); (case aB => exact (by repeat (first | (with_reducible first | exact HB.out | apply below_alloc | apply pw_below_drewN | apply below_drew1 | refine below_set ?_ GE135.out) | exact HB.out))); (case aF => exact (fun k_ hk => Kd.freshB (g := gb135) (o := .cells #[.int .i64 ((rd_T53 l0 x19_2).f0), .int .i64 ((rd_T53 l0 x19_2).f1)] 53 (0, 0)) (by (with_reducible repeat (first | refine blk_drewN ?_ _ | refine blk_drew ?_ | refine blk_alloc ?_ _)); exact BK135.out) k_ hk)); (case aO => exact (by (with_reducible repeat (first | apply Kd.R_alloc | apply Kd.R_drewN | apply Kd.R_drew)); exact Kd.R_mono HO_7.out (fun _ hk => hk.2))); (case aS => exact (below_size (by repeat (first | (with_reducible first | exact HB.out | apply below_alloc | apply pw_below_drewN | apply below_drew1 | refine below_set ?_ GE135.out) | exact HB.out)))); (case aL => have := LMc18.out; omega); intro v138 w32 ho hb hg hat; rw [← Ny137.out] at ho; have n0_ := Aside0.mk (blk_grown (g := gb135) (o := .cells #[.int .i64 ((rd_T53 l0 x19_2).f0), .int .i64 ((rd_T53 l0 x19_2).f1)] 53 (0, 0)) (by (with_reducible repeat (first | refine blk_drewN ?_ _ | refine blk_drew ?_ | refine blk_alloc ?_ _)); exact BK135.out) hg (Kd.R_away HO_7.out (fun _ hk => hk.2))); have n1_ := Aside0.mk (hb); have n2_ := Aside0.mk (ho); clear BK135; clear HB; clear HO_7; have BK135 := n0_; have HB := n1_; have HO139 := n2_; clear n0_ n1_ n2_; clear ho hb hg hat))
                          go_roundg k2
                          case measure => have := HJ3.out; have := HK2.out; omega
                          case rel => exact ⟨(0), (wrap64 (x2_2 - (ji17))), (y137), (wrap64 (x19_2 + 1)), (by first | rfl | (simp; done) | (simp [*]; done)), (by first | rfl | (simp; done) | (simp only [← hji17] <;> (first | rfl | simp)) | (simp [*]; done)), (by first | rfl | (simp; done) | (simp [*]; done)), H', ⟨by have := HJ3.out; have := HK2.out; omega⟩, ⟨by (with_reducible repeat (first | apply Kd.R_alloc | apply Kd.R_drewN | apply Kd.R_drew)); exact Kd.R_mono HO139.out (fun _ hk => trivial)⟩, ⟨by repeat (first | (with_reducible first | exact HB.out | apply below_alloc | apply pw_below_drewN | apply below_drew1 | refine below_set ?_ GE135.out) | exact HB.out)⟩⟩
                      · rw [if_neg c18] at H
                        exact absurd H (by simp)
                  · replace c11 := Bool.eq_false_iff.mpr c11
                    subst c11
                    have H1 : (span_Slice.l0 k2 x1_2 x2_2 x7_2 l0 (l0.length : Int) (wrap64 (x19_2 + 1))) = some r := by rw [if_neg (show ¬ (false = true) by decide)] at H; exact H
                    clear H
                    have H := H1
                    clear H1
                    have H' := Aside0.mk H
                    clear H
                    have p134 : 0 ≤ (x19_2 : Int) := of_decide_eq_true (by first | (with_reducible assumption) | assumption)
                    have q134 : x19_2 < (l0.length : Int) := of_decide_eq_true (by first | (with_reducible assumption) | assumption)
                    obtain ⟨ad134, e134, hx134_0, hx134_1⟩ := at_T53 HR0.out x19_2 p134 q134
                    cases e134
                    replace hx134_0 := (HB.out.cell (World.block_lt_of_cell? w _ hx134_0)).trans hx134_0
                    replace hx134_1 := (HB.out.cell (World.block_lt_of_cell? w _ hx134_1)).trans hx134_1
                    replace p134 := eq_true p134
                    replace q134 := eq_true q134
                    go_wp2_with (first | ((with_reducible refine gate_dst (N := 9) rfl ?_); refine box_event ?hg (N := 9) ?hd (cs := #[.int .i64 0, .int .i64 0]) (t := 53) ?hr ?_; (case hd => rfl); (case hg => rfl); (case hr => first | (go_simp; done) | (go_simp; rfl)); intro gb135 hg w33 hbox hb; have n0_ := Aside0.mk (Kd.R_below (Kd.R_elderB (by (with_reducible repeat (first | apply Kd.R_alloc | apply Kd.R_drewN | apply Kd.R_drew)); exact HO_7.out) gb135 (Nat.le_of_eq hg.symm)) hb); have n1_ := Aside0.mk (below_step (by repeat (first | (with_reducible first | exact HB.out | apply below_alloc | apply pw_below_drewN | apply below_drew1) | exact HB.out)) hb); have n2_ := Aside0.mk (hbox); have n3_ := Aside0.mk ((by rw [hg]; exact (below_size (by repeat (first | (with_reducible first | exact HB.out | apply below_alloc | apply pw_below_drewN | apply below_drew1) | exact HB.out))) : w.heap.size ≤ gb135)); have n4_ := Aside0.mk ((by rw [hg]; exact (below_size (by repeat (first | (with_reducible first | exact HB.out | apply below_alloc | apply pw_below_drewN | apply below_drew1) | exact HB.out))) : w.heap.size ≤ gb135)); clear HO_7; clear HB; have HO_7 := n0_; have HB := n1_; have BK135 := n2_; have GW135 := n3_; have GE135 := n4_; clear n0_ n1_ n2_ n3_ n4_; clear hb hbox hg; have hcz34_0 : w33.cell? ⟨gb135, 0, none⟩ = some (.int .i64 0) := (blk_cell BK135.out 0).trans rfl; have hcz34_1 : w33.cell? ⟨gb135, 1, none⟩ = some (.int .i64 0) := (blk_cell BK135.out 1).trans rfl; have hfz34_0 := blk_frozen BK135.out 0; have hfz34_1 := blk_frozen BK135.out 1) | ((with_reducible refine gate_callee (f := 80) rfl ?_); refine goesL_ (some 24) rfl rfl Try.func80 (by kernel_rfl) rfl #[.agg #[.int .i64 ((rd_T53 l0 x19_2).f0), .int .i64 ((rd_T53 l0 x19_2).f1)]] rfl (by (try simp only [List.map_toArray, List.map_cons, List.map_nil]); first | done | rfl | (simp only [List.length_drop, List.length_take]; rfl)) ?_; (with_reducible refine (span_good.calls ((rd_T53 l0 x19_2).f0) ((rd_T53 l0 x19_2).f1) false _ A10.out).mono ?_); rintro e w35 ⟨rfl, hb⟩; refine ⟨_, rfl, ?_⟩; have n0_ := Aside0.mk (Kd.R_below (by (with_reducible repeat (first | apply Kd.R_alloc | apply Kd.R_drewN | apply Kd.R_drew)); exact (Kd.R_mono (Kd.R_far (p := ⟨gb135, 1, none⟩) (Kd.R_far (p := ⟨gb135, 0, none⟩) (Kd.R_mono HO_7.out (fun k_ hk => (⟨hk, hk.2⟩ : _ ∧ k_ ≠ gb135))) (fun _ hk => hk.2) (.int .i64 ((rd_T53 l0 x19_2).f0))) (fun _ hk => hk.2) (.int .i64 ((rd_T53 l0 x19_2).f1))) (fun _ h_ => h_.1))) hb); have n1_ := Aside0.mk (blk_below (g := gb135) (o := .cells #[.int .i64 ((rd_T53 l0 x19_2).f0), .int .i64 ((rd_T53 l0 x19_2).f1)] 53 (0, 0)) (by (with_reducible repeat (first | refine blk_drewN ?_ _ | refine blk_drew ?_ | refine blk_alloc ?_ _)); refine blk_put (cs := #[.int .i64 ((rd_T53 l0 x19_2).f0), .int .i64 0]) ?_ 1 _ rfl; (with_reducible repeat (first | refine blk_drewN ?_ _ | refine blk_drew ?_ | refine blk_alloc ?_ _)); refine blk_put (cs := #[.int .i64 0, .int .i64 0]) ?_ 0 _ rfl; (with_reducible repeat (first | refine blk_drewN ?_ _ | refine blk_drew ?_ | refine blk_alloc ?_ _)); exact BK135.out) hb); have n2_ := Aside0.mk (below_step (by repeat (first | (with_reducible first | exact HB.out | apply below_alloc | apply pw_below_drewN | apply below_drew1 | refine below_set ?_ GE135.out) | exact HB.out)) hb); clear HO_7; clear BK135; clear HB; have HO_7 := n0_; have BK135 := n1_; have HB := n2_; clear n0_ n1_ n2_; (try clear hb); (try clear hb2); (try clear hk); (try clear hi)))
                    go_roundg k2
                    case measure => have := HJ3.out; have := HK2.out; omega
                    case rel => exact ⟨(x1_2), (x2_2), (x7_2), (wrap64 (x19_2 + 1)), (by first | rfl | (simp; done) | (simp [*]; done)), (by first | rfl | (simp; done) | (simp [*]; done)), (by first | rfl | (simp; done) | (simp [*]; done)), H', ⟨by have := HJ3.out; have := HK2.out; omega⟩, ⟨by (with_reducible repeat (first | apply Kd.R_alloc | apply Kd.R_drewN | apply Kd.R_drew)); exact Kd.R_mono HO_7.out (fun _ hk => trivial)⟩, ⟨by repeat (first | (with_reducible first | exact HB.out | apply below_alloc | apply pw_below_drewN | apply below_drew1 | refine below_set ?_ GE135.out) | exact HB.out)⟩⟩
                · rw [if_neg c9] at H
                  exact absurd H (by simp)
              · rw [if_neg c8] at H
                exact absurd H (by simp)
            · rw [if_neg c7] at H
              have c7b0 : decide (x19_2 < (l0.length : Int)) = false := decide_eq_false c7
              clear c7
              replace H := Option.bind_eq_some_iff.mp H
              obtain ⟨t131, A360, H⟩ := H
              replace H : (some t131) = some r := H
              have A36 := Aside0.mk A360
              clear A360
              obtain rfl := Option.some.inj H
              obtain ⟨Ao37, co37, eo37⟩ := Kd.R_slice HO_7.out
              subst eo37
              go_wp2_with (first | ((with_reducible refine gate_callee (f := 31) rfl ?_); refine goesL_ (some 56) rfl rfl Try.func31 (by kernel_rfl) rfl #[.slice Ao37 x7_2.length co37] rfl (by (try simp only [List.map_toArray, List.map_cons, List.map_nil]); first | done | rfl | (simp only [List.length_drop, List.length_take]; rfl)) ?_; (with_reducible refine (span_Glue.calls k2 _ _ x7_2 t131 _ ?side1 ?side2 A36.out).mono ?_); (case side1 => repeat (first | exact (Kd.R_reads' HO_7.out).2.2 | (with_reducible refine Kd.C_alloc ?_ _) | (with_reducible refine Kd.C_drewN ?_ _) | (with_reducible refine Kd.C_drew ?_))); (case side2 => exact (Kd.R_reads' HO_7.out).2.1); rintro e w38 ⟨v132, rfl, ho0, hb⟩; refine ⟨_, rfl, ?_⟩; have n0_ := Aside0.mk (Kd.R_elder' (by (with_reducible repeat (first | apply Kd.R_alloc | apply Kd.R_drewN | apply Kd.R_drew)); exact HO_7.out) (Kd.R_base ho0) hb); have n1_ := Aside0.mk (Kd.R_lower (Kd.R_new' ho0 (Kd.R_lt (by (with_reducible repeat (first | apply Kd.R_alloc | apply Kd.R_drewN | apply Kd.R_drew)); exact HO_7.out))) (below_size (by repeat (first | (with_reducible first | exact HB.out | apply below_alloc | apply pw_below_drewN | apply below_drew1) | exact HB.out)))); have n2_ := Aside0.mk (below_step (by repeat (first | (with_reducible first | exact HB.out | apply below_alloc | apply pw_below_drewN | apply below_drew1) | exact HB.out)) hb); clear HO_7; clear HB; have HO_7 := n0_; have HO133 := n1_; have HB := n2_; clear n0_ n1_ n2_; (try clear hb); (try clear hb2); (try clear hk); (try clear hi); (try clear ho0)))
              go_ret
              exact ⟨_, by first | rfl | (simp [errW_none, errW_some] <;> rfl) | (simp [*, errW_none, errW_some] <;> rfl), by (with_reducible repeat (first | apply Kd.R_alloc | apply Kd.R_drewN | apply Kd.R_drew)); exact Kd.R_mono HO133.out (fun _ hk => trivial), by repeat (first | (with_reducible first | exact HB.out | apply below_alloc | apply pw_below_drewN | apply below_drew1) | exact HB.out)⟩

/-! ### api_Span_89: function 89 -/
def api_Span_89.ren : Go.Shelf.Ren := ⟨fun | 6 => 89 | 15 => 78 | 14 => 133 | 28 => 128 | 29 => 79 | 20 => 166 | 21 => 167 | 22 => 168 | 23 => 169 | 24 => 170 | 25 => 171 | 26 => 172 | 27 => 173 | 46 => 182 | 47 => 151 | 48 => 152 | 49 => 183 | 50 => 184 | 57 => 187 | n => n, fun | 22 => 46 | 24 => 53 | 25 => 135 | 3 => 3 | 39 => 122 | 0 => 0 | 53 => 111 | 55 => 123 | 4 => 4 | 46 => 170 | 45 => 169 | 50 => 175 | 5 => 5 | 9 => 9 | 66 => 196 | 70 => 200 | 76 => 217 | 77 => 57 | n => n, fun n => n⟩
theorem api_Span_89.lay : Go.Proofs.SlLaysF0.n6 Try.prog api_Span_89.ren := { mixed := by kernel_rfl, f6 := ⟨Try.f89.name, by decide, Try.func89.trans (congrArg some (by kernel_rfl))⟩, f14 := ⟨Try.f133.name, by decide, Try.func133.trans (congrArg some (by kernel_rfl))⟩, f15 := Try.func78.trans (congrArg some (by kernel_rfl)), f20 := ⟨Try.f166.name, by decide, Try.func166.trans (congrArg some (by kernel_rfl))⟩, f21 := ⟨Try.f167.name, by decide, Try.func167.trans (congrArg some (by kernel_rfl))⟩, f22 := ⟨Try.f168.name, by decide, Try.func168.trans (congrArg some (by kernel_rfl))⟩, f23 := ⟨Try.f169.name, by decide, Try.func169.trans (congrArg some (by kernel_rfl))⟩, f24 := ⟨Try.f170.name, by decide, Try.func170.trans (congrArg some (by kernel_rfl))⟩, f25 := ⟨Try.f171.name, by decide, Try.func171.trans (congrArg some (by kernel_rfl))⟩, f26 := ⟨Try.f172.name, by decide, Try.func172.trans (congrArg some (by kernel_rfl))⟩, f27 := ⟨Try.f173.name, by decide, Try.func173.trans (congrArg some (by kernel_rfl))⟩, f28 := Try.func128.trans (congrArg some (by kernel_rfl)), f29 := Try.func79.trans (congrArg some (by kernel_rfl)), f46 := ⟨Try.f182.name, by decide, Try.func182.trans (congrArg some (by kernel_rfl))⟩, f47 := Try.func151.trans (congrArg some (by kernel_rfl)), f48 := Try.func152.trans (congrArg some (by kernel_rfl)), f49 := ⟨Try.f183.name, by decide, Try.func183.trans (congrArg some (by kernel_rfl))⟩, f50 := ⟨Try.f184.name, by decide, Try.func184.trans (congrArg some (by kernel_rfl))⟩, f57 := ⟨Try.f187.name, by decide, Try.func187.trans (congrArg some (by kernel_rfl))⟩, t0 := Try.underlying0, a0 := Try.isAgg0, z0 := Try.sizeOf0, v0 := Try.zeroValue0, t3 := Try.underlying3, a3 := Try.isAgg3, z3 := Try.sizeOf3, v3 := Try.zeroValue3, t4 := Try.underlying4, a4 := Try.isAgg4, z4 := Try.sizeOf4, v4 := Try.zeroValue4, t5 := Try.underlying5, a5 := Try.isAgg5, z5 := Try.sizeOf5, v5 := Try.zeroValue5, t9 := Try.underlying9, a9 := Try.isAgg9, z9 := Try.sizeOf9, v9 := Try.zeroValue9, t22 := Try.underlying46, a22 := Try.isAgg46, z22 := Try.sizeOf46, v22 := Try.zeroValue46, t25 := Try.underlying135, a25 := Try.isAgg135, z25 := Try.sizeOf135, v25 := Try.zeroValue135, t39 := Try.underlying122, a39 := Try.isAgg122, z39 := Try.sizeOf122, v39 := Try.zeroValue122, t45 := Try.underlying169, a45 := Try.isAgg169, z45 := Try.sizeOf169, v45 := Try.zeroValue169, t46 := Try.underlying170, a46 := Try.isAgg170, z46 := Try.sizeOf170, v46 := Try.zeroValue170, t50 := Try.underlying175, a50 := Try.isAgg175, z50 := Try.sizeOf175, v50 := Try.zeroValue175, t53 := Try.underlying111, a53 := Try.isAgg111, z53 := Try.sizeOf111, v53 := Try.zeroValue111, t55 := Try.underlying123, a55 := Try.isAgg123, z55 := Try.sizeOf123, v55 := Try.zeroValue123, t66 := Try.underlying196, a66 := Try.isAgg196, z66 := Try.sizeOf196, v66 := Try.zeroValue196, t70 := Try.underlying200, a70 := Try.isAgg200, z70 := Try.sizeOf200, v70 := Try.zeroValue200, t76 := Try.underlying217, a76 := Try.isAgg217, z76 := Try.sizeOf217, v76 := Try.zeroValue217, t77 := Try.underlying57, a77 := Try.isAgg57, z77 := Try.sizeOf57, v77 := Try.zeroValue57 }
/-- Does a span begin within an image? -/
def api_Span_89.ok (s : S53) : Bool := decide (0 ≤ s.f0) && decide (s.f0 ≤ 65536)
abbrev api_Span_89.T := { s : S53 // api_Span_89.ok s = true }
instance api_Span_89.inh : Inhabited api_Span_89.T := ⟨⟨⟨0, 0⟩, rfl⟩⟩
def api_Span_89.enc (s : S53) : List Value := [.int .i64 s.f0, .int .i64 s.f1]
def api_Span_89.encT (s : api_Span_89.T) : List Value := api_Span_89.enc s.1
def api_Span_89.cf (x y : api_Span_89.T) : Int := x.1.f0 - y.1.f0
def api_Span_89.D (l : List S53) : Array api_Span_89.T := (l.filterMap fun s => if h : api_Span_89.ok s = true then some ⟨s, h⟩ else none).toArray
/-- The spans in order of where they begin, as Go's library sorts them. -/
def api_Span_89.srt (l : List S53) : List S53 := (Go.Sort.pdq (Go.Proofs.ltOf api_Span_89.cf) (api_Span_89.D l) 0 (api_Span_89.D l).size (Go.Lib.bitLen (api_Span_89.D l).size) true true).toList.map (·.1)
def api_Span_89.f (l0 : List S53) (a1 : Nat) : Option (List S53) := if a1 = 90 then (if l0.all api_Span_89.ok = true then (if l0.length < 4611686018427387904 then (some (api_Span_89.srt l0)) else (none)) else (none)) else (none)
theorem api_Span_89.ok_iff (s : S53) : api_Span_89.ok s = true ↔ 0 ≤ s.f0 ∧ s.f0 ≤ 65536 := by unfold api_Span_89.ok; rw [Bool.and_eq_true, decide_eq_true_iff, decide_eq_true_iff]
theorem api_Span_89.D_list : ∀ l : List S53, l.all api_Span_89.ok = true → (api_Span_89.D l).toList.map (·.1) = l := by
  intro l
  unfold api_Span_89.D
  simp only
  induction l with
  | nil => intro _; rfl
  | cons s t ih =>
    intro h
    rw [List.all_cons, Bool.and_eq_true] at h
    rw [List.filterMap_cons]
    simp only [dif_pos h.1]
    rw [List.map_cons, ih h.2]
theorem api_Span_89.swo : Go.Sort.SWO (Go.Proofs.ltOf api_Span_89.cf) where
  irrefl x := by unfold Go.Proofs.ltOf api_Span_89.cf; simp
  trans x y z h1 h2 := by unfold Go.Proofs.ltOf api_Span_89.cf at *; simp at *; omega
  ntrans x y z h1 h2 := by unfold Go.Proofs.ltOf api_Span_89.cf at *; simp at *; omega
set_option maxHeartbeats 2000000 in
theorem api_Span_89.closure (x y : api_Span_89.T) (W : World) : Calls Try.prog 90 #[.agg #[.int .i64 x.1.f0, .int .i64 x.1.f1], .agg #[.int .i64 y.1.f0, .int .i64 y.1.f1]] W fun e w' => e = .returned (.int .i64 (api_Span_89.cf x y)) ∧ ∃ q os', w' = Go.Sort.grow (W.drewN q) os' := by
  obtain ⟨⟨x0, x1⟩, hx⟩ := x
  obtain ⟨⟨y0, y1⟩, hy⟩ := y
  have hx' := (api_Span_89.ok_iff _).1 hx
  have hy' := (api_Span_89.ok_iff _).1 hy
  show Calls Try.prog 90 #[.agg #[.int .i64 x0, .int .i64 x1], .agg #[.int .i64 y0, .int .i64 y1]] W fun e w' => e = .returned (.int .i64 (x0 - y0)) ∧ _
  obtain ⟨h1, h2⟩ : 0 ≤ x0 ∧ x0 ≤ 65536 := hx'
  obtain ⟨h3, h4⟩ : 0 ≤ y0 ∧ y0 ≤ 65536 := hy'
  clear hx hy
  go_enter Try.func90, Try.ntmps90
  go_wp2
  go_ret
  exact ⟨rfl, 0, _, by rw [Go.Sort.alloc_eq_grow, Go.Sort.alloc_eq_grow, Go.Sort.grow_grow]; rfl⟩
theorem api_Span_89.srt_sorts (l : List S53) (hl : l.all api_Span_89.ok = true) : (api_Span_89.srt l).Perm l ∧ (api_Span_89.srt l).Pairwise (fun x y => x.f0 ≤ y.f0) := by
  obtain ⟨⟨hs, _, hp⟩, hS⟩ := Go.Sort.pdq_sorts (Go.Proofs.ltOf api_Span_89.cf) api_Span_89.swo (api_Span_89.D l) 0 (api_Span_89.D l).size (Go.Lib.bitLen (api_Span_89.D l).size) true true (Nat.zero_le _) (Nat.le_refl _) (Or.inl rfl)
  unfold api_Span_89.srt
  generalize Go.Sort.pdq (Go.Proofs.ltOf api_Span_89.cf) (api_Span_89.D l) 0 (api_Span_89.D l).size (Go.Lib.bitLen (api_Span_89.D l).size) true true = d' at hs hp hS
  rw [Array.extract_size, ← hs, Array.extract_size] at hp
  refine ⟨?_, ?_⟩
  · have := hp.map (·.1)
    rwa [api_Span_89.D_list l hl] at this
  · rw [List.pairwise_map, List.pairwise_iff_getElem]
    intro i j hi hj hij
    have hi' : i < d'.size := by simpa using hi
    have hj' : j < d'.size := by simpa using hj
    have := hS i j (Nat.zero_le _) hij (by rw [← hs]; exact hj')
    unfold Go.Proofs.ltOf api_Span_89.cf at this
    simp [hi', hj'] at this
    simpa using this
theorem api_Span_89.srt_map (l : List S53) (hl : l.all api_Span_89.ok = true) : (api_Span_89.srt l).length = l.length := by
  have h := (Go.Sort.pdq_sorts (Go.Proofs.ltOf api_Span_89.cf) api_Span_89.swo (api_Span_89.D l) 0 (api_Span_89.D l).size (Go.Lib.bitLen (api_Span_89.D l).size) true true (Nat.zero_le _) (Nat.le_refl _) (Or.inl rfl)).1
  have h2 := congrArg List.length (api_Span_89.D_list l hl)
  rw [List.length_map] at h2
  unfold api_Span_89.srt
  rw [List.length_map, ← h2, Array.length_toList, Array.length_toList]
  exact h.1
set_option maxHeartbeats 8000000 in
set_option maxRecDepth 100000 in
theorem api_Span_89.calls (P0_ : Nat → Prop) (u9000_ : Value) (l0 : List S53) (a1 : Nat) (r : List S53) (w0 w : World) (hB : Below w0.heap.size w0 w) (ho0 : Kd.R k53 53 w w0.heap.size P0_ u9000_ l0) (h : api_Span_89.f l0 a1 = some r) :
    Calls Try.prog 89 #[u9000_, .func (.func a1) #[] #[]] w fun e w' => e = .returned (.tuple #[]) ∧ Kd.R k53 53 w' w0.heap.size (fun k_ => (P0_ k_ ∨ w.heap.size ≤ k_)) u9000_ r ∧ Below w0.heap.size w0 w' ∧ Kept w w' (fun k_ => P0_ k_) := by
  unfold api_Span_89.f at h
  by_cases b0 : a1 = 90
  · rw [if_pos b0] at h
    subst b0
    by_cases b1 : l0.all api_Span_89.ok = true
    · rw [if_pos b1] at h
      by_cases b2 : l0.length < 4611686018427387904
      · rw [if_pos b2] at h
        obtain rfl := Option.some.inj h
        clear h
        obtain ⟨A0, c0, rfl⟩ := Kd.R_slice ho0
        cases A0 with
        | none =>
          obtain rfl := R_noneK ho0
          have hcon := Go.Proofs.AnyF.slices_SortFunc_none api_Span_89.lay none c0 (.func (.func 90) #[] #[]) w
          change Calls Try.prog 89 _ _ _ at hcon
          refine hcon.mono ?_
          rintro e w' ⟨rfl, rfl⟩
          have e0 : api_Span_89.srt [] = [] := List.eq_nil_of_length_eq_zero (api_Span_89.srt_map [] b1)
          rw [e0]
          exact ⟨rfl, Kd.R_mono ho0 (fun k hk => .inl hk), hB, Kept.refl _ _⟩
        | some ad =>
          obtain ⟨g, rfl⟩ := Kd.R_head ho0
          have hDl := api_Span_89.D_list l0 b1
          have hDs : (api_Span_89.D l0).size = l0.length := by rw [← Array.length_toList, ← List.length_map (f := (·.1)), hDl]
          have hfm : ∀ l : List api_Span_89.T, l.flatMap api_Span_89.encT = (l.map (·.1)).flatMap api_Span_89.enc := fun l => by rw [List.flatMap_map]; rfl
          have hM : ∀ w b o x cs, (k53).M w b o x cs → cs = api_Span_89.enc x := fun w b o x cs hm => k53_openM hm
          have hM2 : ∀ w b o x, (k53).M w b o x (api_Span_89.enc x) := fun w b o x => k53_mkM w b o x
          have hD0 : (api_Span_89.D l0).toList.flatMap api_Span_89.encT = l0.flatMap api_Span_89.enc := by rw [hfm, hDl]
          have hH := R_holdsK hM (fun _ => rfl) (fun _ => rfl) (api_Span_89.D l0) hD0 ho0
          have eg : ∀ args w, (callFunc 90 args).run Try.prog w = .ok (.enter 90 args) w := Go.Proofs.enters_of Try.func90 (by kernel_rfl) rfl
          have hcon := Go.Proofs.AnyQ.slices_SortFunc_eq api_Span_89.lay 2 Try.isAgg53 Try.sizeOf53 api_Span_89.encT (fun _ => rfl) (fun x v hv => by simp [api_Span_89.encT, api_Span_89.enc] at hv; rcases hv with rfl | rfl <;> rfl) api_Span_89.cf api_Span_89.swo 90 #[] g 0 c0 (api_Span_89.D l0) w eg (fun _ _ _ _ x y => api_Span_89.closure x y _) hH (Kd.R_lt ho0 g (by simp [Value.ownBlock])) (by rw [hDs]; exact b2)
          change Calls Try.prog 89 _ _ _ at hcon
          rw [show (api_Span_89.D l0).size = l0.length from hDs] at hcon
          refine hcon.mono ?_
          rintro e w' ⟨rfl, q, os, hq⟩
          rw [← hDs] at hq
          obtain ⟨h1, h2⟩ := R_layK (ys := api_Span_89.srt l0) hM hM2 (fun _ => rfl) (fun _ => rfl) (api_Span_89.D l0) _ hD0 (by rw [hfm]; rfl) (api_Span_89.srt_map l0 b1) ho0 hq
          have hP : P0_ g := ho0.1 g (by simp [Value.ownBlock])
          refine ⟨rfl, Kd.R_mono h1 (fun k hk => .inl hk), hB.grown h2 (below_size hB) (fun k hk => by injection hk with hk; subst hk; exact Kd.R_base ho0 _ (by simp [Value.ownBlock])), h2.size, fun k hk hs => h2.block k hk (fun he => hs (by injection he with he; subst he; exact hP))⟩
      · rw [if_neg b2] at h
        exact absurd h (by simp)
    · rw [if_neg b1] at h
      exact absurd h (by simp)
  · rw [if_neg b0] at h
    exact absurd h (by simp)

end Go.Proofs.Ytnlmdmpfgdiipaa.PSpanCuts
