-- written by prn.py, a program of this session, over the kit's printer
import Derived.Test.YtchjgjpoephljaaPWordChainx0
import Derived.Test.YtchjgjpoephljaaPWordChainx1
import Derived.Test.YtchjgjpoephljaaPWordChainx3
namespace Go.Proofs.Ytchjgjpoephljaa.PWordChain
open Go.RowKit Go.Proofs.YtchjgjpoephljaaW.PrintWords Go.Proofs.YtchjgjpoephljaaW.PrintLast Go.Proofs.YtchjgjpoephljaaW.PrintMore Go.Proofs.YtchjgjpoephljaaW.PrintMine
attribute [local go_sem] max2_int min2_int max_two min_two max_three min_three max_four min_four   -- for this text's walks alone
set_option linter.unusedVariables false
set_option linter.unusedSimpArgs false

attribute [local go_sem high] eqA39
/-! ### word_docs: function 26 -/
def word_docs.l0 : Nat → List Int → List (S39) → Int → Int → Option (List Int)
  | 0, _, _, _, _ => none
  | k + 1, x3, x6, x7, x8 => if x8 < x7 then (if 0 ≤ x8 then (if x8 < (x6.length : Int) then (if (x3.length : Int) = 0 then (if x3.length < 17592186044416 then (word_docs.l0 k (x3 ++ [(rd_T39 x6 x8).f0]) x6 x7 (wrap64 (x8 + 1))) else (none)) else (if 0 ≤ (wrap64 ((x3.length : Int) - 1)) then (if (wrap64 ((x3.length : Int) - 1)) < (x3.length : Int) then (if (rd x3 (wrap64 ((x3.length : Int) - 1))) = ((rd_T39 x6 x8).f0) then (word_docs.l0 k x3 x6 x7 (wrap64 (x8 + 1))) else (if x3.length < 17592186044416 then (word_docs.l0 k (x3 ++ [(rd_T39 x6 x8).f0]) x6 x7 (wrap64 (x8 + 1))) else (none))) else (none)) else (none))) else (none)) else (none)) else (some x3)
def word_docs.f (k : Nat) (l0 : List (S39)) : Option (List Int) := word_docs.l0 k ([] : List Int) l0 (l0.length : Int) 0
theorem word_docs.mono_l : ∀ k, (∀ y0 y1 y2 y3, LeO (word_docs.l0 k y0 y1 y2 y3) (word_docs.l0 (k + 1) y0 y1 y2 y3))
  | 0 => fun _ _ _ _ r h => by simp [word_docs.l0] at h
  | k + 1 => by
    have ih0 := word_docs.mono_l k
    · intro y0 y1 y2 y3
      unfold word_docs.l0
      repeat' first
      | (with_reducible exact ih0 _ _ _ _)
      | (with_reducible exact LeO.refl _)
      | (with_reducible exact LeO.none _)
      | (with_reducible refine LeO.ite ?_ ?_)
      | (with_reducible refine LeO.bind ?_ (fun _ => ?_))
      | exact ih0 _ _ _ _
      | exact LeO.none _
      | refine LeO.ite ?_ ?_
      | refine LeO.bind ?_ (fun _ => ?_)
theorem word_docs.mono : ∀ a0 k, LeO (word_docs.f k a0) (word_docs.f (k + 1) a0) := by
  intro a0 k
  have ih0 := word_docs.mono_l k
  unfold word_docs.f
  repeat' first
      | (with_reducible exact ih0 _ _ _ _)
      | (with_reducible exact LeO.refl _)
      | (with_reducible exact LeO.none _)
      | (with_reducible refine LeO.ite ?_ ?_)
      | (with_reducible refine LeO.bind ?_ (fun _ => ?_))
      | exact ih0 _ _ _ _
      | exact LeO.none _
      | refine LeO.ite ?_ ?_
      | refine LeO.bind ?_ (fun _ => ?_)
set_option maxHeartbeats 8000000 in
set_option maxRecDepth 100000 in
theorem word_docs.calls (k : Nat) (A0 : Option Addr) (c0 : Nat) (l0 : List (S39)) (r : List Int) (w : World) (hr0 : Kd.C k39 w A0 l0.length l0) (hc0 : l0.length ≤ c0) (h : word_docs.f k l0 = some r) :
    Calls Try.prog 26 #[.slice A0 l0.length c0] w fun e w' => ∃ v0_ : Value, e = .returned (v0_) ∧ Kd.R (Kd.int .i64) 3 w' w.heap.size (fun _ => True) v0_ r ∧ Below w.heap.size w w' := by
  have hu39 := Try.underlying39
  have HR0 := Aside0.mk hr0
  have HC0 := Aside0.mk hc0
  clear hr0 hc0
  have HB := Aside0.mk (Below.refl w.heap.size w)
  have H : (word_docs.l0 k ([] : List Int) l0 (l0.length : Int) 0) = some r := h
  clear h
  have H' := Aside0.mk H
  clear H
  go_enter Try.func26, Try.ntmps26
  go_wp2
  repeat (go_quiet (fail); try go_wp2)
  go_loopg [3, 8] k (fun kq v3 v8 w' => ∃ (x3_1 : List Int) (x8_1 : Int), v8 = .int .i64 x8_1 ∧ Aside0 (word_docs.l0 kq x3_1 l0 (l0.length : Int) x8_1 = some r) ∧ Aside0 (kq ≤ k) ∧ Aside0 (Kd.R (Kd.int .i64) 3 w' w.heap.size (fun _ => True) v3 x3_1) ∧ Aside0 (Below w.heap.size w w'))
  case atStart => exact ⟨(([] : List Int)), (0), (by first | rfl | (simp; done) | (simp [*]; done)), H', ⟨Nat.le_refl _⟩, ⟨by first | exact Kd.R_nil _ _ _ _ _ | exact Kd.N_nil _ _ _ _ _ | exact Kd.V_nil _ _ _ _ _ | exact Kd.Q_nil _ _ _ _ _ | exact Kd.S_nil _ _ _ _ _⟩, ⟨by repeat (first | (with_reducible first | exact HB.out | apply below_alloc | apply pw_below_drewN | apply below_drew1) | exact HB.out)⟩⟩
  case round =>
    clear H'
    obtain ⟨x3_1, x8_1, rfl, HA, HK1, HO_3, HB⟩ := hrel
    cases gk with
    | zero => exact absurd HA.out (by simp [word_docs.l0])
    | succ k1 =>
      have H := HA.out
      clear HA
      simp only [word_docs.l0] at H
      by_cases c2 : x8_1 < (l0.length : Int)
      · rw [if_pos c2] at H
        have c2b0 : decide (x8_1 < (l0.length : Int)) = true := decide_eq_true c2
        clear c2
        by_cases c3 : 0 ≤ x8_1
        · rw [if_pos c3] at H
          have c3b0 : decide (0 ≤ x8_1) = true := decide_eq_true c3
          clear c3
          by_cases c4 : x8_1 < (l0.length : Int)
          · rw [if_pos c4] at H
            have c4b0 : decide (x8_1 < (l0.length : Int)) = true := decide_eq_true c4
            clear c4
            by_cases c5 : (x3_1.length : Int) = 0
            · rw [if_pos c5] at H
              have c5b0 : ((x3_1.length : Int) == 0) = true := beq_iff_eq.mpr c5
              have c5b1 : ((x3_1.length : Int) != 0) = false := bne_eq_false_iff_eq.mpr c5
              clear c5
              by_cases c6 : x3_1.length < 17592186044416
              · rw [if_pos c6] at H
                have LMc6 := Aside0.mk c6
                clear c6
                obtain ⟨y112, hy112⟩ : ∃ y_ : List Int, y_ = (x3_1 ++ [(rd_T39 l0 x8_1).f0]) := ⟨_, rfl⟩
                replace H : (word_docs.l0 k1 y112 l0 (l0.length : Int) (wrap64 (x8_1 + 1))) = some r := by first | (rw [hy112]; with_reducible exact H) | (have H2_ := (Option.bind_some _ _).symm.trans H; rw [hy112]; with_reducible exact H2_) | (have H2_ := (Option.bind_some _ _).symm.trans H; with_reducible exact H2_) | with_reducible exact H | (rw [hy112]; exact H) | exact H
                have Ny112 := Aside0.mk hy112
                clear hy112
                have H' := Aside0.mk H
                clear H
                have p110 : 0 ≤ (x8_1 : Int) := of_decide_eq_true (by first | (with_reducible assumption) | assumption)
                have q110 : x8_1 < (l0.length : Int) := of_decide_eq_true (by first | (with_reducible assumption) | assumption)
                obtain ⟨ad110, e110, hx110_0, hx110_1⟩ := at_T39 HR0.out x8_1 p110 q110
                cases e110
                replace hx110_0 := (HB.out.cell (World.block_lt_of_cell? w _ hx110_0)).trans hx110_0
                replace hx110_1 := (HB.out.cell (World.block_lt_of_cell? w _ hx110_1)).trans hx110_1
                replace p110 := eq_true p110
                replace q110 := eq_true q110
                go_wp2_with (first | ((with_reducible refine gate_dst (N := 5) rfl ?_); (try (refine gate_guard (by rfl) ?_; dsimp only)); refine box_event ?hg (N := 5) ?hd (cs := #[.int .i64 0, .int .i64 0]) (t := 39) ?hr ?_; (case hd => rfl); (case hg => rfl); (case hr => first | (go_simp; done) | (go_simp; rfl)); intro gb111 hg w7 hbox hb; have n0_ := Aside0.mk (Kd.R_below (by (with_reducible repeat (first | apply Kd.R_alloc | apply Kd.R_drewN | apply Kd.R_drew)); exact HO_3.out) hb); have n1_ := Aside0.mk (below_step (by repeat (first | (with_reducible first | exact HB.out | apply below_alloc | apply pw_below_drewN | apply below_drew1) | exact HB.out)) hb); have n2_ := Aside0.mk (hbox); have n3_ := Aside0.mk ((by rw [hg]; exact (below_size (by repeat (first | (with_reducible first | exact HB.out | apply below_alloc | apply pw_below_drewN | apply below_drew1) | exact HB.out))) : w.heap.size ≤ gb111)); have n4_ := Aside0.mk ((by rw [hg]; exact (below_size (by repeat (first | (with_reducible first | exact HB.out | apply below_alloc | apply pw_below_drewN | apply below_drew1) | exact HB.out))) : w.heap.size ≤ gb111)); clear HO_3; clear HB; have HO_3 := n0_; have HB := n1_; have BK111 := n2_; have GW111 := n3_; have GE111 := n4_; clear n0_ n1_ n2_ n3_ n4_; clear hb hbox hg; have hcz8_0 : w7.cell? ⟨gb111, 0, none⟩ = some (.int .i64 0) := (blk_cell BK111.out 0).trans rfl; have hcz8_1 : w7.cell? ⟨gb111, 1, none⟩ = some (.int .i64 0) := (blk_cell BK111.out 1).trans rfl; have hfz8_0 := blk_frozen BK111.out 0; have hfz8_1 := blk_frozen BK111.out 1; obtain ⟨Ao9, co9, eo9⟩ := Kd.R_slice HO_3.out; subst eo9) | ((with_reducible refine gate_builtin (b := .append) (xs := #[.tmp 26, .tmp 29]) rfl ?_); (try (refine gate_guard (by rfl) ?_; dsimp only)); at_builtin; refine Kd.R_append (Kd.int .i64) (w0 := w) w.heap.size rfl (.tmp 26) (.tmp 29) 23 3 (.int .i64 0) 8 rfl Try.underlying23 info3 rfl (by decide) (by omega) (.slice Ao9 x3_1.length co9) x3_1 ((rd_T39 l0 x8_1).f0) [.int .i64 ((rd_T39 l0 x8_1).f0)] (fun _ => True) (fun _ => False) rfl (by first | (go_simp; done) | (go_simp; rfl)) ?aP (fun _ hk => hk.elim) ?aF ?aO ?aB ?aS ?aL ?_; (case aP => exact rfl); (case aB => exact (by repeat (first | (with_reducible first | exact HB.out | apply below_alloc | apply pw_below_drewN | apply below_drew1 | refine below_set ?_ GE111.out) | exact HB.out))); (case aF => exact (fun _ _ => trivial)); (case aO => exact (by (with_reducible repeat (first | apply Kd.R_alloc | apply Kd.R_drewN | apply Kd.R_drew)); exact Kd.R_mono (Kd.R_far (p := ⟨gb111, 1, none⟩) (Kd.R_far (p := ⟨gb111, 0, none⟩) (Kd.R_types HO_3.out BK111.out (by decide)) (fun _ hk => hk.2) (.int .i64 ((rd_T39 l0 x8_1).f0))) (fun _ hk => hk.2) (.int .i64 ((rd_T39 l0 x8_1).f1))) (fun _ hk => trivial))); (case aS => exact (below_size (by repeat (first | (with_reducible first | exact HB.out | apply below_alloc | apply pw_below_drewN | apply below_drew1 | refine below_set ?_ GE111.out) | exact HB.out)))); (case aL => have := LMc6.out; omega); intro v113 w10 ho hb hg hat; rw [← Ny112.out] at ho; have n0_ := Aside0.mk (blk_grown (g := gb111) (o := .cells #[.int .i64 ((rd_T39 l0 x8_1).f0), .int .i64 ((rd_T39 l0 x8_1).f1)] 39 (0, 0)) (by (with_reducible repeat (first | refine blk_drewN ?_ _ | refine blk_drew ?_ | refine blk_alloc ?_ _)); refine blk_put (cs := #[.int .i64 ((rd_T39 l0 x8_1).f0), .int .i64 0]) ?_ 1 _ rfl; (with_reducible repeat (first | refine blk_drewN ?_ _ | refine blk_drew ?_ | refine blk_alloc ?_ _)); refine blk_put (cs := #[.int .i64 0, .int .i64 0]) ?_ 0 _ rfl; (with_reducible repeat (first | refine blk_drewN ?_ _ | refine blk_drew ?_ | refine blk_alloc ?_ _)); exact BK111.out) hg (Kd.R_ne HO_3.out BK111.out (by decide))); have n1_ := Aside0.mk (hb); have n2_ := Aside0.mk (ho); clear BK111; clear HB; clear HO_3; have BK111 := n0_; have HB := n1_; have HO114 := n2_; clear n0_ n1_ n2_; clear ho hb hg hat))
                repeat (go_quiet (first | ((with_reducible refine gate_dst (N := 5) rfl ?_); (try (refine gate_guard (by rfl) ?_; dsimp only)); refine box_event ?hg (N := 5) ?hd (cs := #[.int .i64 0, .int .i64 0]) (t := 39) ?hr ?_; (case hd => rfl); (case hg => rfl); (case hr => first | (go_simp; done) | (go_simp; rfl)); intro gb111 hg w7 hbox hb; have n0_ := Aside0.mk (Kd.R_below (by (with_reducible repeat (first | apply Kd.R_alloc | apply Kd.R_drewN | apply Kd.R_drew)); exact HO_3.out) hb); have n1_ := Aside0.mk (below_step (by repeat (first | (with_reducible first | exact HB.out | apply below_alloc | apply pw_below_drewN | apply below_drew1) | exact HB.out)) hb); have n2_ := Aside0.mk (hbox); have n3_ := Aside0.mk ((by rw [hg]; exact (below_size (by repeat (first | (with_reducible first | exact HB.out | apply below_alloc | apply pw_below_drewN | apply below_drew1) | exact HB.out))) : w.heap.size ≤ gb111)); have n4_ := Aside0.mk ((by rw [hg]; exact (below_size (by repeat (first | (with_reducible first | exact HB.out | apply below_alloc | apply pw_below_drewN | apply below_drew1) | exact HB.out))) : w.heap.size ≤ gb111)); clear HO_3; clear HB; have HO_3 := n0_; have HB := n1_; have BK111 := n2_; have GW111 := n3_; have GE111 := n4_; clear n0_ n1_ n2_ n3_ n4_; clear hb hbox hg; have hcz8_0 : w7.cell? ⟨gb111, 0, none⟩ = some (.int .i64 0) := (blk_cell BK111.out 0).trans rfl; have hcz8_1 : w7.cell? ⟨gb111, 1, none⟩ = some (.int .i64 0) := (blk_cell BK111.out 1).trans rfl; have hfz8_0 := blk_frozen BK111.out 0; have hfz8_1 := blk_frozen BK111.out 1; obtain ⟨Ao9, co9, eo9⟩ := Kd.R_slice HO_3.out; subst eo9) | ((with_reducible refine gate_builtin (b := .append) (xs := #[.tmp 26, .tmp 29]) rfl ?_); (try (refine gate_guard (by rfl) ?_; dsimp only)); at_builtin; refine Kd.R_append (Kd.int .i64) (w0 := w) w.heap.size rfl (.tmp 26) (.tmp 29) 23 3 (.int .i64 0) 8 rfl Try.underlying23 info3 rfl (by decide) (by omega) (.slice Ao9 x3_1.length co9) x3_1 ((rd_T39 l0 x8_1).f0) [.int .i64 ((rd_T39 l0 x8_1).f0)] (fun _ => True) (fun _ => False) rfl (by first | (go_simp; done) | (go_simp; rfl)) ?aP (fun _ hk => hk.elim) ?aF ?aO ?aB ?aS ?aL ?_; (case aP => exact rfl); (case aB => exact (by repeat (first | (with_reducible first | exact HB.out | apply below_alloc | apply pw_below_drewN | apply below_drew1 | refine below_set ?_ GE111.out) | exact HB.out))); (case aF => exact (fun _ _ => trivial)); (case aO => exact (by (with_reducible repeat (first | apply Kd.R_alloc | apply Kd.R_drewN | apply Kd.R_drew)); exact Kd.R_mono (Kd.R_far (p := ⟨gb111, 1, none⟩) (Kd.R_far (p := ⟨gb111, 0, none⟩) (Kd.R_types HO_3.out BK111.out (by decide)) (fun _ hk => hk.2) (.int .i64 ((rd_T39 l0 x8_1).f0))) (fun _ hk => hk.2) (.int .i64 ((rd_T39 l0 x8_1).f1))) (fun _ hk => trivial))); (case aS => exact (below_size (by repeat (first | (with_reducible first | exact HB.out | apply below_alloc | apply pw_below_drewN | apply below_drew1 | refine below_set ?_ GE111.out) | exact HB.out)))); (case aL => have := LMc6.out; omega); intro v113 w10 ho hb hg hat; rw [← Ny112.out] at ho; have n0_ := Aside0.mk (blk_grown (g := gb111) (o := .cells #[.int .i64 ((rd_T39 l0 x8_1).f0), .int .i64 ((rd_T39 l0 x8_1).f1)] 39 (0, 0)) (by (with_reducible repeat (first | refine blk_drewN ?_ _ | refine blk_drew ?_ | refine blk_alloc ?_ _)); refine blk_put (cs := #[.int .i64 ((rd_T39 l0 x8_1).f0), .int .i64 0]) ?_ 1 _ rfl; (with_reducible repeat (first | refine blk_drewN ?_ _ | refine blk_drew ?_ | refine blk_alloc ?_ _)); refine blk_put (cs := #[.int .i64 0, .int .i64 0]) ?_ 0 _ rfl; (with_reducible repeat (first | refine blk_drewN ?_ _ | refine blk_drew ?_ | refine blk_alloc ?_ _)); exact BK111.out) hg (Kd.R_ne HO_3.out BK111.out (by decide))); have n1_ := Aside0.mk (hb); have n2_ := Aside0.mk (ho); clear BK111; clear HB; clear HO_3; have BK111 := n0_; have HB := n1_; have HO114 := n2_; clear n0_ n1_ n2_; clear ho hb hg hat)); try go_wp2_with (first | ((with_reducible refine gate_dst (N := 5) rfl ?_); (try (refine gate_guard (by rfl) ?_; dsimp only)); refine box_event ?hg (N := 5) ?hd (cs := #[.int .i64 0, .int .i64 0]) (t := 39) ?hr ?_; (case hd => rfl); (case hg => rfl); (case hr => first | (go_simp; done) | (go_simp; rfl)); intro gb111 hg w7 hbox hb; have n0_ := Aside0.mk (Kd.R_below (by (with_reducible repeat (first | apply Kd.R_alloc | apply Kd.R_drewN | apply Kd.R_drew)); exact HO_3.out) hb); have n1_ := Aside0.mk (below_step (by repeat (first | (with_reducible first | exact HB.out | apply below_alloc | apply pw_below_drewN | apply below_drew1) | exact HB.out)) hb); have n2_ := Aside0.mk (hbox); have n3_ := Aside0.mk ((by rw [hg]; exact (below_size (by repeat (first | (with_reducible first | exact HB.out | apply below_alloc | apply pw_below_drewN | apply below_drew1) | exact HB.out))) : w.heap.size ≤ gb111)); have n4_ := Aside0.mk ((by rw [hg]; exact (below_size (by repeat (first | (with_reducible first | exact HB.out | apply below_alloc | apply pw_below_drewN | apply below_drew1) | exact HB.out))) : w.heap.size ≤ gb111)); clear HO_3; clear HB; have HO_3 := n0_; have HB := n1_; have BK111 := n2_; have GW111 := n3_; have GE111 := n4_; clear n0_ n1_ n2_ n3_ n4_; clear hb hbox hg; have hcz8_0 : w7.cell? ⟨gb111, 0, none⟩ = some (.int .i64 0) := (blk_cell BK111.out 0).trans rfl; have hcz8_1 : w7.cell? ⟨gb111, 1, none⟩ = some (.int .i64 0) := (blk_cell BK111.out 1).trans rfl; have hfz8_0 := blk_frozen BK111.out 0; have hfz8_1 := blk_frozen BK111.out 1; obtain ⟨Ao9, co9, eo9⟩ := Kd.R_slice HO_3.out; subst eo9) | ((with_reducible refine gate_builtin (b := .append) (xs := #[.tmp 26, .tmp 29]) rfl ?_); (try (refine gate_guard (by rfl) ?_; dsimp only)); at_builtin; refine Kd.R_append (Kd.int .i64) (w0 := w) w.heap.size rfl (.tmp 26) (.tmp 29) 23 3 (.int .i64 0) 8 rfl Try.underlying23 info3 rfl (by decide) (by omega) (.slice Ao9 x3_1.length co9) x3_1 ((rd_T39 l0 x8_1).f0) [.int .i64 ((rd_T39 l0 x8_1).f0)] (fun _ => True) (fun _ => False) rfl (by first | (go_simp; done) | (go_simp; rfl)) ?aP (fun _ hk => hk.elim) ?aF ?aO ?aB ?aS ?aL ?_; (case aP => exact rfl); (case aB => exact (by repeat (first | (with_reducible first | exact HB.out | apply below_alloc | apply pw_below_drewN | apply below_drew1 | refine below_set ?_ GE111.out) | exact HB.out))); (case aF => exact (fun _ _ => trivial)); (case aO => exact (by (with_reducible repeat (first | apply Kd.R_alloc | apply Kd.R_drewN | apply Kd.R_drew)); exact Kd.R_mono (Kd.R_far (p := ⟨gb111, 1, none⟩) (Kd.R_far (p := ⟨gb111, 0, none⟩) (Kd.R_types HO_3.out BK111.out (by decide)) (fun _ hk => hk.2) (.int .i64 ((rd_T39 l0 x8_1).f0))) (fun _ hk => hk.2) (.int .i64 ((rd_T39 l0 x8_1).f1))) (fun _ hk => trivial))); (case aS => exact (below_size (by repeat (first | (with_reducible first | exact HB.out | apply below_alloc | apply pw_below_drewN | apply below_drew1 | refine below_set ?_ GE111.out) | exact HB.out)))); (case aL => have := LMc6.out; omega); intro v113 w10 ho hb hg hat; rw [← Ny112.out] at ho; have n0_ := Aside0.mk (blk_grown (g := gb111) (o := .cells #[.int .i64 ((rd_T39 l0 x8_1).f0), .int .i64 ((rd_T39 l0 x8_1).f1)] 39 (0, 0)) (by (with_reducible repeat (first | refine blk_drewN ?_ _ | refine blk_drew ?_ | refine blk_alloc ?_ _)); refine blk_put (cs := #[.int .i64 ((rd_T39 l0 x8_1).f0), .int .i64 0]) ?_ 1 _ rfl; (with_reducible repeat (first | refine blk_drewN ?_ _ | refine blk_drew ?_ | refine blk_alloc ?_ _)); refine blk_put (cs := #[.int .i64 0, .int .i64 0]) ?_ 0 _ rfl; (with_reducible repeat (first | refine blk_drewN ?_ _ | refine blk_drew ?_ | refine blk_alloc ?_ _)); exact BK111.out) hg (Kd.R_ne HO_3.out BK111.out (by decide))); have n1_ := Aside0.mk (hb); have n2_ := Aside0.mk (ho); clear BK111; clear HB; clear HO_3; have BK111 := n0_; have HB := n1_; have HO114 := n2_; clear n0_ n1_ n2_; clear ho hb hg hat)))
                go_roundg k1
                case measure => have := HK1.out; omega
                case rel => exact ⟨(y112), (wrap64 (x8_1 + 1)), (by first | rfl | (simp; done) | (simp [*]; done)), H', ⟨by have := HK1.out; omega⟩, ⟨by (with_reducible repeat (first | apply Kd.R_alloc | apply Kd.R_drewN | apply Kd.R_drew)); exact HO114.out⟩, ⟨by repeat (first | (with_reducible first | exact HB.out | apply below_alloc | apply pw_below_drewN | apply below_drew1 | refine below_set ?_ GE111.out) | exact HB.out)⟩⟩
              · rw [if_neg c6] at H
                exact absurd H (by simp)
            · rw [if_neg c5] at H
              have c5b0 : ((x3_1.length : Int) == 0) = false := beq_eq_false_iff_ne.mpr c5
              have c5b1 : ((x3_1.length : Int) != 0) = true := bne_iff_ne.mpr c5
              have c5b2 : ¬ (x3_1 = []) := fun h_ => c5 (by rw [h_]; rfl)
              obtain ⟨ji11, hji11⟩ : ∃ j_ : Int, (wrap64 ((x3_1.length : Int) - 1)) = j_ := ⟨_, rfl⟩
              replace H : (if 0 ≤ (ji11) then (if (ji11) < (x3_1.length : Int) then (if (rd x3_1 (ji11)) = ((rd_T39 l0 x8_1).f0) then (word_docs.l0 k1 x3_1 l0 (l0.length : Int) (wrap64 (x8_1 + 1))) else (if x3_1.length < 17592186044416 then (word_docs.l0 k1 (x3_1 ++ [(rd_T39 l0 x8_1).f0]) l0 (l0.length : Int) (wrap64 (x8_1 + 1))) else (none))) else (none)) else (none)) = some r := by first | (rw [hji11] at H; exact H) | (simp only [hji11] at H ⊢; exact H)
              have hji11w : (IntKind.i64.wrap ((x3_1.length : Int) - 1)) = ji11 := (i64_w _).trans hji11
              by_cases c12 : 0 ≤ (ji11)
              · rw [if_pos c12] at H
                have c12b0 : decide (0 ≤ (ji11)) = true := decide_eq_true c12
                clear c12
                by_cases c13 : (ji11) < (x3_1.length : Int)
                · rw [if_pos c13] at H
                  have c13b0 : decide ((ji11) < (x3_1.length : Int)) = true := decide_eq_true c13
                  clear c13
                  by_cases c14 : (rd x3_1 (ji11)) = ((rd_T39 l0 x8_1).f0)
                  · rw [if_pos c14] at H
                    have c14b0 : ((rd x3_1 (ji11)) == ((rd_T39 l0 x8_1).f0)) = true := beq_iff_eq.mpr c14
                    have c14b1 : ((rd x3_1 (ji11)) != ((rd_T39 l0 x8_1).f0)) = false := bne_eq_false_iff_eq.mpr c14
                    clear c14
                    have H' := Aside0.mk H
                    clear H
                    have p110 : 0 ≤ (x8_1 : Int) := of_decide_eq_true (by first | (with_reducible assumption) | assumption)
                    have q110 : x8_1 < (l0.length : Int) := of_decide_eq_true (by first | (with_reducible assumption) | assumption)
                    obtain ⟨ad110, e110, hx110_0, hx110_1⟩ := at_T39 HR0.out x8_1 p110 q110
                    cases e110
                    replace hx110_0 := (HB.out.cell (World.block_lt_of_cell? w _ hx110_0)).trans hx110_0
                    replace hx110_1 := (HB.out.cell (World.block_lt_of_cell? w _ hx110_1)).trans hx110_1
                    replace p110 := eq_true p110
                    replace q110 := eq_true q110
                    go_wp2_with (first | ((with_reducible refine gate_dst (N := 5) rfl ?_); (try (refine gate_guard (by rfl) ?_; dsimp only)); refine box_event ?hg (N := 5) ?hd (cs := #[.int .i64 0, .int .i64 0]) (t := 39) ?hr ?_; (case hd => rfl); (case hg => rfl); (case hr => first | (go_simp; done) | (go_simp; rfl)); intro gb111 hg w15 hbox hb; have n0_ := Aside0.mk (Kd.R_below (by (with_reducible repeat (first | apply Kd.R_alloc | apply Kd.R_drewN | apply Kd.R_drew)); exact HO_3.out) hb); have n1_ := Aside0.mk (below_step (by repeat (first | (with_reducible first | exact HB.out | apply below_alloc | apply pw_below_drewN | apply below_drew1) | exact HB.out)) hb); have n2_ := Aside0.mk (hbox); have n3_ := Aside0.mk ((by rw [hg]; exact (below_size (by repeat (first | (with_reducible first | exact HB.out | apply below_alloc | apply pw_below_drewN | apply below_drew1) | exact HB.out))) : w.heap.size ≤ gb111)); have n4_ := Aside0.mk ((by rw [hg]; exact (below_size (by repeat (first | (with_reducible first | exact HB.out | apply below_alloc | apply pw_below_drewN | apply below_drew1) | exact HB.out))) : w.heap.size ≤ gb111)); clear HO_3; clear HB; have HO_3 := n0_; have HB := n1_; have BK111 := n2_; have GW111 := n3_; have GE111 := n4_; clear n0_ n1_ n2_ n3_ n4_; clear hb hbox hg; have hcz16_0 : w15.cell? ⟨gb111, 0, none⟩ = some (.int .i64 0) := (blk_cell BK111.out 0).trans rfl; have hcz16_1 : w15.cell? ⟨gb111, 1, none⟩ = some (.int .i64 0) := (blk_cell BK111.out 1).trans rfl; have hfz16_0 := blk_frozen BK111.out 0; have hfz16_1 := blk_frozen BK111.out 1; obtain ⟨Ao17, co17, eo17⟩ := Kd.R_slice HO_3.out; subst eo17; have p115 : 0 ≤ ((ji11) : Int) := of_decide_eq_true (by first | (with_reducible assumption) | assumption); have q115 : (ji11) < (x3_1.length : Int) := of_decide_eq_true (by first | (with_reducible assumption) | assumption); obtain ⟨ad115, e115, hx115_0⟩ := Kd.at_int (Kd.R_reads' HO_3.out).2.2 (ji11) p115 q115; cases e115; have hn115_0 : ad115.block ≠ gb111 := Kd.own_blk (Kd.R_ne HO_3.out BK111.out (by decide)); have hn115_1 : ad115.block ≠ gb111 := Kd.own_blk (Kd.R_ne HO_3.out BK111.out (by decide)); replace hx115_0 := (cell_far (p := ⟨gb111, 0, none⟩) (by first | (rw [add_block]; exact hn115_0) | (show (Addr.add _ _).block ≠ _; rw [add_block]; exact hn115_0) | exact hn115_0) (.int .i64 ((rd_T39 l0 x8_1).f0))).trans hx115_0; replace hx115_0 := (cell_far (p := ⟨gb111, 1, none⟩) (by first | (rw [add_block]; exact hn115_1) | (show (Addr.add _ _).block ≠ _; rw [add_block]; exact hn115_1) | exact hn115_1) (.int .i64 ((rd_T39 l0 x8_1).f1))).trans hx115_0; (try have hy115_0 := fun (n_ : Nat) => (show ((((w15.drewN n_).setCell ⟨gb111, 0, none⟩ (.int .i64 ((rd_T39 l0 x8_1).f0))).setCell ⟨gb111, 1, none⟩ (.int .i64 ((rd_T39 l0 x8_1).f1)))).cell? _ = some _ from hx115_0)); clear hn115_0; clear hn115_1; replace p115 := eq_true p115; replace q115 := eq_true q115))
                    repeat (go_quiet (first | ((with_reducible refine gate_dst (N := 5) rfl ?_); (try (refine gate_guard (by rfl) ?_; dsimp only)); refine box_event ?hg (N := 5) ?hd (cs := #[.int .i64 0, .int .i64 0]) (t := 39) ?hr ?_; (case hd => rfl); (case hg => rfl); (case hr => first | (go_simp; done) | (go_simp; rfl)); intro gb111 hg w15 hbox hb; have n0_ := Aside0.mk (Kd.R_below (by (with_reducible repeat (first | apply Kd.R_alloc | apply Kd.R_drewN | apply Kd.R_drew)); exact HO_3.out) hb); have n1_ := Aside0.mk (below_step (by repeat (first | (with_reducible first | exact HB.out | apply below_alloc | apply pw_below_drewN | apply below_drew1) | exact HB.out)) hb); have n2_ := Aside0.mk (hbox); have n3_ := Aside0.mk ((by rw [hg]; exact (below_size (by repeat (first | (with_reducible first | exact HB.out | apply below_alloc | apply pw_below_drewN | apply below_drew1) | exact HB.out))) : w.heap.size ≤ gb111)); have n4_ := Aside0.mk ((by rw [hg]; exact (below_size (by repeat (first | (with_reducible first | exact HB.out | apply below_alloc | apply pw_below_drewN | apply below_drew1) | exact HB.out))) : w.heap.size ≤ gb111)); clear HO_3; clear HB; have HO_3 := n0_; have HB := n1_; have BK111 := n2_; have GW111 := n3_; have GE111 := n4_; clear n0_ n1_ n2_ n3_ n4_; clear hb hbox hg; have hcz16_0 : w15.cell? ⟨gb111, 0, none⟩ = some (.int .i64 0) := (blk_cell BK111.out 0).trans rfl; have hcz16_1 : w15.cell? ⟨gb111, 1, none⟩ = some (.int .i64 0) := (blk_cell BK111.out 1).trans rfl; have hfz16_0 := blk_frozen BK111.out 0; have hfz16_1 := blk_frozen BK111.out 1; obtain ⟨Ao17, co17, eo17⟩ := Kd.R_slice HO_3.out; subst eo17; have p115 : 0 ≤ ((ji11) : Int) := of_decide_eq_true (by first | (with_reducible assumption) | assumption); have q115 : (ji11) < (x3_1.length : Int) := of_decide_eq_true (by first | (with_reducible assumption) | assumption); obtain ⟨ad115, e115, hx115_0⟩ := Kd.at_int (Kd.R_reads' HO_3.out).2.2 (ji11) p115 q115; cases e115; have hn115_0 : ad115.block ≠ gb111 := Kd.own_blk (Kd.R_ne HO_3.out BK111.out (by decide)); have hn115_1 : ad115.block ≠ gb111 := Kd.own_blk (Kd.R_ne HO_3.out BK111.out (by decide)); replace hx115_0 := (cell_far (p := ⟨gb111, 0, none⟩) (by first | (rw [add_block]; exact hn115_0) | (show (Addr.add _ _).block ≠ _; rw [add_block]; exact hn115_0) | exact hn115_0) (.int .i64 ((rd_T39 l0 x8_1).f0))).trans hx115_0; replace hx115_0 := (cell_far (p := ⟨gb111, 1, none⟩) (by first | (rw [add_block]; exact hn115_1) | (show (Addr.add _ _).block ≠ _; rw [add_block]; exact hn115_1) | exact hn115_1) (.int .i64 ((rd_T39 l0 x8_1).f1))).trans hx115_0; (try have hy115_0 := fun (n_ : Nat) => (show ((((w15.drewN n_).setCell ⟨gb111, 0, none⟩ (.int .i64 ((rd_T39 l0 x8_1).f0))).setCell ⟨gb111, 1, none⟩ (.int .i64 ((rd_T39 l0 x8_1).f1)))).cell? _ = some _ from hx115_0)); clear hn115_0; clear hn115_1; replace p115 := eq_true p115; replace q115 := eq_true q115)); try go_wp2_with (first | ((with_reducible refine gate_dst (N := 5) rfl ?_); (try (refine gate_guard (by rfl) ?_; dsimp only)); refine box_event ?hg (N := 5) ?hd (cs := #[.int .i64 0, .int .i64 0]) (t := 39) ?hr ?_; (case hd => rfl); (case hg => rfl); (case hr => first | (go_simp; done) | (go_simp; rfl)); intro gb111 hg w15 hbox hb; have n0_ := Aside0.mk (Kd.R_below (by (with_reducible repeat (first | apply Kd.R_alloc | apply Kd.R_drewN | apply Kd.R_drew)); exact HO_3.out) hb); have n1_ := Aside0.mk (below_step (by repeat (first | (with_reducible first | exact HB.out | apply below_alloc | apply pw_below_drewN | apply below_drew1) | exact HB.out)) hb); have n2_ := Aside0.mk (hbox); have n3_ := Aside0.mk ((by rw [hg]; exact (below_size (by repeat (first | (with_reducible first | exact HB.out | apply below_alloc | apply pw_below_drewN | apply below_drew1) | exact HB.out))) : w.heap.size ≤ gb111)); have n4_ := Aside0.mk ((by rw [hg]; exact (below_size (by repeat (first | (with_reducible first | exact HB.out | apply below_alloc | apply pw_below_drewN | apply below_drew1) | exact HB.out))) : w.heap.size ≤ gb111)); clear HO_3; clear HB; have HO_3 := n0_; have HB := n1_; have BK111 := n2_; have GW111 := n3_; have GE111 := n4_; clear n0_ n1_ n2_ n3_ n4_; clear hb hbox hg; have hcz16_0 : w15.cell? ⟨gb111, 0, none⟩ = some (.int .i64 0) := (blk_cell BK111.out 0).trans rfl; have hcz16_1 : w15.cell? ⟨gb111, 1, none⟩ = some (.int .i64 0) := (blk_cell BK111.out 1).trans rfl; have hfz16_0 := blk_frozen BK111.out 0; have hfz16_1 := blk_frozen BK111.out 1; obtain ⟨Ao17, co17, eo17⟩ := Kd.R_slice HO_3.out; subst eo17; have p115 : 0 ≤ ((ji11) : Int) := of_decide_eq_true (by first | (with_reducible assumption) | assumption); have q115 : (ji11) < (x3_1.length : Int) := of_decide_eq_true (by first | (with_reducible assumption) | assumption); obtain ⟨ad115, e115, hx115_0⟩ := Kd.at_int (Kd.R_reads' HO_3.out).2.2 (ji11) p115 q115; cases e115; have hn115_0 : ad115.block ≠ gb111 := Kd.own_blk (Kd.R_ne HO_3.out BK111.out (by decide)); have hn115_1 : ad115.block ≠ gb111 := Kd.own_blk (Kd.R_ne HO_3.out BK111.out (by decide)); replace hx115_0 := (cell_far (p := ⟨gb111, 0, none⟩) (by first | (rw [add_block]; exact hn115_0) | (show (Addr.add _ _).block ≠ _; rw [add_block]; exact hn115_0) | exact hn115_0) (.int .i64 ((rd_T39 l0 x8_1).f0))).trans hx115_0; replace hx115_0 := (cell_far (p := ⟨gb111, 1, none⟩) (by first | (rw [add_block]; exact hn115_1) | (show (Addr.add _ _).block ≠ _; rw [add_block]; exact hn115_1) | exact hn115_1) (.int .i64 ((rd_T39 l0 x8_1).f1))).trans hx115_0; (try have hy115_0 := fun (n_ : Nat) => (show ((((w15.drewN n_).setCell ⟨gb111, 0, none⟩ (.int .i64 ((rd_T39 l0 x8_1).f0))).setCell ⟨gb111, 1, none⟩ (.int .i64 ((rd_T39 l0 x8_1).f1)))).cell? _ = some _ from hx115_0)); clear hn115_0; clear hn115_1; replace p115 := eq_true p115; replace q115 := eq_true q115)))
                    go_roundg k1
                    case measure => have := HK1.out; omega
                    case rel => exact ⟨(x3_1), (wrap64 (x8_1 + 1)), (by first | rfl | (simp; done) | (simp [*]; done)), H', ⟨by have := HK1.out; omega⟩, ⟨by (with_reducible repeat (first | apply Kd.R_alloc | apply Kd.R_drewN | apply Kd.R_drew)); exact Kd.R_mono (Kd.R_far (p := ⟨gb111, 1, none⟩) (Kd.R_far (p := ⟨gb111, 0, none⟩) (Kd.R_types HO_3.out BK111.out (by decide)) (fun _ hk => hk.2) (.int .i64 ((rd_T39 l0 x8_1).f0))) (fun _ hk => hk.2) (.int .i64 ((rd_T39 l0 x8_1).f1))) (fun _ hk => trivial)⟩, ⟨by repeat (first | (with_reducible first | exact HB.out | apply below_alloc | apply pw_below_drewN | apply below_drew1 | refine below_set ?_ GE111.out) | exact HB.out)⟩⟩
                  · rw [if_neg c14] at H
                    have c14b0 : ((rd x3_1 (ji11)) == ((rd_T39 l0 x8_1).f0)) = false := beq_eq_false_iff_ne.mpr c14
                    have c14b1 : ((rd x3_1 (ji11)) != ((rd_T39 l0 x8_1).f0)) = true := bne_iff_ne.mpr c14
                    by_cases c18 : x3_1.length < 17592186044416
                    · rw [if_pos c18] at H
                      have LMc18 := Aside0.mk c18
                      clear c18
                      obtain ⟨y116, hy116⟩ : ∃ y_ : List Int, y_ = (x3_1 ++ [(rd_T39 l0 x8_1).f0]) := ⟨_, rfl⟩
                      replace H : (word_docs.l0 k1 y116 l0 (l0.length : Int) (wrap64 (x8_1 + 1))) = some r := by first | (rw [hy116]; with_reducible exact H) | (have H2_ := (Option.bind_some _ _).symm.trans H; rw [hy116]; with_reducible exact H2_) | (have H2_ := (Option.bind_some _ _).symm.trans H; with_reducible exact H2_) | with_reducible exact H | (rw [hy116]; exact H) | exact H
                      have Ny116 := Aside0.mk hy116
                      clear hy116
                      have H' := Aside0.mk H
                      clear H
                      have p110 : 0 ≤ (x8_1 : Int) := of_decide_eq_true (by first | (with_reducible assumption) | assumption)
                      have q110 : x8_1 < (l0.length : Int) := of_decide_eq_true (by first | (with_reducible assumption) | assumption)
                      obtain ⟨ad110, e110, hx110_0, hx110_1⟩ := at_T39 HR0.out x8_1 p110 q110
                      cases e110
                      replace hx110_0 := (HB.out.cell (World.block_lt_of_cell? w _ hx110_0)).trans hx110_0
                      replace hx110_1 := (HB.out.cell (World.block_lt_of_cell? w _ hx110_1)).trans hx110_1
                      replace p110 := eq_true p110
                      replace q110 := eq_true q110
                      go_wp2_with (first | ((with_reducible refine gate_dst (N := 5) rfl ?_); (try (refine gate_guard (by rfl) ?_; dsimp only)); refine box_event ?hg (N := 5) ?hd (cs := #[.int .i64 0, .int .i64 0]) (t := 39) ?hr ?_; (case hd => rfl); (case hg => rfl); (case hr => first | (go_simp; done) | (go_simp; rfl)); intro gb111 hg w19 hbox hb; have n0_ := Aside0.mk (Kd.R_below (by (with_reducible repeat (first | apply Kd.R_alloc | apply Kd.R_drewN | apply Kd.R_drew)); exact HO_3.out) hb); have n1_ := Aside0.mk (below_step (by repeat (first | (with_reducible first | exact HB.out | apply below_alloc | apply pw_below_drewN | apply below_drew1) | exact HB.out)) hb); have n2_ := Aside0.mk (hbox); have n3_ := Aside0.mk ((by rw [hg]; exact (below_size (by repeat (first | (with_reducible first | exact HB.out | apply below_alloc | apply pw_below_drewN | apply below_drew1) | exact HB.out))) : w.heap.size ≤ gb111)); have n4_ := Aside0.mk ((by rw [hg]; exact (below_size (by repeat (first | (with_reducible first | exact HB.out | apply below_alloc | apply pw_below_drewN | apply below_drew1) | exact HB.out))) : w.heap.size ≤ gb111)); clear HO_3; clear HB; have HO_3 := n0_; have HB := n1_; have BK111 := n2_; have GW111 := n3_; have GE111 := n4_; clear n0_ n1_ n2_ n3_ n4_; clear hb hbox hg; have hcz20_0 : w19.cell? ⟨gb111, 0, none⟩ = some (.int .i64 0) := (blk_cell BK111.out 0).trans rfl; have hcz20_1 : w19.cell? ⟨gb111, 1, none⟩ = some (.int .i64 0) := (blk_cell BK111.out 1).trans rfl; have hfz20_0 := blk_frozen BK111.out 0; have hfz20_1 := blk_frozen BK111.out 1; obtain ⟨Ao21, co21, eo21⟩ := Kd.R_slice HO_3.out; subst eo21; have p115 : 0 ≤ ((ji11) : Int) := of_decide_eq_true (by first | (with_reducible assumption) | assumption); have q115 : (ji11) < (x3_1.length : Int) := of_decide_eq_true (by first | (with_reducible assumption) | assumption); obtain ⟨ad115, e115, hx115_0⟩ := Kd.at_int (Kd.R_reads' HO_3.out).2.2 (ji11) p115 q115; cases e115; have hn115_0 : ad115.block ≠ gb111 := Kd.own_blk (Kd.R_ne HO_3.out BK111.out (by decide)); have hn115_1 : ad115.block ≠ gb111 := Kd.own_blk (Kd.R_ne HO_3.out BK111.out (by decide)); replace hx115_0 := (cell_far (p := ⟨gb111, 0, none⟩) (by first | (rw [add_block]; exact hn115_0) | (show (Addr.add _ _).block ≠ _; rw [add_block]; exact hn115_0) | exact hn115_0) (.int .i64 ((rd_T39 l0 x8_1).f0))).trans hx115_0; replace hx115_0 := (cell_far (p := ⟨gb111, 1, none⟩) (by first | (rw [add_block]; exact hn115_1) | (show (Addr.add _ _).block ≠ _; rw [add_block]; exact hn115_1) | exact hn115_1) (.int .i64 ((rd_T39 l0 x8_1).f1))).trans hx115_0; (try have hy115_0 := fun (n_ : Nat) => (show ((((w19.drewN n_).setCell ⟨gb111, 0, none⟩ (.int .i64 ((rd_T39 l0 x8_1).f0))).setCell ⟨gb111, 1, none⟩ (.int .i64 ((rd_T39 l0 x8_1).f1)))).cell? _ = some _ from hx115_0)); clear hn115_0; clear hn115_1; replace p115 := eq_true p115; replace q115 := eq_true q115) | ((with_reducible refine gate_builtin (b := .append) (xs := #[.tmp 26, .tmp 29]) rfl ?_); (try (refine gate_guard (by rfl) ?_; dsimp only)); at_builtin; refine Kd.R_append (Kd.int .i64) (w0 := w) w.heap.size rfl (.tmp 26) (.tmp 29) 23 3 (.int .i64 0) 8 rfl Try.underlying23 info3 rfl (by decide) (by omega) (.slice (some ad115) x3_1.length co21) x3_1 ((rd_T39 l0 x8_1).f0) [.int .i64 ((rd_T39 l0 x8_1).f0)] (fun _ => True) (fun _ => False) rfl (by first | (go_simp; done) | (go_simp; rfl)) ?aP (fun _ hk => hk.elim) ?aF ?aO ?aB ?aS ?aL ?_; (case aP => exact rfl); (case aB => exact (by repeat (first | (with_reducible first | exact HB.out | apply below_alloc | apply pw_below_drewN | apply below_drew1 | refine below_set ?_ GE111.out) | exact HB.out))); (case aF => exact (fun _ _ => trivial)); (case aO => exact (by (with_reducible repeat (first | apply Kd.R_alloc | apply Kd.R_drewN | apply Kd.R_drew)); exact Kd.R_mono (Kd.R_far (p := ⟨gb111, 1, none⟩) (Kd.R_far (p := ⟨gb111, 0, none⟩) (Kd.R_types HO_3.out BK111.out (by decide)) (fun _ hk => hk.2) (.int .i64 ((rd_T39 l0 x8_1).f0))) (fun _ hk => hk.2) (.int .i64 ((rd_T39 l0 x8_1).f1))) (fun _ hk => trivial))); (case aS => exact (below_size (by repeat (first | (with_reducible first | exact HB.out | apply below_alloc | apply pw_below_drewN | apply below_drew1 | refine below_set ?_ GE111.out) | exact HB.out)))); (case aL => have := LMc18.out; omega); intro v117 w22 ho hb hg hat; rw [← Ny116.out] at ho; have n0_ := Aside0.mk (blk_grown (g := gb111) (o := .cells #[.int .i64 ((rd_T39 l0 x8_1).f0), .int .i64 ((rd_T39 l0 x8_1).f1)] 39 (0, 0)) (by (with_reducible repeat (first | refine blk_drewN ?_ _ | refine blk_drew ?_ | refine blk_alloc ?_ _)); refine blk_put (cs := #[.int .i64 ((rd_T39 l0 x8_1).f0), .int .i64 0]) ?_ 1 _ rfl; (with_reducible repeat (first | refine blk_drewN ?_ _ | refine blk_drew ?_ | refine blk_alloc ?_ _)); refine blk_put (cs := #[.int .i64 0, .int .i64 0]) ?_ 0 _ rfl; (with_reducible repeat (first | refine blk_drewN ?_ _ | refine blk_drew ?_ | refine blk_alloc ?_ _)); exact BK111.out) hg (Kd.R_ne HO_3.out BK111.out (by decide))); have n1_ := Aside0.mk (hb); have n2_ := Aside0.mk (ho); clear BK111; clear HB; clear HO_3; have BK111 := n0_; have HB := n1_; have HO118 := n2_; clear n0_ n1_ n2_; clear ho hb hg hat))
                      repeat (go_quiet (first | ((with_reducible refine gate_dst (N := 5) rfl ?_); (try (refine gate_guard (by rfl) ?_; dsimp only)); refine box_event ?hg (N := 5) ?hd (cs := #[.int .i64 0, .int .i64 0]) (t := 39) ?hr ?_; (case hd => rfl); (case hg => rfl); (case hr => first | (go_simp; done) | (go_simp; rfl)); intro gb111 hg w19 hbox hb; have n0_ := Aside0.mk (Kd.R_below (by (with_reducible repeat (first | apply Kd.R_alloc | apply Kd.R_drewN | apply Kd.R_drew)); exact HO_3.out) hb); have n1_ := Aside0.mk (below_step (by repeat (first | (with_reducible first | exact HB.out | apply below_alloc | apply pw_below_drewN | apply below_drew1) | exact HB.out)) hb); have n2_ := Aside0.mk (hbox); have n3_ := Aside0.mk ((by rw [hg]; exact (below_size (by repeat (first | (with_reducible first | exact HB.out | apply below_alloc | apply pw_below_drewN | apply below_drew1) | exact HB.out))) : w.heap.size ≤ gb111)); have n4_ := Aside0.mk ((by rw [hg]; exact (below_size (by repeat (first | (with_reducible first | exact HB.out | apply below_alloc | apply pw_below_drewN | apply below_drew1) | exact HB.out))) : w.heap.size ≤ gb111)); clear HO_3; clear HB; have HO_3 := n0_; have HB := n1_; have BK111 := n2_; have GW111 := n3_; have GE111 := n4_; clear n0_ n1_ n2_ n3_ n4_; clear hb hbox hg; have hcz20_0 : w19.cell? ⟨gb111, 0, none⟩ = some (.int .i64 0) := (blk_cell BK111.out 0).trans rfl; have hcz20_1 : w19.cell? ⟨gb111, 1, none⟩ = some (.int .i64 0) := (blk_cell BK111.out 1).trans rfl; have hfz20_0 := blk_frozen BK111.out 0; have hfz20_1 := blk_frozen BK111.out 1; obtain ⟨Ao21, co21, eo21⟩ := Kd.R_slice HO_3.out; subst eo21; have p115 : 0 ≤ ((ji11) : Int) := of_decide_eq_true (by first | (with_reducible assumption) | assumption); have q115 : (ji11) < (x3_1.length : Int) := of_decide_eq_true (by first | (with_reducible assumption) | assumption); obtain ⟨ad115, e115, hx115_0⟩ := Kd.at_int (Kd.R_reads' HO_3.out).2.2 (ji11) p115 q115; cases e115; have hn115_0 : ad115.block ≠ gb111 := Kd.own_blk (Kd.R_ne HO_3.out BK111.out (by decide)); have hn115_1 : ad115.block ≠ gb111 := Kd.own_blk (Kd.R_ne HO_3.out BK111.out (by decide)); replace hx115_0 := (cell_far (p := ⟨gb111, 0, none⟩) (by first | (rw [add_block]; exact hn115_0) | (show (Addr.add _ _).block ≠ _; rw [add_block]; exact hn115_0) | exact hn115_0) (.int .i64 ((rd_T39 l0 x8_1).f0))).trans hx115_0; replace hx115_0 := (cell_far (p := ⟨gb111, 1, none⟩) (by first | (rw [add_block]; exact hn115_1) | (show (Addr.add _ _).block ≠ _; rw [add_block]; exact hn115_1) | exact hn115_1) (.int .i64 ((rd_T39 l0 x8_1).f1))).trans hx115_0; (try have hy115_0 := fun (n_ : Nat) => (show ((((w19.drewN n_).setCell ⟨gb111, 0, none⟩ (.int .i64 ((rd_T39 l0 x8_1).f0))).setCell ⟨gb111, 1, none⟩ (.int .i64 ((rd_T39 l0 x8_1).f1)))).cell? _ = some _ from hx115_0)); clear hn115_0; clear hn115_1; replace p115 := eq_true p115; replace q115 := eq_true q115) | ((with_reducible refine gate_builtin (b := .append) (xs := #[.tmp 26, .tmp 29]) rfl ?_); (try (refine gate_guard (by rfl) ?_; dsimp only)); at_builtin; refine Kd.R_append (Kd.int .i64) (w0 := w) w.heap.size rfl (.tmp 26) (.tmp 29) 23 3 (.int .i64 0) 8 rfl Try.underlying23 info3 rfl (by decide) (by omega) (.slice (some ad115) x3_1.length co21) x3_1 ((rd_T39 l0 x8_1).f0) [.int .i64 ((rd_T39 l0 x8_1).f0)] (fun _ => True) (fun _ => False) rfl (by first | (go_simp; done) | (go_simp; rfl)) ?aP (fun _ hk => hk.elim) ?aF ?aO ?aB ?aS ?aL ?_; (case aP => exact rfl); (case aB => exact (by repeat (first | (with_reducible first | exact HB.out | apply below_alloc | apply pw_below_drewN | apply below_drew1 | refine below_set ?_ GE111.out) | exact HB.out))); (case aF => exact (fun _ _ => trivial)); (case aO => exact (by (with_reducible repeat (first | apply Kd.R_alloc | apply Kd.R_drewN | apply Kd.R_drew)); exact Kd.R_mono (Kd.R_far (p := ⟨gb111, 1, none⟩) (Kd.R_far (p := ⟨gb111, 0, none⟩) (Kd.R_types HO_3.out BK111.out (by decide)) (fun _ hk => hk.2) (.int .i64 ((rd_T39 l0 x8_1).f0))) (fun _ hk => hk.2) (.int .i64 ((rd_T39 l0 x8_1).f1))) (fun _ hk => trivial))); (case aS => exact (below_size (by repeat (first | (with_reducible first | exact HB.out | apply below_alloc | apply pw_below_drewN | apply below_drew1 | refine below_set ?_ GE111.out) | exact HB.out)))); (case aL => have := LMc18.out; omega); intro v117 w22 ho hb hg hat; rw [← Ny116.out] at ho; have n0_ := Aside0.mk (blk_grown (g := gb111) (o := .cells #[.int .i64 ((rd_T39 l0 x8_1).f0), .int .i64 ((rd_T39 l0 x8_1).f1)] 39 (0, 0)) (by (with_reducible repeat (first | refine blk_drewN ?_ _ | refine blk_drew ?_ | refine blk_alloc ?_ _)); refine blk_put (cs := #[.int .i64 ((rd_T39 l0 x8_1).f0), .int .i64 0]) ?_ 1 _ rfl; (with_reducible repeat (first | refine blk_drewN ?_ _ | refine blk_drew ?_ | refine blk_alloc ?_ _)); refine blk_put (cs := #[.int .i64 0, .int .i64 0]) ?_ 0 _ rfl; (with_reducible repeat (first | refine blk_drewN ?_ _ | refine blk_drew ?_ | refine blk_alloc ?_ _)); exact BK111.out) hg (Kd.R_ne HO_3.out BK111.out (by decide))); have n1_ := Aside0.mk (hb); have n2_ := Aside0.mk (ho); clear BK111; clear HB; clear HO_3; have BK111 := n0_; have HB := n1_; have HO118 := n2_; clear n0_ n1_ n2_; clear ho hb hg hat)); try go_wp2_with (first | ((with_reducible refine gate_dst (N := 5) rfl ?_); (try (refine gate_guard (by rfl) ?_; dsimp only)); refine box_event ?hg (N := 5) ?hd (cs := #[.int .i64 0, .int .i64 0]) (t := 39) ?hr ?_; (case hd => rfl); (case hg => rfl); (case hr => first | (go_simp; done) | (go_simp; rfl)); intro gb111 hg w19 hbox hb; have n0_ := Aside0.mk (Kd.R_below (by (with_reducible repeat (first | apply Kd.R_alloc | apply Kd.R_drewN | apply Kd.R_drew)); exact HO_3.out) hb); have n1_ := Aside0.mk (below_step (by repeat (first | (with_reducible first | exact HB.out | apply below_alloc | apply pw_below_drewN | apply below_drew1) | exact HB.out)) hb); have n2_ := Aside0.mk (hbox); have n3_ := Aside0.mk ((by rw [hg]; exact (below_size (by repeat (first | (with_reducible first | exact HB.out | apply below_alloc | apply pw_below_drewN | apply below_drew1) | exact HB.out))) : w.heap.size ≤ gb111)); have n4_ := Aside0.mk ((by rw [hg]; exact (below_size (by repeat (first | (with_reducible first | exact HB.out | apply below_alloc | apply pw_below_drewN | apply below_drew1) | exact HB.out))) : w.heap.size ≤ gb111)); clear HO_3; clear HB; have HO_3 := n0_; have HB := n1_; have BK111 := n2_; have GW111 := n3_; have GE111 := n4_; clear n0_ n1_ n2_ n3_ n4_; clear hb hbox hg; have hcz20_0 : w19.cell? ⟨gb111, 0, none⟩ = some (.int .i64 0) := (blk_cell BK111.out 0).trans rfl; have hcz20_1 : w19.cell? ⟨gb111, 1, none⟩ = some (.int .i64 0) := (blk_cell BK111.out 1).trans rfl; have hfz20_0 := blk_frozen BK111.out 0; have hfz20_1 := blk_frozen BK111.out 1; obtain ⟨Ao21, co21, eo21⟩ := Kd.R_slice HO_3.out; subst eo21; have p115 : 0 ≤ ((ji11) : Int) := of_decide_eq_true (by first | (with_reducible assumption) | assumption); have q115 : (ji11) < (x3_1.length : Int) := of_decide_eq_true (by first | (with_reducible assumption) | assumption); obtain ⟨ad115, e115, hx115_0⟩ := Kd.at_int (Kd.R_reads' HO_3.out).2.2 (ji11) p115 q115; cases e115; have hn115_0 : ad115.block ≠ gb111 := Kd.own_blk (Kd.R_ne HO_3.out BK111.out (by decide)); have hn115_1 : ad115.block ≠ gb111 := Kd.own_blk (Kd.R_ne HO_3.out BK111.out (by decide)); replace hx115_0 := (cell_far (p := ⟨gb111, 0, none⟩) (by first | (rw [add_block]; exact hn115_0) | (show (Addr.add _ _).block ≠ _; rw [add_block]; exact hn115_0) | exact hn115_0) (.int .i64 ((rd_T39 l0 x8_1).f0))).trans hx115_0; replace hx115_0 := (cell_far (p := ⟨gb111, 1, none⟩) (by first | (rw [add_block]; exact hn115_1) | (show (Addr.add _ _).block ≠ _; rw [add_block]; exact hn115_1) | exact hn115_1) (.int .i64 ((rd_T39 l0 x8_1).f1))).trans hx115_0; (try have hy115_0 := fun (n_ : Nat) => (show ((((w19.drewN n_).setCell ⟨gb111, 0, none⟩ (.int .i64 ((rd_T39 l0 x8_1).f0))).setCell ⟨gb111, 1, none⟩ (.int .i64 ((rd_T39 l0 x8_1).f1)))).cell? _ = some _ from hx115_0)); clear hn115_0; clear hn115_1; replace p115 := eq_true p115; replace q115 := eq_true q115) | ((with_reducible refine gate_builtin (b := .append) (xs := #[.tmp 26, .tmp 29]) rfl ?_); (try (refine gate_guard (by rfl) ?_; dsimp only)); at_builtin; refine Kd.R_append (Kd.int .i64) (w0 := w) w.heap.size rfl (.tmp 26) (.tmp 29) 23 3 (.int .i64 0) 8 rfl Try.underlying23 info3 rfl (by decide) (by omega) (.slice (some ad115) x3_1.length co21) x3_1 ((rd_T39 l0 x8_1).f0) [.int .i64 ((rd_T39 l0 x8_1).f0)] (fun _ => True) (fun _ => False) rfl (by first | (go_simp; done) | (go_simp; rfl)) ?aP (fun _ hk => hk.elim) ?aF ?aO ?aB ?aS ?aL ?_; (case aP => exact rfl); (case aB => exact (by repeat (first | (with_reducible first | exact HB.out | apply below_alloc | apply pw_below_drewN | apply below_drew1 | refine below_set ?_ GE111.out) | exact HB.out))); (case aF => exact (fun _ _ => trivial)); (case aO => exact (by (with_reducible repeat (first | apply Kd.R_alloc | apply Kd.R_drewN | apply Kd.R_drew)); exact Kd.R_mono (Kd.R_far (p := ⟨gb111, 1, none⟩) (Kd.R_far (p := ⟨gb111, 0, none⟩) (Kd.R_types HO_3.out BK111.out (by decide)) (fun _ hk => hk.2) (.int .i64 ((rd_T39 l0 x8_1).f0))) (fun _ hk => hk.2) (.int .i64 ((rd_T39 l0 x8_1).f1))) (fun _ hk => trivial))); (case aS => exact (below_size (by repeat (first | (with_reducible first | exact HB.out | apply below_alloc | apply pw_below_drewN | apply below_drew1 | refine below_set ?_ GE111.out) | exact HB.out)))); (case aL => have := LMc18.out; omega); intro v117 w22 ho hb hg hat; rw [← Ny116.out] at ho; have n0_ := Aside0.mk (blk_grown (g := gb111) (o := .cells #[.int .i64 ((rd_T39 l0 x8_1).f0), .int .i64 ((rd_T39 l0 x8_1).f1)] 39 (0, 0)) (by (with_reducible repeat (first | refine blk_drewN ?_ _ | refine blk_drew ?_ | refine blk_alloc ?_ _)); refine blk_put (cs := #[.int .i64 ((rd_T39 l0 x8_1).f0), .int .i64 0]) ?_ 1 _ rfl; (with_reducible repeat (first | refine blk_drewN ?_ _ | refine blk_drew ?_ | refine blk_alloc ?_ _)); refine blk_put (cs := #[.int .i64 0, .int .i64 0]) ?_ 0 _ rfl; (with_reducible repeat (first | refine blk_drewN ?_ _ | refine blk_drew ?_ | refine blk_alloc ?_ _)); exact BK111.out) hg (Kd.R_ne HO_3.out BK111.out (by decide))); have n1_ := Aside0.mk (hb); have n2_ := Aside0.mk (ho); clear BK111; clear HB; clear HO_3; have BK111 := n0_; have HB := n1_; have HO118 := n2_; clear n0_ n1_ n2_; clear ho hb hg hat)))
                      go_roundg k1
                      case measure => have := HK1.out; omega
                      case rel => exact ⟨(y116), (wrap64 (x8_1 + 1)), (by first | rfl | (simp; done) | (simp [*]; done)), H', ⟨by have := HK1.out; omega⟩, ⟨by (with_reducible repeat (first | apply Kd.R_alloc | apply Kd.R_drewN | apply Kd.R_drew)); exact HO118.out⟩, ⟨by repeat (first | (with_reducible first | exact HB.out | apply below_alloc | apply pw_below_drewN | apply below_drew1 | refine below_set ?_ GE111.out) | exact HB.out)⟩⟩
                    · rw [if_neg c18] at H
                      exact absurd H (by simp)
                · rw [if_neg c13] at H
                  exact absurd H (by simp)
              · rw [if_neg c12] at H
                exact absurd H (by simp)
          · rw [if_neg c4] at H
            exact absurd H (by simp)
        · rw [if_neg c3] at H
          exact absurd H (by simp)
      · rw [if_neg c2] at H
        have c2b0 : decide (x8_1 < (l0.length : Int)) = false := decide_eq_false c2
        clear c2
        obtain rfl := Option.some.inj H
        go_wp2
        repeat (go_quiet (fail); try go_wp2)
        go_ret
        exact ⟨_, by first | rfl | (simp [errW_none, errW_some] <;> rfl) | (simp [*, errW_none, errW_some] <;> rfl), by (with_reducible repeat (first | apply Kd.R_alloc | apply Kd.R_drewN | apply Kd.R_drew)); exact HO_3.out, by repeat (first | (with_reducible first | exact HB.out | apply below_alloc | apply pw_below_drewN | apply below_drew1) | exact HB.out)⟩

/-! ### word_Index_All: function 11 -/
def bsren : Go.Shelf.Ren := ⟨fun | 49 => 29 | 59 => 37 | 60 => 38 | 68 => 41 | n => n, fun | 22 => 23 | 23 => 3 | 51 => 72 | n => n, fun n => n⟩
theorem bslay : Go.Proofs.SlLaysN.n49 Try.prog bsren := { mixed := by kernel_rfl, f49 := ⟨Try.f29.name, by decide, Try.func29.trans (congrArg some (by kernel_rfl))⟩, f59 := ⟨Try.f37.name, by decide, Try.func37.trans (congrArg some (by kernel_rfl))⟩, f60 := ⟨Try.f38.name, by decide, Try.func38.trans (congrArg some (by kernel_rfl))⟩, f68 := ⟨Try.f41.name, by decide, Try.func41.trans (congrArg some (by kernel_rfl))⟩, t0 := Try.underlying0, a0 := Try.isAgg0, z0 := Try.sizeOf0, v0 := Try.zeroValue0, t3 := Try.underlying3, a3 := Try.isAgg3, z3 := Try.sizeOf3, v3 := Try.zeroValue3, t4 := Try.underlying4, a4 := Try.isAgg4, z4 := Try.sizeOf4, v4 := Try.zeroValue4, t22 := Try.underlying23, a22 := Try.isAgg23, z22 := Try.sizeOf23, v22 := Try.zeroValue23, t23 := Try.underlying3, a23 := Try.isAgg3, z23 := Try.sizeOf3, v23 := Try.zeroValue3, t51 := Try.underlying72, a51 := Try.isAgg72, z51 := Try.sizeOf72, v51 := Try.zeroValue72 }
def delren : Go.Shelf.Ren := ⟨fun | 6 => 36 | 10 => 27 | n => n, fun | 22 => 23 | 23 => 3 | 25 => 65 | n => n, fun n => n⟩
theorem dellay : Go.Proofs.SlLaysH.n10 Try.prog delren := { mixed := by kernel_rfl, f6 := ⟨Try.f36.name, by decide, Try.func36.trans (congrArg some (by kernel_rfl))⟩, f10 := ⟨Try.f27.name, by decide, Try.func27.trans (congrArg some (by kernel_rfl))⟩, t0 := Try.underlying0, a0 := Try.isAgg0, z0 := Try.sizeOf0, v0 := Try.zeroValue0, t3 := Try.underlying3, a3 := Try.isAgg3, z3 := Try.sizeOf3, v3 := Try.zeroValue3, t4 := Try.underlying4, a4 := Try.isAgg4, z4 := Try.sizeOf4, v4 := Try.zeroValue4, t22 := Try.underlying23, a22 := Try.isAgg23, z22 := Try.sizeOf23, v22 := Try.zeroValue23, a23 := Try.isAgg3, z23 := Try.sizeOf3, t25 := Try.underlying65, a25 := Try.isAgg65, z25 := Try.sizeOf65, v25 := Try.zeroValue65 }
/-- How a sorted slice of ints lies that is searched. -/
def LiesI (W : World) (g : Nat) (A : Option Addr) (c : Nat) (l : List Int) : Prop := (A = none ∧ l = []) ∨ ∃ b, b ≠ g ∧ A = some ⟨b, 0, none⟩ ∧ ∀ j, j < l.length → W.cell? ⟨b, 0 + j, none⟩ = some (.int .i64 (l.getD j 0))
set_option maxHeartbeats 4000000 in
set_option maxRecDepth 100000 in
theorem bs_none (x : Int) (c : Nat) (W : World) : Calls Try.prog 29 #[.slice none 0 c, .int .i64 x] W fun e w' => e = .returned (.tuple #[.int .i64 0, .bool false]) ∧ ∃ q, w' = W.drewN q := by
  go_enter Try.func29, Try.ntmps29
  go_wp2
  go_loopg [7, 8] 0 (fun gg s7 s8 wr => s7 = .int .i64 0 ∧ s8 = .int .i64 0 ∧ wr = W)
  case atStart => exact ⟨rfl, rfl, rfl⟩
  case round =>
    obtain ⟨rfl, rfl, rfl⟩ := hrel
    go_wp2
    go_ret2
    exact ⟨rfl, 0, rfl⟩
theorem bs_ints (x : Int) (g : Nat) (A : Option Addr) (c : Nat) (l : List Int) (W : World) (hA : LiesI W g A c l) (hs : l.Pairwise (· ≤ ·)) (hl : l.length ≤ 100000000) :
    Calls Try.prog 29 #[.slice A l.length c, .int .i64 x] W fun e w' => ∃ i, e = .returned (.tuple #[i, .bool (l.contains x)]) ∧ ∃ q, w' = W.drewN q := by
  rcases hA with ⟨rfl, rfl⟩ | ⟨b, -, rfl, hc⟩
  · exact (bs_none x c W).mono fun e w' ⟨h1, h2⟩ => ⟨_, h1, h2⟩
  · have h := AnyG.slices_BinarySearch_int bslay b 0 l.length c l x W (Nat.le_refl _) (by omega) hc (by rw [List.take_length]; exact hs)
    rw [List.take_length] at h
    exact h.mono fun e w' ⟨h1, h2⟩ => ⟨_, h1, h2⟩
set_option maxHeartbeats 4000000 in
set_option maxRecDepth 100000 in
theorem acl (x : Int) (gb g : Nat) (A : Option Addr) (c : Nat) (l : List Int) (W : World) (hx : W.cell? ⟨gb, 0, none⟩ = some (.slice A l.length c)) (hA : LiesI W g A c l) (hs : l.Pairwise (· ≤ ·)) (hl : l.length ≤ 100000000) :
    FnGives Try.prog 28 #[.pointer (some ⟨gb, 0, none⟩)] #[.int .i64 x] (.bool (!l.contains x)) W := by
  show Calls Try.prog 28 #[.int .i64 x, .pointer (some ⟨gb, 0, none⟩)] W _
  have HC := Aside0.mk (bs_ints x g A c l W hA hs hl)
  clear hA hs hl
  generalize l.length = n at *
  generalize l.contains x = b at *
  go_enter Try.func28, Try.ntmps28
  go_wp2_with (go_at_call 29; refine HC.out.mono ?_; rintro e w' ⟨i, rfl, q, rfl⟩)
  go_ret
  exact ⟨rfl, q, rfl⟩
theorem LiesI.below {W W' : World} {g : Nat} {A : Option Addr} {c : Nat} {l : List Int} (h : LiesI W g A c l) (hb : Below W.heap.size W W') : LiesI W' g A c l := by
  rcases h with h | ⟨b, h1, h2, h3⟩
  · exact .inl h
  · exact .inr ⟨b, h1, h2, fun j hj => (hb.cell (World.block_lt_of_cell? W _ (h3 j hj))).trans (h3 j hj)⟩
theorem LiesI.of {W : World} {g base n c : Nat} {ok : Nat → Prop} {A : Option Addr} {l : List Int} (h : (Kd.int .i64).R 3 W base ok (.slice A n c) l) (hg : g < base) : LiesI W g A c l := by
  have HO' : (Kd.scalar (Value.int .i64) (fun _ => rfl)).R 3 W base ok (.slice A n c) l := h
  have hb := Kd.R_base h
  obtain ⟨hn, _, hC⟩ := Kd.R_reads' h
  rcases R_cases_ HO' with ⟨e1, e2⟩ | ⟨b, c2, e1⟩
  · injection e1 with e1
    exact .inl ⟨e1, e2⟩
  · injection e1 with e1 _ e3
    subst e1
    have hb2 := hb b rfl
    refine .inr ⟨b, by omega, rfl, fun j hj => ?_⟩
    obtain ⟨ad, e, hc⟩ := Kd.at_int hC (j : Int) (by omega) (by omega)
    obtain rfl := Option.some.inj e
    rw [Int.toNat_natCast, add_at] at hc
    rw [hc]
    simp [rd]
theorem delF {g n c base gb cA : Nat} {ok : Nat → Prop} {xs l : List Int} {A : Option Addr} {w : World} (HO : (Kd.int .i64).R 3 w base ok (.slice (some ⟨g, 0, none⟩) n c) xs) (hx : w.cell? ⟨gb, 0, none⟩ = some (.slice A l.length cA)) (hA : LiesI w g A cA l) (hgb : gb ≠ g) (hs : l.Pairwise (· ≤ ·)) (hl : l.length ≤ 100000000) (hxs : xs.length ≤ 100000000) :
    Calls Try.prog 27 #[.slice (some ⟨g, 0, none⟩) n c, .func (.func 28) #[] #[.pointer (some ⟨gb, 0, none⟩)]] w fun e w' => e = .returned (.slice (some ⟨g, 0, none⟩) (xs.filter fun d => l.contains d).length c) ∧ (Kd.int .i64).R 3 w' base ok (.slice (some ⟨g, 0, none⟩) (xs.filter fun d => l.contains d).length c) (xs.filter fun d => l.contains d) ∧ w.grownBy w' (some g) := by
  have HO' : (Kd.scalar (Value.int .i64) (fun _ => rfl)).R 3 w base ok (.slice (some ⟨g, 0, none⟩) n c) xs := HO
  obtain ⟨hn, hnc, _⟩ := Kd.R_reads' HO
  subst hn
  have eg : ∀ args w, (callFunc 28 args).run Try.prog w = .ok (.enter 28 args) w := enters_of Try.func28 (by kernel_rfl) rfl
  have hcon := AnyE.slices_DeleteFunc dellay (Value.int .i64) (fun _ => rfl) (fun d => !l.contains d) 28 #[.pointer (some ⟨gb, 0, none⟩)] eg 0 Try.zeroValue3 g 0 c xs.toArray w
    (fun W x hb => acl x gb g A cA l W ((hb.cell (World.block_lt_of_cell? w _ hx)).trans hx) (hA.below hb) hs hl)
    (fun m os dk x _ => acl x gb g A cA l _ (cell_sw _ hgb hx) (by
      rcases hA with h | ⟨b, h1, h2, h3⟩
      · exact .inl h
      · exact .inr ⟨b, h1, h2, fun j hj => cell_sw _ h1 (h3 j hj)⟩) hs hl) (R_holds_ HO') (by simp; omega) (by simpa using hnc)
  have hf : (xs.filter fun d => !(!l.contains d)) = xs.filter fun d => l.contains d := List.filter_congr (fun x _ => Bool.not_not _)
  rw [show xs.toArray.toList = xs from rfl, hf] at hcon
  have hcon' : Calls Try.prog 27 #[.slice (some ⟨g, 0, none⟩) xs.length c, .func (.func 28) #[] #[.pointer (some ⟨gb, 0, none⟩)]] w _ := hcon
  refine hcon'.mono ?_
  rintro e w' ⟨rfl, q, hW⟩
  have hle : (xs.filter fun d => l.contains d).length ≤ xs.length := List.length_filter_le _ _
  obtain ⟨r1, r2⟩ := R_lay HO' (by rw [List.length_replicate]; simp only [List.size_toArray]; omega) hW
  exact ⟨rfl, r1, r2⟩
set_option maxHeartbeats 4000000 in
set_option maxRecDepth 100000 in
theorem del_none (f : Value) (w : World) : Calls Try.prog 27 #[.slice none 0 0, f] w fun e w' => e = .returned (.slice none 0 0) ∧ Below w.heap.size w w' := by
  have hi : ∀ w, Calls Try.prog 36 #[.slice none 0 0, f] w fun e w' => e = .returned (.int .i64 (-1)) ∧ w' = w := fun w => by
    go_enter Try.func36, Try.ntmps36
    go_wp2
    go_loopg [8] 0 (fun gg s8 wr => s8 = .int .i64 0 ∧ wr = w)
    case atStart => exact ⟨rfl, rfl⟩
    case round =>
      obtain ⟨rfl, rfl⟩ := hrel
      go_wp2
      go_ret
      exact ⟨rfl, rfl⟩
  have HI := Aside0.mk hi
  clear hi
  go_enter Try.func27, Try.ntmps27
  go_wp2_with (go_at_call 36; refine (HI.out _).mono ?_; rintro e w' ⟨rfl, rfl⟩)
  go_ret
  exact ⟨rfl, Below.refl _ _⟩
def allL (D : ByteArray → List Int) (ws : List ByteArray) : List Int := ws.tail.foldl (fun out s => out.filter fun d => (D s).contains d) (D (ws.getD 0 ByteArray.empty))
def allK (D : ByteArray → List Int) (ws : List ByteArray) (k : Nat) : List Int := ((ws.drop 1).take k).foldl (fun out s => out.filter fun d => (D s).contains d) (D (ws.getD 0 ByteArray.empty))
theorem allK_succ (D : ByteArray → List Int) (ws : List ByteArray) (k : Nat) (h : k < (ws.drop 1).length) : allK D ws (k + 1) = (allK D ws k).filter fun d => (D (ws.drop 1)[k]).contains d := by
  unfold allK
  rw [List.take_add_one, List.getElem?_eq_getElem h, List.foldl_append]
  rfl
theorem allK_len (D : ByteArray → List Int) (ws : List ByteArray) : ∀ k : Nat, (allK D ws k).length ≤ (D (ws.getD 0 ByteArray.empty)).length
  | 0 => Nat.le_refl _
  | k + 1 => by
    have ih := allK_len D ws k
    by_cases h : k < (ws.drop 1).length
    · rw [allK_succ D ws k h]
      exact Nat.le_trans (List.length_filter_le _ _) ih
    · have e : allK D ws (k + 1) = allK D ws k := by
        unfold allK
        rw [List.take_of_length_le (by omega), List.take_of_length_le (by omega)]
      rw [e]
      exact ih
theorem allK_all (D : ByteArray → List Int) (ws : List ByteArray) : allK D ws (ws.drop 1).length = allL D ws := by
  unfold allK allL
  rw [List.take_length, List.drop_one]
set_option maxHeartbeats 4000000 in
set_option maxRecDepth 100000 in
theorem word_Index_All.calls (k m0 gx : Nat) (P : ByteArray → List S39) (Z : List Int) (N : Nat) (A1 : Option Addr) (c1 : Nat) (ws : List ByteArray) (D : ByteArray → List Int) (w : World) (hI : IsIdx m0 w gx P Z N) (hr : Kd.C Kd.string w A1 ws.length ws) (hc : ws.length ≤ c1) (h1 : 1 ≤ ws.length) (h8 : ws.length ≤ 8) (hs : ∀ s ∈ ws, s.size ≤ maxLen)
    (hD : ∀ s ∈ ws, word_docs.f k (P s) = some (D s) ∧ (D s).Pairwise (· ≤ ·) ∧ (D s).length ≤ 100000000) :
    Calls Try.prog 11 #[.pointer (some ⟨gx, 0, none⟩), .slice A1 ws.length c1] w fun e w' => ∃ v : Value, e = .returned (.tuple #[v, .int .i64 0]) ∧ Kd.R (Kd.int .i64) 3 w' w.heap.size (fun _ => True) v (allL D ws) ∧ Below w.heap.size w w' := by
  have HR := Aside0.mk hr
  have HC := Aside0.mk hc
  have HK0 : Aside0 (word_check.f ws = some 0) := ⟨by unfold word_check.f; rw [if_neg (by omega), if_neg (by omega)]⟩
  obtain ⟨i9, hi9, _, hsz9, _⟩ := info_parts info9
  have hc1 := cut_from (P := Try.prog) 31 9 .i64 Try.underlying31 hi9 1 hsz9 A1 ws.length c1 (1 : Int) (by omega) (by omega)
  have hdr := Kd.C_drop (c := c1) hr h1 hc
  obtain ⟨AT, hAT⟩ : ∃ AT, (if c1 = (1 : Int).toNat then A1 else A1.map (·.add ((1 : Int).toNat * 1))) = AT := ⟨_, rfl⟩
  rw [hAT] at hc1
  rw [show (if c1 = 1 then A1 else A1.map (·.add (1 * Kd.string.sz))) = AT from hAT] at hdr
  obtain ⟨b, x0, hrow⟩ := hI.row
  have hrowS : ∀ s ∈ ws, ∃ A c, (∀ w', Below w.heap.size w w' → (Instr.lookup 55 (.map (some b)) (.string s) false).run Try.prog w' = .ok (.slice A (P s).length c) w') ∧ Kd.C k39 w A (P s).length (P s) ∧ (P s).length ≤ c := fun s h => hrow s (hs s h)
  have HROW := Aside0.mk hrowS
  have HD := Aside0.mk hD
  obtain ⟨ad1, e1, hw0⟩ := Kd.at_string hr 0 (by omega) (by omega)
  subst e1
  have hm0 : ws.getD 0 ByteArray.empty ∈ ws := by rw [List.getD_eq_getElem?_getD, List.getElem?_eq_getElem (by omega : 0 < ws.length)]; exact List.getElem_mem _
  have hrd0 : rdOf ByteArray.empty ws 0 = ws.getD 0 ByteArray.empty := rfl
  rw [hrd0] at hw0
  obtain ⟨A0, c0, hlk0, hC0, hc0⟩ := hrowS _ hm0
  obtain ⟨hd0, hd1, hd2⟩ := hD _ hm0
  have HLE : Aside0 (∀ j, (allK D ws j).length ≤ 100000000) := ⟨fun j => Nat.le_trans (allK_len D ws j) hd2⟩
  have HA0 : Aside0 (allK D ws 0 = D (ws.getD 0 ByteArray.empty)) := ⟨rfl⟩
  generalize ws.getD 0 ByteArray.empty = s0 at *
  obtain ⟨Q, hQ⟩ : ∃ Q, P s0 = Q := ⟨_, rfl⟩
  rw [hQ] at hlk0 hC0 hc0 hd0
  have HL0 := Aside0.mk hlk0
  have HDC : Aside0 (∀ w', Below w.heap.size w w' → Calls Try.prog 26 #[.slice A0 Q.length c0] w' fun e w3 => ∃ v0_ : Value, e = .returned (v0_) ∧ Kd.R (Kd.int .i64) 3 w3 w'.heap.size (fun _ => True) v0_ (D s0) ∧ Below w'.heap.size w' w3) := ⟨fun w' h => word_docs.calls k A0 c0 Q (D s0) w' (Kd.C_below hC0 h) hc0 hd0⟩
  have hlt : (ws.drop 1).length = ws.length - 1 := List.length_drop
  have hc1' : ∀ W : World, (Instr.slice 31 (.slice (some ad1) ws.length c1) (some (.int .i64 1)) none none).run Try.prog W = .ok (.slice AT (ws.length - 1) (c1 - 1)) W := hc1
  rw [hlt] at hdr
  have HMEM : Aside0 (∀ s ∈ ws.drop 1, s ∈ ws) := ⟨fun s h => List.mem_of_mem_drop h⟩
  have HSUC := Aside0.mk (allK_succ D ws)
  have HALL := Aside0.mk (allK_all D ws)
  clear hI hr hc hs hrow hrowS hrd0 hm0 hQ hC0 hlk0 hc0 hd0 hd1 hd2 hD hAT hi9 hsz9 hc1
  generalize allK D ws = AK at *
  generalize ws.drop 1 = wd at *
  rw [← hlt] at hc1' hdr
  have HDR := Aside0.mk hdr
  have HAL := Aside0.mk (show wd.length ≤ 8 by omega)
  clear hdr hlt
  go_enter Try.func11, Try.ntmps11
  go_upto_region 4 with (go_at_call 23; refine (word_check.calls _ _ ws 0 _ HR.out HC.out HK0.out).mono ?_; rintro e w1 ⟨rfl, hd⟩; have hb1 : Below w.heap.size w w1 := (by first | exact hd | exact drawn_below hd))
  have xw : w1.cell? ⟨gx, 0, none⟩ = some (.map (some b)) := (hb1.cell (World.block_lt_of_cell? w _ x0)).trans x0
  have hwb : w1.cell? ad1 = some (.string s0) := by
    have h := (hb1.cell (World.block_lt_of_cell? w _ hw0)).trans hw0
    simpa [Addr.add] using h
  have hwa : w1.cell? (ad1.add 0) = some (.string s0) := by simpa [Addr.add] using hwb
  have l1 := HL0.out w1 hb1
  have l2 := HL0.out w1.drew (below_drew1 hb1)
  have X0 := Aside0.mk x0
  have HB1 := Aside0.mk hb1
  clear hd hb1 hw0 x0
  go_cut [7] (fun v7 wx => Aside0 (Kd.R (Kd.int .i64) 3 wx w.heap.size (fun _ => True) v7 (AK 0)) ∧ Aside0 (Below w.heap.size w wx))
  case first =>
    go_region_with (go_at_call 26; refine (HDC.out _ (by repeat (first | exact HB1.out | apply below_drew1))).mono ?_; rintro e w3 ⟨v3, rfl, hr3, hb3⟩)
    all_goals
      go_wp2_with fail
      go_meet
      case rel => exact ⟨⟨by rw [HA0.out]; exact Kd.R_lower hr3 HB1.out.size⟩, ⟨below_step (by repeat (first | exact HB1.out | apply below_drew1)) hb3⟩⟩
  case rest =>
    obtain ⟨HO0, HB2⟩ := hcut
    clear xw hwa hwb l1 l2 HB1 HL0 HDC
    go_wp2
    clear hc1'
    go_loopg [7, 28] wd.length (fun gg v7 s28 wr => ∃ (kk : Nat) (V : Value), kk ≤ wd.length ∧ wd.length - kk ≤ gg ∧ V = v7 ∧ s28 = .int .i64 kk ∧ Aside0 (Kd.R (Kd.int .i64) 3 wr w.heap.size (fun _ => True) V (AK kk)) ∧ Aside0 (Below w.heap.size w wr))
    case atStart => exact ⟨0, _, Nat.zero_le _, by omega, rfl, rfl, HO0, HB2⟩
    case round =>
      obtain ⟨kk, v7, hkk, hg, rfl, rfl, HO, HB3⟩ := hrel
      clear HO0 HB2
      by_cases hlt : kk < wd.length
      · have hltz : (kk : Int) < (wd.length : Int) := by omega
        have h0 : (0 : Int) ≤ (kk : Int) := by omega
        obtain ⟨adw, ew, z0⟩ := Kd.at_string HDR.out (kk : Int) h0 hltz
        subst ew
        have hrdw : rdOf ByteArray.empty wd (kk : Int) = wd[kk] := by unfold rdOf; rw [Int.toNat_natCast, List.getD_eq_getElem?_getD, List.getElem?_eq_getElem hlt]; rfl
        rw [hrdw, Int.toNat_natCast] at z0
        have hsw := HMEM.out _ (List.getElem_mem hlt)
        have hsu := HSUC.out kk hlt
        have hle := HLE.out kk
        obtain ⟨A2, c2, hlk2, hC2, hc2⟩ := HROW.out _ hsw
        obtain ⟨hd0, hd1, hd2⟩ := HD.out _ hsw
        have HK1 : Aside0 (wrap64 ((kk : Int) + 1) = ((kk + 1 : Nat) : Int)) := ⟨by have := HAL.out; unfold wrap64; omega⟩
        clear hrdw hsw
        generalize wd[kk] = s at *
        obtain ⟨F, hF⟩ : ∃ F, P s = F := ⟨_, rfl⟩
        rw [hF] at hlk2 hC2 hc2 hd0
        obtain ⟨L, hL⟩ : ∃ L, D s = L := ⟨_, rfl⟩
        rw [hL] at hd0 hd1 hd2 hsu
        clear hF hL
        replace z0 := (HB3.out.cell (World.block_lt_of_cell? w _ z0)).trans z0
        have x0 : wr.cell? ⟨gx, 0, none⟩ = some (.map (some b)) := (HB3.out.cell (World.block_lt_of_cell? w _ X0.out)).trans X0.out
        have lk : (Instr.lookup 55 (.map (some b)) (.string s) false).run Try.prog wr = .ok (.slice A2 F.length c2) wr := hlk2 wr HB3.out
        have HDC : Aside0 (Calls Try.prog 26 #[.slice A2 F.length c2] wr fun e w3 => ∃ v0_ : Value, e = .returned (v0_) ∧ Kd.R (Kd.int .i64) 3 w3 wr.heap.size (fun _ => True) v0_ L ∧ Below wr.heap.size wr w3) := ⟨word_docs.calls k A2 c2 F L wr (Kd.C_below hC2 HB3.out) hc2 hd0⟩
        obtain ⟨L2, hL2⟩ : ∃ L2, AK kk = L2 := ⟨_, rfl⟩
        have ho := HO.out
        rw [hL2] at hsu hle ho
        have HSU := Aside0.mk hsu
        have HLL := Aside0.mk hle
        have HD1 := Aside0.mk hd1
        have HD2 := Aside0.mk hd2
        have hoc : (Kd.scalar (Value.int .i64) (fun _ => rfl)).R 3 wr w.heap.size (fun _ => True) v7 L2 := ho
        have hcs := R_cases_ hoc
        have HOL := Aside0.mk ho
        clear hsu hle hd0 hd1 hd2 hC2 hc2 hlk2 ho hoc hL2 HO
        rcases hcs with ⟨rfl, rfl⟩ | ⟨g, c7, rfl⟩
        · go_upto_region 9 with (go_at_call 26; refine HDC.out.mono ?_; rintro e w3 ⟨v3, rfl, hr3, hb3⟩; obtain ⟨A3, c3, e3⟩ := Kd.R_slice hr3; subst e3; have HB4 := Aside0.mk (below_step HB3.out hb3); clear hr3 hb3)
          go_wp2_with (go_at_call 27; refine (del_none _ _).mono ?_; rintro e w5 ⟨rfl, hb5⟩; have HB5 := Aside0.mk (below_step (below_step HB4.out (below_alloc (Below.refl _ _) _)) hb5); clear hb5)
          go_roundg (wd.length - (kk + 1))
          case measure => omega
          case rel => exact ⟨kk + 1, _, by omega, by omega, rfl, by rw [HK1.out], ⟨by rw [HSU.out]; exact Kd.R_nil _ _ _ _ _⟩, HB5⟩
        · go_upto_region 9 with (go_at_call 26; refine HDC.out.mono ?_; rintro e w3 ⟨v3, rfl, hr3, hb3⟩; obtain ⟨A3, c3, e3⟩ := Kd.R_slice hr3; subst e3; have HB4 := Aside0.mk (below_step HB3.out hb3); have HR3 := Aside0.mk hr3; have HO4 := Aside0.mk (Kd.R_below HOL.out hb3); clear hr3 hb3)
          have hgl := Kd.R_lt HOL.out g rfl
          have hgb := Kd.R_base HOL.out g rfl
          obtain ⟨W9, hW9⟩ : ∃ W, W = w3.alloc (.cells #[.slice A3 L.length c3] 23) := ⟨_, rfl⟩
          obtain ⟨gb, hgbx⟩ : ∃ g, g = w3.heap.size := ⟨_, rfl⟩
          have hx9 : W9.cell? ⟨gb, 0, none⟩ = some (.slice A3 L.length c3) := by rw [hW9, hgbx]; exact (blk_cell (blk_new w3 _) 0).trans rfl
          have hb9 : Below w3.heap.size w3 W9 := by rw [hW9]; exact below_alloc (Below.refl _ _) _
          have hcall := delF (Kd.R_below HO4.out hb9) hx9 ((LiesI.of HR3.out hgl).below hb9) (by have := HB4.out.size; have := (Kd.R_lt HO4.out g rfl); omega) HD1.out HD2.out HLL.out
          have HB9 := Aside0.mk (below_step HB4.out hb9)
          rw [← HSU.out] at hcall
          rw [← hW9, ← hgbx]
          clear hW9 hgbx hx9 hb9
          obtain ⟨L3, hL3⟩ : ∃ L3, AK (kk + 1) = L3 := ⟨_, rfl⟩
          rw [hL3] at hcall
          have HL3 := Aside0.mk hL3
          clear hL3
          have HCA := Aside0.mk hcall
          clear hcall
          go_wp2_with (go_at_call 27; refine HCA.out.mono ?_; rintro e w5 ⟨rfl, hr5, hg5⟩; have HR5 := Aside0.mk hr5; have HB5 := Aside0.mk (HB9.out.grown hg5 HB9.out.size (fun k e => by injection e with e; omega)); clear hr5 hg5)
          go_roundg (wd.length - (kk + 1))
          case measure => omega
          case rel => exact ⟨kk + 1, _, by omega, by omega, rfl, by rw [HK1.out], ⟨by rw [HL3.out]; exact HR5.out⟩, HB5⟩
      · have hltz : ¬ (kk : Int) < (wd.length : Int) := by omega
        have hk : kk = wd.length := by omega
        subst hk
        have HO8 := HO.out
        rw [HALL.out] at HO8
        have HOX := Aside0.mk HO8
        go_wp2
        go_ret2
        exact ⟨_, rfl, HOX.out, HB3.out⟩

/-! ### word_Place_30: function 30 -/
set_option maxHeartbeats 8000000 in
set_option maxRecDepth 100000 in
theorem word_Place_30.idx13 (ga gb : Addr) (A0 : Option Addr) (c0 : Nat) (l0 : List S39) (p : S39 → Bool) (w : World) (hr0 : Kd.C k39 w A0 l0.length l0)
    (hcl : ∀ wr, Below w.heap.size w wr → ∀ x ∈ l0, Calls Try.prog 13 #[.agg #[.int .i64 x.f0, .int .i64 x.f1], .pointer (some ga), .pointer (some gb)] wr fun e w' => e = .returned (.bool (p x)) ∧ Below wr.heap.size wr w') :
    Calls Try.prog 30 #[.slice A0 l0.length c0, .func (.func 13) #[] #[.pointer (some ga), .pointer (some gb)]] w fun e w' => ∃ q : Int, e = .returned (.int .i64 q) ∧ decide (q ≥ 0) = l0.any p ∧ Below w.heap.size w w' := by
  have hbig : l0.length ≤ 9223372036854775807 := hr0.2.1
  have eg : ∀ args w, (callFunc 13 args).run Try.prog w = .ok (.enter 13 args) w := Go.Proofs.enters_of Try.func13 (by kernel_rfl) rfl
  have hHR := Aside0.mk hr0
  have HCL := Aside0.mk hcl
  clear hr0 hcl
  go_enter Try.func30, Try.ntmps30
  go_wp2
  go_loopg [5, 8] l0.length (fun gg _ s8 wr => ∃ kk : Nat, kk ≤ l0.length ∧ l0.length - kk ≤ gg ∧ s8 = .int .i64 kk ∧ Aside (Below w.heap.size w wr) ∧ Aside ((l0.take kk).any p = false))
  case atStart => exact ⟨0, Nat.zero_le _, by omega, rfl, Below.refl _ w, rfl⟩
  case round =>
    obtain ⟨kk, hkk, hg, rfl, BW, A⟩ := hrel
    by_cases hlt : kk < l0.length
    · have hltz : (kk : Int) < (l0.length : Int) := by omega
      have h0 : (0 : Int) ≤ (kk : Int) := by omega
      obtain ⟨ad, e0, hx0, hx1⟩ := at_T39 hHR.out (kk : Int) h0 hltz
      cases e0
      have hrd : rd_T39 l0 (kk : Int) = l0[kk] := by unfold rd_T39; rw [Int.toNat_natCast, List.getD_eq_getElem?_getD, List.getElem?_eq_getElem hlt]; rfl
      rw [hrd, Int.toNat_natCast] at hx0 hx1
      have hstep : (l0.take (kk + 1)).any p = p l0[kk] := by
        rw [List.take_add_one, List.getElem?_eq_getElem hlt, List.any_append, A.out]; simp
      have hall : p l0[kk] = true → l0.any p = true := fun h => List.any_eq_true.2 ⟨_, List.getElem_mem hlt, h⟩
      have hcall := HCL.out wr BW.out l0[kk] (List.getElem_mem hlt)
      clear hrd
      replace hx0 := (BW.out.cell (World.block_lt_of_cell? w _ hx0)).trans hx0
      replace hx1 := (BW.out.cell (World.block_lt_of_cell? w _ hx1)).trans hx1
      obtain ⟨b, hb⟩ : ∃ b, p l0[kk] = b := ⟨_, rfl⟩
      rw [hb] at hcall
      have HS := Aside0.mk hstep
      have HA := Aside0.mk hall
      have HBb := Aside0.mk hb
      clear hstep hall hb
      obtain ⟨⟨p0, p1⟩, hp⟩ : ∃ q, l0[kk] = q := ⟨_, rfl⟩
      rw [hp] at hcall hx0 hx1
      simp only at hcall hx0 hx1
      clear hp
      cases b with
      | true =>
        go_wp2_with (go_at_fn 13; refine hcall.mono ?_; rintro e w' ⟨rfl, hb'⟩)
        go_ret
        exact ⟨_, rfl, by rw [HA.out HBb.out]; exact decide_eq_true (by omega), below_step BW.out hb'⟩
      | false =>
        go_wp2_with (go_at_fn 13; refine hcall.mono ?_; rintro e w' ⟨rfl, hb'⟩)
        go_roundg (l0.length - (kk + 1))
        case measure => omega
        case rel => exact ⟨kk + 1, by omega, by omega, by go_num, below_step BW.out hb', show Aside (_ = false) from HS.out.trans HBb.out⟩
    · have hltz : ¬ (kk : Int) < (l0.length : Int) := by omega
      have hk : kk = l0.length := by omega
      have HA : Aside (l0.any p = false) := by have h := A.out; rw [hk, List.take_length] at h; exact h
      go_wp2
      go_ret
      exact ⟨_, rfl, by rw [HA.out]; decide, BW.out⟩
set_option maxHeartbeats 8000000 in
set_option maxRecDepth 100000 in
theorem word_Place_30.idx16 (ga : Addr) (A0 : Option Addr) (c0 : Nat) (l0 : List S39) (p : S39 → Bool) (w : World) (hr0 : Kd.C k39 w A0 l0.length l0)
    (hcl : ∀ wr, Below w.heap.size w wr → ∀ x ∈ l0, Calls Try.prog 16 #[.agg #[.int .i64 x.f0, .int .i64 x.f1], .pointer (some ga)] wr fun e w' => e = .returned (.bool (p x)) ∧ Below wr.heap.size wr w') :
    Calls Try.prog 30 #[.slice A0 l0.length c0, .func (.func 16) #[] #[.pointer (some ga)]] w fun e w' => ∃ q : Int, e = .returned (.int .i64 q) ∧ decide (q ≥ 0) = l0.any p ∧ Below w.heap.size w w' := by
  have hbig : l0.length ≤ 9223372036854775807 := hr0.2.1
  have eg : ∀ args w, (callFunc 16 args).run Try.prog w = .ok (.enter 16 args) w := Go.Proofs.enters_of Try.func16 (by kernel_rfl) rfl
  have hHR := Aside0.mk hr0
  have HCL := Aside0.mk hcl
  clear hr0 hcl
  go_enter Try.func30, Try.ntmps30
  go_wp2
  go_loopg [5, 8] l0.length (fun gg _ s8 wr => ∃ kk : Nat, kk ≤ l0.length ∧ l0.length - kk ≤ gg ∧ s8 = .int .i64 kk ∧ Aside (Below w.heap.size w wr) ∧ Aside ((l0.take kk).any p = false))
  case atStart => exact ⟨0, Nat.zero_le _, by omega, rfl, Below.refl _ w, rfl⟩
  case round =>
    obtain ⟨kk, hkk, hg, rfl, BW, A⟩ := hrel
    by_cases hlt : kk < l0.length
    · have hltz : (kk : Int) < (l0.length : Int) := by omega
      have h0 : (0 : Int) ≤ (kk : Int) := by omega
      obtain ⟨ad, e0, hx0, hx1⟩ := at_T39 hHR.out (kk : Int) h0 hltz
      cases e0
      have hrd : rd_T39 l0 (kk : Int) = l0[kk] := by unfold rd_T39; rw [Int.toNat_natCast, List.getD_eq_getElem?_getD, List.getElem?_eq_getElem hlt]; rfl
      rw [hrd, Int.toNat_natCast] at hx0 hx1
      have hstep : (l0.take (kk + 1)).any p = p l0[kk] := by
        rw [List.take_add_one, List.getElem?_eq_getElem hlt, List.any_append, A.out]; simp
      have hall : p l0[kk] = true → l0.any p = true := fun h => List.any_eq_true.2 ⟨_, List.getElem_mem hlt, h⟩
      have hcall := HCL.out wr BW.out l0[kk] (List.getElem_mem hlt)
      clear hrd
      replace hx0 := (BW.out.cell (World.block_lt_of_cell? w _ hx0)).trans hx0
      replace hx1 := (BW.out.cell (World.block_lt_of_cell? w _ hx1)).trans hx1
      obtain ⟨b, hb⟩ : ∃ b, p l0[kk] = b := ⟨_, rfl⟩
      rw [hb] at hcall
      have HS := Aside0.mk hstep
      have HA := Aside0.mk hall
      have HBb := Aside0.mk hb
      clear hstep hall hb
      obtain ⟨⟨p0, p1⟩, hp⟩ : ∃ q, l0[kk] = q := ⟨_, rfl⟩
      rw [hp] at hcall hx0 hx1
      simp only at hcall hx0 hx1
      clear hp
      cases b with
      | true =>
        go_wp2_with (go_at_fn 16; refine hcall.mono ?_; rintro e w' ⟨rfl, hb'⟩)
        go_ret
        exact ⟨_, rfl, by rw [HA.out HBb.out]; exact decide_eq_true (by omega), below_step BW.out hb'⟩
      | false =>
        go_wp2_with (go_at_fn 16; refine hcall.mono ?_; rintro e w' ⟨rfl, hb'⟩)
        go_roundg (l0.length - (kk + 1))
        case measure => omega
        case rel => exact ⟨kk + 1, by omega, by omega, by go_num, below_step BW.out hb', show Aside (_ = false) from HS.out.trans HBb.out⟩
    · have hltz : ¬ (kk : Int) < (l0.length : Int) := by omega
      have hk : kk = l0.length := by omega
      have HA : Aside (l0.any p = false) := by have h := A.out; rw [hk, List.take_length] at h; exact h
      go_wp2
      go_ret
      exact ⟨_, rfl, by rw [HA.out]; decide, BW.out⟩

/-! ### word_Place_12: function 12 -/
set_option maxHeartbeats 8000000 in
set_option maxRecDepth 100000 in
theorem word_Place_12.cf13 (ga gb : Addr) (A0 : Option Addr) (c0 : Nat) (l0 : List S39) (p : S39 → Bool) (w : World) (hr0 : Kd.C k39 w A0 l0.length l0)
    (hcl : ∀ wr, Below w.heap.size w wr → ∀ x ∈ l0, Calls Try.prog 13 #[.agg #[.int .i64 x.f0, .int .i64 x.f1], .pointer (some ga), .pointer (some gb)] wr fun e w' => e = .returned (.bool (p x)) ∧ Below wr.heap.size wr w') :
    Calls Try.prog 12 #[.slice A0 l0.length c0, .func (.func 13) #[] #[.pointer (some ga), .pointer (some gb)]] w fun e w' => e = .returned (.bool (l0.any p)) ∧ Below w.heap.size w w' := by
  have hcall := word_Place_30.idx13 ga gb A0 c0 l0 p w hr0 hcl
  clear hr0 hcl
  go_enter Try.func12, Try.ntmps12
  go_wp2_with (go_at_call 30; refine hcall.mono ?_; rintro e w' ⟨q, rfl, hq, hb'⟩)
  go_ret
  exact ⟨by rw [← hq]; rfl, hb'⟩
set_option maxHeartbeats 8000000 in
set_option maxRecDepth 100000 in
theorem word_Place_12.cf16 (ga : Addr) (A0 : Option Addr) (c0 : Nat) (l0 : List S39) (p : S39 → Bool) (w : World) (hr0 : Kd.C k39 w A0 l0.length l0)
    (hcl : ∀ wr, Below w.heap.size w wr → ∀ x ∈ l0, Calls Try.prog 16 #[.agg #[.int .i64 x.f0, .int .i64 x.f1], .pointer (some ga)] wr fun e w' => e = .returned (.bool (p x)) ∧ Below wr.heap.size wr w') :
    Calls Try.prog 12 #[.slice A0 l0.length c0, .func (.func 16) #[] #[.pointer (some ga)]] w fun e w' => e = .returned (.bool (l0.any p)) ∧ Below w.heap.size w w' := by
  have hcall := word_Place_30.idx16 ga A0 c0 l0 p w hr0 hcl
  clear hr0 hcl
  go_enter Try.func12, Try.ntmps12
  go_wp2_with (go_at_call 30; refine hcall.mono ?_; rintro e w' ⟨q, rfl, hq, hb'⟩)
  go_ret
  exact ⟨by rw [← hq]; rfl, hb'⟩
def hasI (l : List Int) (x : Int) : Bool := l.contains x
set_option maxHeartbeats 8000000 in
set_option maxRecDepth 100000 in
/-- slices.Index at ints -/
theorem word_Place_12.index (x : Int) (A0 : Option Addr) (c0 : Nat) (l0 : List Int) (w : World) (hr0 : Kd.C (Kd.int .i64) w A0 l0.length l0) :
    Calls Try.prog 33 #[.slice A0 l0.length c0, .int .i64 x] w fun e w' => ∃ q : Int, e = .returned (.int .i64 q) ∧ decide (q ≥ 0) = hasI l0 x ∧ Below w.heap.size w w' := by
  have hbig : l0.length ≤ 9223372036854775807 := hr0.2.1
  have hHR := Aside0.mk hr0
  clear hr0
  go_enter Try.func33, Try.ntmps33
  go_wp2
  go_loopg [5, 8] l0.length (fun gg _ s8 wr => ∃ kk : Nat, kk ≤ l0.length ∧ l0.length - kk ≤ gg ∧ s8 = .int .i64 kk ∧ Aside (Below w.heap.size w wr) ∧ Aside (hasI (l0.take kk) x = false))
  case atStart => exact ⟨0, Nat.zero_le _, by omega, rfl, Below.refl _ w, rfl⟩
  case round =>
    obtain ⟨kk, hkk, hg, rfl, BW, A⟩ := hrel
    by_cases hlt : kk < l0.length
    · have hltz : (kk : Int) < (l0.length : Int) := by omega
      have h0 : (0 : Int) ≤ (kk : Int) := by omega
      obtain ⟨ad, e0, hx0⟩ := Kd.at_int hHR.out (kk : Int) h0 hltz
      cases e0
      have hrd : rd l0 (kk : Int) = l0[kk] := by unfold rd; rw [Int.toNat_natCast, List.getD_eq_getElem?_getD, List.getElem?_eq_getElem hlt]; rfl
      rw [hrd, Int.toNat_natCast] at hx0
      have hstep : hasI (l0.take (kk + 1)) x = (x == l0[kk]) := by
        have h := A.out
        unfold hasI at h ⊢
        rw [List.contains_eq_any_beq] at h
        rw [List.take_add_one, List.getElem?_eq_getElem hlt, List.contains_eq_any_beq, List.any_append, h]; simp
      have hall : x = l0[kk] → hasI l0 x = true := fun h => by rw [h]; unfold hasI; simp
      have HS := Aside0.mk hstep
      have HA := Aside0.mk hall
      clear hrd hstep hall
      replace hx0 := (BW.out.cell (World.block_lt_of_cell? w _ hx0)).trans hx0
      generalize l0[kk] = s at *
      by_cases c : x = s
      · have c2 : (x == s) = true := by simp [c]
        have HC := Aside0.mk c
        clear c
        go_wp2
        go_ret
        exact ⟨_, rfl, by rw [HA.out HC.out]; exact decide_eq_true (by omega), BW.out⟩
      · have c2 : (x == s) = false := by simp [c]
        have HC : Aside0 (hasI (l0.take (kk + 1)) x = false) := ⟨by rw [HS.out]; exact c2⟩
        clear HS HA
        go_wp2
        go_roundg (l0.length - (kk + 1))
        case measure => omega
        case rel => exact ⟨kk + 1, by omega, by omega, by go_num, BW, HC.out⟩
    · have hltz : ¬ (kk : Int) < (l0.length : Int) := by omega
      have hk : kk = l0.length := by omega
      have HA : Aside (hasI l0 x = false) := by have h := A.out; rw [hk, List.take_length] at h; exact h
      go_wp2
      go_ret
      exact ⟨_, rfl, by rw [HA.out]; decide, BW.out⟩
set_option maxHeartbeats 8000000 in
set_option maxRecDepth 100000 in
theorem word_Place_12.contains (x : Int) (A0 : Option Addr) (c0 : Nat) (l0 : List Int) (w : World) (hr0 : Kd.C (Kd.int .i64) w A0 l0.length l0) :
    Calls Try.prog 17 #[.slice A0 l0.length c0, .int .i64 x] w fun e w' => e = .returned (.bool (hasI l0 x)) ∧ Below w.heap.size w w' := by
  have hcall := word_Place_12.index x A0 c0 l0 w hr0
  clear hr0
  go_enter Try.func17, Try.ntmps17
  go_wp2_with (go_at_call 33; refine hcall.mono ?_; rintro e w' ⟨q, rfl, hq, hb'⟩)
  go_ret
  exact ⟨by rw [← hq]; rfl, hb'⟩
set_option maxHeartbeats 8000000 in
set_option maxRecDepth 100000 in
/-- the law's second closure: whether a place's text is none of those that it has taken in -/
theorem word_Place_12.cl16 (x : S39) (ga : Nat) (A0 : Option Addr) (c0 : Nat) (l0 : List Int) (w : World) (hx : w.cell? ⟨ga, 0, none⟩ = some (.slice A0 l0.length c0)) (hr0 : Kd.C (Kd.int .i64) w A0 l0.length l0) :
    Calls Try.prog 16 #[.agg #[.int .i64 x.f0, .int .i64 x.f1], .pointer (some ⟨ga, 0, none⟩)] w fun e w' => e = .returned (.bool (!hasI l0 x.f0)) ∧ Below w.heap.size w w' := by
  obtain ⟨x0, x1⟩ := x
  have HR := Aside0.mk hr0
  clear hr0
  have xa : (w.alloc (.cells #[.int .i64 x0, .int .i64 x1] 39)).cell? ⟨ga, 0, none⟩ = some (.slice A0 l0.length c0) := ((below_alloc (Below.refl w.heap.size w) _).cell (World.block_lt_of_cell? w _ hx)).trans hx
  go_enter Try.func16, Try.ntmps16
  go_wp2_with (go_at_call 17; refine (word_Place_12.contains _ A0 c0 l0 _ (Kd.C_below HR.out (below_alloc (Below.refl _ _) _))).mono ?_; rintro e w' ⟨rfl, hb'⟩)
  go_ret
  exact ⟨rfl, below_step (below_alloc (Below.refl _ _) _) hb'⟩
def cl1B (p : S39) (n : Nat) (q : S39) : Bool := decide (q.f0 = p.f0) && decide (q.f1 ≤ p.f1 + n - 1)
set_option maxHeartbeats 8000000 in
set_option maxRecDepth 100000 in
/-- the law's first closure -/
theorem word_Place_12.cl13 (x p : S39) (ga gb : Nat) (A0 : Option Addr) (n c0 : Nat) (w : World) (hx0 : w.cell? ⟨ga, 0, none⟩ = some (.int .i64 p.f0)) (hx1 : w.cell? ⟨ga, 1, none⟩ = some (.int .i64 p.f1)) (hx : w.cell? ⟨gb, 0, none⟩ = some (.slice A0 n c0)) (hn : n ≤ 8) (hp : 0 ≤ p.f1 ∧ p.f1 ≤ 1000000) :
    Calls Try.prog 13 #[.agg #[.int .i64 x.f0, .int .i64 x.f1], .pointer (some ⟨ga, 0, none⟩), .pointer (some ⟨gb, 0, none⟩)] w fun e w' => e = .returned (.bool (cl1B p n x)) ∧ Below w.heap.size w w' := by
  obtain ⟨x0, x1⟩ := x
  obtain ⟨p0, p1⟩ := p
  simp only at hx0 hx1 hp
  obtain ⟨hp1, hp2⟩ := hp
  have xa : (w.alloc (.cells #[.int .i64 x0, .int .i64 x1] 39)).cell? ⟨gb, 0, none⟩ = some (.slice A0 n c0) := ((below_alloc (Below.refl w.heap.size w) _).cell (World.block_lt_of_cell? w _ hx)).trans hx
  have xb : (w.alloc (.cells #[.int .i64 x0, .int .i64 x1] 39)).cell? ⟨ga, 0, none⟩ = some (.int .i64 p0) := ((below_alloc (Below.refl w.heap.size w) _).cell (World.block_lt_of_cell? w _ hx0)).trans hx0
  have xc : (w.alloc (.cells #[.int .i64 x0, .int .i64 x1] 39)).cell? ⟨ga, 1, none⟩ = some (.int .i64 p1) := ((below_alloc (Below.refl w.heap.size w) _).cell (World.block_lt_of_cell? w _ hx1)).trans hx1
  by_cases c : x0 = p0
  · have c2 : (x0 == p0) = true := by simp [c]
    have HE : Aside0 (cl1B ⟨p0, p1⟩ n ⟨x0, x1⟩ = decide (x1 ≤ p1 + n - 1)) := ⟨by unfold cl1B; simp [c]⟩
    clear c
    go_enter Try.func13, Try.ntmps13
    go_wp2
    all_goals
      go_ret
      exact ⟨by rw [HE.out]; rfl, below_alloc (Below.refl _ _) _⟩
  · have c2 : (x0 == p0) = false := by simp [c]
    have HE : Aside0 (cl1B ⟨p0, p1⟩ n ⟨x0, x1⟩ = false) := ⟨by unfold cl1B; simp [c]⟩
    clear c
    go_enter Try.func13, Try.ntmps13
    go_wp2
    all_goals
      go_ret
      exact ⟨by rw [HE.out]; rfl, below_alloc (Below.refl _ _) _⟩

/-! ### word_Place_31: function 31 -/
def word_Place_31.l0 : Nat → List (S39) → Int → Int → Int → Int → Option (Int)
  | 0, _, _, _, _, _ => none
  | k + 1, x0, x7, x8, x120000, x120001 => if x8 < x7 then (if 0 ≤ x8 then (if x8 < (x0.length : Int) then (if (x120000 == ((rd_T39 x0 x8).f0) && (x120001 == ((rd_T39 x0 x8).f1))) = true then (some x8) else (word_Place_31.l0 k x0 x7 (wrap64 (x8 + 1)) x120000 x120001)) else (none)) else (none)) else (some (-1))
def word_Place_31.f (k : Nat) (l0 : List (S39)) (a1_0 : Int) (a1_1 : Int) : Option (Int) := word_Place_31.l0 k l0 (l0.length : Int) 0 a1_0 a1_1
theorem word_Place_31.mono_l : ∀ k, (∀ y0 y1 y2 y3 y4, LeO (word_Place_31.l0 k y0 y1 y2 y3 y4) (word_Place_31.l0 (k + 1) y0 y1 y2 y3 y4))
  | 0 => fun _ _ _ _ _ r h => by simp [word_Place_31.l0] at h
  | k + 1 => by
    have ih0 := word_Place_31.mono_l k
    · intro y0 y1 y2 y3 y4
      unfold word_Place_31.l0
      repeat' first
      | (with_reducible exact ih0 _ _ _ _ _)
      | (with_reducible exact LeO.refl _)
      | (with_reducible exact LeO.none _)
      | (with_reducible refine LeO.ite ?_ ?_)
      | (with_reducible refine LeO.bind ?_ (fun _ => ?_))
      | exact ih0 _ _ _ _ _
      | exact LeO.none _
      | refine LeO.ite ?_ ?_
      | refine LeO.bind ?_ (fun _ => ?_)
theorem word_Place_31.mono : ∀ a0 a1 a2 k, LeO (word_Place_31.f k a0 a1 a2) (word_Place_31.f (k + 1) a0 a1 a2) := by
  intro a0 a1 a2 k
  have ih0 := word_Place_31.mono_l k
  unfold word_Place_31.f
  repeat' first
      | (with_reducible exact ih0 _ _ _ _ _)
      | (with_reducible exact LeO.refl _)
      | (with_reducible exact LeO.none _)
      | (with_reducible refine LeO.ite ?_ ?_)
      | (with_reducible refine LeO.bind ?_ (fun _ => ?_))
      | exact ih0 _ _ _ _ _
      | exact LeO.none _
      | refine LeO.ite ?_ ?_
      | refine LeO.bind ?_ (fun _ => ?_)
set_option maxHeartbeats 8000000 in
set_option maxRecDepth 100000 in
theorem word_Place_31.calls (k : Nat) (A0 : Option Addr) (c0 : Nat) (l0 : List (S39)) (a1_0 : Int) (a1_1 : Int) (r : Int) (w : World) (hr0 : Kd.C k39 w A0 l0.length l0) (hc0 : l0.length ≤ c0) (h : word_Place_31.f k l0 a1_0 a1_1 = some r) :
    Calls Try.prog 31 #[.slice A0 l0.length c0, .agg #[.int .i64 a1_0, .int .i64 a1_1]] w fun e w' => e = .returned (.int .i64 r) ∧ Below w.heap.size w w' := by
  have hu39 := Try.underlying39
  have HR0 := Aside0.mk hr0
  have HC0 := Aside0.mk hc0
  clear hr0 hc0
  have HB := Aside0.mk (Below.refl w.heap.size w)
  have H : (word_Place_31.l0 k l0 (l0.length : Int) 0 a1_0 a1_1) = some r := h
  clear h
  have H' := Aside0.mk H
  clear H
  go_enter Try.func31, Try.ntmps31
  go_wp2_with (first | ((with_reducible refine gate_dst (N := 3) rfl ?_); refine box_event ?hg (N := 3) ?hd (cs := #[.int .i64 a1_0, .int .i64 a1_1]) (t := 39) ?hr ?_; (case hd => rfl); (case hg => rfl); (case hr => first | (go_simp; done) | (go_simp; rfl)); intro gb119 hg w3 hbox hb; have n0_ := Aside0.mk (below_step (by repeat (first | (with_reducible first | exact HB.out | apply below_alloc | apply pw_below_drewN | apply below_drew1) | exact HB.out)) hb); have n1_ := Aside0.mk (hbox); have n2_ := Aside0.mk ((by rw [hg]; exact (below_size (by repeat (first | (with_reducible first | exact HB.out | apply below_alloc | apply pw_below_drewN | apply below_drew1) | exact HB.out))) : w.heap.size ≤ gb119)); have n3_ := Aside0.mk ((by rw [hg]; exact (below_size (by repeat (first | (with_reducible first | exact HB.out | apply below_alloc | apply pw_below_drewN | apply below_drew1) | exact HB.out))) : w.heap.size ≤ gb119)); clear HB; have HB := n0_; have BK119 := n1_; have GW119 := n2_; have GE119 := n3_; clear n0_ n1_ n2_ n3_; clear hb hbox hg))
  repeat (go_quiet (first | ((with_reducible refine gate_dst (N := 3) rfl ?_); refine box_event ?hg (N := 3) ?hd (cs := #[.int .i64 a1_0, .int .i64 a1_1]) (t := 39) ?hr ?_; (case hd => rfl); (case hg => rfl); (case hr => first | (go_simp; done) | (go_simp; rfl)); intro gb119 hg w3 hbox hb; have n0_ := Aside0.mk (below_step (by repeat (first | (with_reducible first | exact HB.out | apply below_alloc | apply pw_below_drewN | apply below_drew1) | exact HB.out)) hb); have n1_ := Aside0.mk (hbox); have n2_ := Aside0.mk ((by rw [hg]; exact (below_size (by repeat (first | (with_reducible first | exact HB.out | apply below_alloc | apply pw_below_drewN | apply below_drew1) | exact HB.out))) : w.heap.size ≤ gb119)); have n3_ := Aside0.mk ((by rw [hg]; exact (below_size (by repeat (first | (with_reducible first | exact HB.out | apply below_alloc | apply pw_below_drewN | apply below_drew1) | exact HB.out))) : w.heap.size ≤ gb119)); clear HB; have HB := n0_; have BK119 := n1_; have GW119 := n2_; have GE119 := n3_; clear n0_ n1_ n2_ n3_; clear hb hbox hg)); try go_wp2_with (first | ((with_reducible refine gate_dst (N := 3) rfl ?_); refine box_event ?hg (N := 3) ?hd (cs := #[.int .i64 a1_0, .int .i64 a1_1]) (t := 39) ?hr ?_; (case hd => rfl); (case hg => rfl); (case hr => first | (go_simp; done) | (go_simp; rfl)); intro gb119 hg w3 hbox hb; have n0_ := Aside0.mk (below_step (by repeat (first | (with_reducible first | exact HB.out | apply below_alloc | apply pw_below_drewN | apply below_drew1) | exact HB.out)) hb); have n1_ := Aside0.mk (hbox); have n2_ := Aside0.mk ((by rw [hg]; exact (below_size (by repeat (first | (with_reducible first | exact HB.out | apply below_alloc | apply pw_below_drewN | apply below_drew1) | exact HB.out))) : w.heap.size ≤ gb119)); have n3_ := Aside0.mk ((by rw [hg]; exact (below_size (by repeat (first | (with_reducible first | exact HB.out | apply below_alloc | apply pw_below_drewN | apply below_drew1) | exact HB.out))) : w.heap.size ≤ gb119)); clear HB; have HB := n0_; have BK119 := n1_; have GW119 := n2_; have GE119 := n3_; clear n0_ n1_ n2_ n3_; clear hb hbox hg)))
  go_loopg [8] k (fun kq v8 w' => ∃ (x8_1 : Int), v8 = .int .i64 x8_1 ∧ Aside0 (word_Place_31.l0 kq l0 (l0.length : Int) x8_1 a1_0 a1_1 = some r) ∧ Aside0 (kq ≤ k) ∧ Aside0 (w'.heap[gb119]? = some (.cells #[.int .i64 a1_0, .int .i64 a1_1] 39 (0, 0))) ∧ Aside0 (Below w.heap.size w w'))
  case atStart => exact ⟨(0), (by first | rfl | (simp; done) | (simp [*]; done)), H', ⟨Nat.le_refl _⟩, ⟨by (with_reducible repeat (first | refine blk_drewN ?_ _ | refine blk_drew ?_ | refine blk_alloc ?_ _)); exact BK119.out⟩, ⟨by repeat (first | (with_reducible first | exact HB.out | apply below_alloc | apply pw_below_drewN | apply below_drew1 | refine below_set ?_ GE119.out) | exact HB.out)⟩⟩
  case round =>
    clear H'
    try clear p2
    try clear c3
    obtain ⟨x8_1, rfl, HA, HK1, BK119, HB⟩ := hrel
    cases gk with
    | zero => exact absurd HA.out (by simp [word_Place_31.l0])
    | succ k1 =>
      have H := HA.out
      clear HA
      simp only [word_Place_31.l0] at H
      by_cases c4 : x8_1 < (l0.length : Int)
      · rw [if_pos c4] at H
        have c4b0 : decide (x8_1 < (l0.length : Int)) = true := decide_eq_true c4
        clear c4
        by_cases c5 : 0 ≤ x8_1
        · rw [if_pos c5] at H
          have c5b0 : decide (0 ≤ x8_1) = true := decide_eq_true c5
          clear c5
          by_cases c6 : x8_1 < (l0.length : Int)
          · rw [if_pos c6] at H
            have c6b0 : decide (x8_1 < (l0.length : Int)) = true := decide_eq_true c6
            clear c6
            by_cases c7 : (a1_0 == ((rd_T39 l0 x8_1).f0) && (a1_1 == ((rd_T39 l0 x8_1).f1))) = true
            · rw [if_pos c7] at H
              have c7b0 : (a1_0 == ((rd_T39 l0 x8_1).f0) && (a1_1 == ((rd_T39 l0 x8_1).f1))) = true := c7
              (try (have c7b1 : decide (a1_0 = ((rd_T39 l0 x8_1).f0) && (a1_1 == ((rd_T39 l0 x8_1).f1))) = true := by simpa using c7))
              (try (have c7b2 : (a1_0 == ((rd_T39 l0 x8_1).f0) && (a1_1 == ((rd_T39 l0 x8_1).f1))) = true := by simpa using c7))
              clear c7
              obtain rfl := Option.some.inj H
              have hcz8_0 : wr.cell? ⟨gb119, 0, none⟩ = some (.int .i64 a1_0) := (blk_cell BK119.out 0).trans rfl
              have hcz8_1 : wr.cell? ⟨gb119, 1, none⟩ = some (.int .i64 a1_1) := (blk_cell BK119.out 1).trans rfl
              have hfz8_0 := blk_frozen BK119.out 0
              have hfz8_1 := blk_frozen BK119.out 1
              have p120 : 0 ≤ (x8_1 : Int) := of_decide_eq_true (by first | (with_reducible assumption) | assumption)
              have q120 : x8_1 < (l0.length : Int) := of_decide_eq_true (by first | (with_reducible assumption) | assumption)
              obtain ⟨ad120, e120, hx120_0, hx120_1⟩ := at_T39 HR0.out x8_1 p120 q120
              cases e120
              replace hx120_0 := (HB.out.cell (World.block_lt_of_cell? w _ hx120_0)).trans hx120_0
              replace hx120_1 := (HB.out.cell (World.block_lt_of_cell? w _ hx120_1)).trans hx120_1
              replace p120 := eq_true p120
              replace q120 := eq_true q120
              go_wp2
              repeat (go_quiet (fail); try go_wp2)
              go_ret
              exact ⟨by first | rfl | (simp [errW_none, errW_some] <;> rfl) | (simp [*, errW_none, errW_some] <;> rfl), by repeat (first | (with_reducible first | exact HB.out | apply below_alloc | apply pw_below_drewN | apply below_drew1 | refine below_set ?_ GE119.out) | exact HB.out)⟩
            · rw [if_neg c7] at H
              have c7b0 : (a1_0 == ((rd_T39 l0 x8_1).f0) && (a1_1 == ((rd_T39 l0 x8_1).f1))) = false := by simpa using c7
              (try (have c7b1 : decide (a1_0 = ((rd_T39 l0 x8_1).f0) && (a1_1 == ((rd_T39 l0 x8_1).f1))) = false := by simpa using c7))
              (try (have c7b2 : (a1_0 == ((rd_T39 l0 x8_1).f0) && (a1_1 == ((rd_T39 l0 x8_1).f1))) = false := by simpa using c7))
              (try (have c7b3 : ¬ (a1_0 = ((rd_T39 l0 x8_1).f0) && (a1_1 == ((rd_T39 l0 x8_1).f1))) := by simpa using c7))
              clear c7
              have H' := Aside0.mk H
              clear H
              have hcz9_0 : wr.cell? ⟨gb119, 0, none⟩ = some (.int .i64 a1_0) := (blk_cell BK119.out 0).trans rfl
              have hcz9_1 : wr.cell? ⟨gb119, 1, none⟩ = some (.int .i64 a1_1) := (blk_cell BK119.out 1).trans rfl
              have hfz9_0 := blk_frozen BK119.out 0
              have hfz9_1 := blk_frozen BK119.out 1
              have p120 : 0 ≤ (x8_1 : Int) := of_decide_eq_true (by first | (with_reducible assumption) | assumption)
              have q120 : x8_1 < (l0.length : Int) := of_decide_eq_true (by first | (with_reducible assumption) | assumption)
              obtain ⟨ad120, e120, hx120_0, hx120_1⟩ := at_T39 HR0.out x8_1 p120 q120
              cases e120
              replace hx120_0 := (HB.out.cell (World.block_lt_of_cell? w _ hx120_0)).trans hx120_0
              replace hx120_1 := (HB.out.cell (World.block_lt_of_cell? w _ hx120_1)).trans hx120_1
              replace p120 := eq_true p120
              replace q120 := eq_true q120
              go_wp2
              repeat (go_quiet (fail); try go_wp2)
              go_roundg k1
              case measure => have := HK1.out; omega
              case rel => exact ⟨(wrap64 (x8_1 + 1)), (by first | rfl | (simp; done) | (simp [*]; done)), H', ⟨by have := HK1.out; omega⟩, ⟨by (with_reducible repeat (first | refine blk_drewN ?_ _ | refine blk_drew ?_ | refine blk_alloc ?_ _)); exact BK119.out⟩, ⟨by repeat (first | (with_reducible first | exact HB.out | apply below_alloc | apply pw_below_drewN | apply below_drew1 | refine below_set ?_ GE119.out) | exact HB.out)⟩⟩
          · rw [if_neg c6] at H
            exact absurd H (by simp)
        · rw [if_neg c5] at H
          exact absurd H (by simp)
      · rw [if_neg c4] at H
        have c4b0 : decide (x8_1 < (l0.length : Int)) = false := decide_eq_false c4
        clear c4
        obtain rfl := Option.some.inj H
        go_wp2
        repeat (go_quiet (fail); try go_wp2)
        go_ret
        exact ⟨by first | rfl | (simp [errW_none, errW_some] <;> rfl) | (simp [*, errW_none, errW_some] <;> rfl), by repeat (first | (with_reducible first | exact HB.out | apply below_alloc | apply pw_below_drewN | apply below_drew1 | refine below_set ?_ GE119.out) | exact HB.out)⟩

/-! ### word_Place_14: function 14 -/
def word_Place_14.f (k : Nat) (l0 : List (S39)) (a1_0 : Int) (a1_1 : Int) : Option (Bool) := (word_Place_31.f k l0 a1_0 a1_1).bind fun t122 => (some (decide (t122 ≥ 0)))
theorem word_Place_14.mono : ∀ a0 a1 a2 k, LeO (word_Place_14.f k a0 a1 a2) (word_Place_14.f (k + 1) a0 a1 a2) := by
  intro a0 a1 a2 k
  unfold word_Place_14.f
  repeat' first
      | (with_reducible exact word_Place_31.mono _ _ _ _)
      | (with_reducible exact LeO.refl _)
      | (with_reducible exact LeO.none _)
      | (with_reducible refine LeO.ite ?_ ?_)
      | (with_reducible refine LeO.bind ?_ (fun _ => ?_))
      | exact word_Place_31.mono _ _ _ _
      | exact LeO.none _
      | refine LeO.ite ?_ ?_
      | refine LeO.bind ?_ (fun _ => ?_)
set_option maxHeartbeats 8000000 in
set_option maxRecDepth 100000 in
theorem word_Place_14.calls (k : Nat) (A0 : Option Addr) (c0 : Nat) (l0 : List (S39)) (a1_0 : Int) (a1_1 : Int) (r : Bool) (w : World) (hr0 : Kd.C k39 w A0 l0.length l0) (hc0 : l0.length ≤ c0) (h : word_Place_14.f k l0 a1_0 a1_1 = some r) :
    Calls Try.prog 14 #[.slice A0 l0.length c0, .agg #[.int .i64 a1_0, .int .i64 a1_1]] w fun e w' => e = .returned (.bool r) ∧ Below w.heap.size w w' := by
  have hu39 := Try.underlying39
  have HR0 := Aside0.mk hr0
  have HC0 := Aside0.mk hc0
  clear hr0 hc0
  have HB := Aside0.mk (Below.refl w.heap.size w)
  have H : ((word_Place_31.f k l0 a1_0 a1_1).bind fun t122 => (some (decide (t122 ≥ 0)))) = some r := h
  clear h
  replace H := Option.bind_eq_some_iff.mp H
  obtain ⟨t122, A30, H⟩ := H
  replace H : (some (decide (t122 ≥ 0))) = some r := H
  have A3 := Aside0.mk A30
  clear A30
  obtain rfl := Option.some.inj H
  go_enter Try.func14, Try.ntmps14
  go_wp2_with (first | ((with_reducible refine gate_dst (N := 3) rfl ?_); refine box_event ?hg (N := 3) ?hd (cs := #[.int .i64 a1_0, .int .i64 a1_1]) (t := 39) ?hr ?_; (case hd => rfl); (case hg => rfl); (case hr => first | (go_simp; done) | (go_simp; rfl)); intro gb121 hg w4 hbox hb; have n0_ := Aside0.mk (below_step (by repeat (first | (with_reducible first | exact HB.out | apply below_alloc | apply pw_below_drewN | apply below_drew1) | exact HB.out)) hb); have n1_ := Aside0.mk (hbox); have n2_ := Aside0.mk ((by rw [hg]; exact (below_size (by repeat (first | (with_reducible first | exact HB.out | apply below_alloc | apply pw_below_drewN | apply below_drew1) | exact HB.out))) : w.heap.size ≤ gb121)); have n3_ := Aside0.mk ((by rw [hg]; exact (below_size (by repeat (first | (with_reducible first | exact HB.out | apply below_alloc | apply pw_below_drewN | apply below_drew1) | exact HB.out))) : w.heap.size ≤ gb121)); clear HB; have HB := n0_; have BK121 := n1_; have GW121 := n2_; have GE121 := n3_; clear n0_ n1_ n2_ n3_; clear hb hbox hg; have hcz5_0 : w4.cell? ⟨gb121, 0, none⟩ = some (.int .i64 a1_0) := (blk_cell BK121.out 0).trans rfl; have hcz5_1 : w4.cell? ⟨gb121, 1, none⟩ = some (.int .i64 a1_1) := (blk_cell BK121.out 1).trans rfl; have hfz5_0 := blk_frozen BK121.out 0; have hfz5_1 := blk_frozen BK121.out 1) | ((with_reducible refine gate_callee (f := 31) rfl ?_); refine goesL_ (some 7) rfl rfl Try.func31 (by kernel_rfl) rfl #[.slice A0 l0.length c0, .agg #[.int .i64 a1_0, .int .i64 a1_1]] rfl (by (try simp only [List.map_toArray, List.map_cons, List.map_nil]); first | done | rfl | (simp only [List.length_drop, List.length_take]; rfl)) ?_; (with_reducible refine (word_Place_31.calls k _ _ l0 a1_0 a1_1 t122 _ ?side1 ?side2 A3.out).mono ?_); (case side1 => repeat (first | exact (Kd.C_below HR0.out HB.out) | (with_reducible refine Kd.C_alloc ?_ _) | (with_reducible refine Kd.C_drewN ?_ _) | (with_reducible refine Kd.C_drew ?_))); (case side2 => exact HC0.out); rintro e w6 ⟨rfl, hb⟩; refine ⟨_, rfl, ?_⟩; have n0_ := Aside0.mk (blk_below (g := gb121) (o := .cells #[.int .i64 a1_0, .int .i64 a1_1] 39 (0, 0)) (by (with_reducible repeat (first | refine blk_drewN ?_ _ | refine blk_drew ?_ | refine blk_alloc ?_ _)); exact BK121.out) hb); have n1_ := Aside0.mk (below_step (by repeat (first | (with_reducible first | exact HB.out | apply below_alloc | apply pw_below_drewN | apply below_drew1 | refine below_set ?_ GE121.out) | exact HB.out)) hb); clear BK121; clear HB; have BK121 := n0_; have HB := n1_; clear n0_ n1_; (try clear hb); (try clear hb2); (try clear hk); (try clear hi)))
  go_ret
  exact ⟨by first | rfl | (simp [errW_none, errW_some] <;> rfl) | (simp [*, errW_none, errW_some] <;> rfl), by repeat (first | (with_reducible first | exact HB.out | apply below_alloc | apply pw_below_drewN | apply below_drew1 | refine below_set ?_ GE121.out) | exact HB.out)⟩

/-! ### word_Place_32: function 32 -/
def word_Place_32.f (l0 : List S39) : Option (List S39) := if l0.length ≤ 1000000000 then some l0 else none
set_option maxHeartbeats 2000000 in
set_option maxRecDepth 100000 in
theorem word_Place_32.calls (A0 : Option Addr) (c0 : Nat) (l0 : List S39) (r : List S39) (w : World) (hr0 : Kd.C k39 w A0 l0.length l0) (hc0 : l0.length ≤ c0) (h : word_Place_32.f l0 = some r) :
    Calls Try.prog 32 #[.slice A0 l0.length c0] w fun e w' => ∃ v0_ : Value, e = .returned (v0_) ∧ Kd.R k39 39 w' w.heap.size (fun _ => True) v0_ r ∧ Below w.heap.size w w' := by
  unfold word_Place_32.f at h
  split at h
  case isFalse => exact absurd h (by simp)
  case isTrue c1 =>
  obtain rfl := Option.some.inj h
  clear h
  have q1 : ∀ (w : World) (a : Option Addr) (n c n' c' : Nat), (binOp .eql 33 (.slice a n c) (.slice none n' c')).run Try.prog w = .ok (.bool a.isNone) w := fun w a n c n' c' => Go.Lib.run_eql_slice_nil w _ _ a n c n' c' Try.underlying33
  cases A0 with
  | none =>
    have h0 : l0.length = 0 := by
      rcases Nat.eq_zero_or_pos l0.length with h0 | h0
      · exact h0
      · obtain ⟨ad, h, _⟩ := hr0.2.2 h0
        cases h
    obtain rfl := List.eq_nil_of_length_eq_zero h0
    clear hr0 hc0 c1 h0
    go_enter Try.func32, Try.ntmps32
    go_wp2
    go_ret
    exact ⟨_, rfl, Kd.R_nil _ _ _ _ _, Below.refl _ _⟩
  | some ad =>
    have HR := Aside0.mk hr0
    have C1 := Aside0.mk (show (([] : List S39).length + l0.length) * 16 ≤ 140737488355328 from by simp only [List.length_nil]; omega)
    clear hr0 hc0 c1
    go_enter Try.func32, Try.ntmps32
    go_wp2_with (first | (at_builtin; refine Kd.R_append_rows k39 (w0 := w) w.heap.size rfl (.tmp 5) (.tmp 6) 33 39 (.agg #[(.int .i64 0), (.int .i64 0)]) 16 rfl Try.underlying33 info39 rfl (by decide) (by omega) (.slice (some ⟨w.heap.size, 0, none⟩) 0 0) [] l0 (some ad) _ _ (fun _ => True) (fun _ => False) rfl rfl ⟨fun _ _ => trivial, [], World.ownsRow_made w #[] 0 (Nat.le_refl _) (Nat.zero_le _) (by simp), Reps.none _ _⟩ (Kd.C_below HR.out (below_alloc (Below.refl _ _) _)) (fun _ _ h => h) (fun _ h => h.elim) (fun _ _ => trivial) (below_alloc (Below.refl _ _) _) (by simp) C1.out ?_; intro v1 w1 ho hb hg hat; clear hg hat; rw [List.nil_append] at ho; have HO := Aside0.mk ho; have HB := Aside0.mk hb; clear ho hb))
    go_ret
    exact ⟨_, rfl, HO.out, HB.out⟩

end Go.Proofs.Ytchjgjpoephljaa.PWordChain
