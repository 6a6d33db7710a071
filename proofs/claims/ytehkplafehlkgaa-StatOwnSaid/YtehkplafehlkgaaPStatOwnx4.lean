-- written by prn.py, a program of this session, over the kit's printer
import Derived.Test.YtehkplafehlkgaaPStatOwnx0
import Derived.Test.YtehkplafehlkgaaPStatOwnx1
import Derived.Test.YtehkplafehlkgaaPStatOwnx2
import Derived.Test.YtehkplafehlkgaaPStatOwnx3
namespace Go.Proofs.Ytehkplafehlkgaa.PStatOwn
open Go.RowKit Go.Proofs.YtehkplafehlkgaaW.PrintWords Go.Proofs.YtehkplafehlkgaaW.PrintLast Go.Proofs.YtehkplafehlkgaaW.PrintMore Go.Proofs.YtehkplafehlkgaaW.PrintMine
attribute [local go_sem] max2_int min2_int max_two min_two max_three min_three max_four min_four   -- for this text's walks alone
set_option linter.unusedVariables false
set_option linter.unusedSimpArgs false

/-! ### stat_Nearest: function 75 -/
mutual
def stat_Nearest.l0 : Nat → List Int → List (S178) → List (S117) → Int → Int → Option (List Int × Int)
  | 0, _, _, _, _, _ => none
  | k + 1, x0, x6, x15, x16, x17 => if x17 < x16 then (if 0 ≤ x17 then (if x17 < (x15.length : Int) then ((stat_Distance.f k x0 ((rd_T117 x15 x17).f0) ((rd_T117 x15 x17).f1)).bind fun bt165 => (if bt165.2.2 = 0 then (if x6.length < 5864062014805 then (stat_Nearest.l0 k x0 (x6 ++ [(⟨x17, bt165.1, bt165.2.1⟩ : S178)]) x15 x16 (wrap64 (x17 + 1))) else (none)) else (some (([] : List Int), bt165.2.2)))) else (none)) else (none)) else ((stat_far.f x6 120).bind fun t171 => (stat_Nearest.l1 k ([] : List Int) t171 (x6.length : Int) 0))
def stat_Nearest.l1 : Nat → List Int → List (S178) → Int → Int → Option (List Int × Int)
  | 0, _, _, _, _ => none
  | k + 1, x12, x42, x43, x44 => if x44 < x43 then (if 0 ≤ x44 then (if x44 < (x42.length : Int) then (if x12.length < 17592186044416 then (stat_Nearest.l1 k (x12 ++ [(rd_T178 x42 x44).f0]) x42 x43 (wrap64 (x44 + 1))) else (none)) else (none)) else (none)) else (some (x12, 0))
end
def stat_Nearest.f (k : Nat) (l0 : List Int) (l1 : List (S117)) : Option (List Int × Int) := stat_Nearest.l0 k l0 ([] : List (S178)) l1 (l1.length : Int) 0
theorem stat_Nearest.mono_l : ∀ k, (∀ y0 y1 y2 y3 y4, LeO (stat_Nearest.l0 k y0 y1 y2 y3 y4) (stat_Nearest.l0 (k + 1) y0 y1 y2 y3 y4)) ∧ (∀ y0 y1 y2 y3, LeO (stat_Nearest.l1 k y0 y1 y2 y3) (stat_Nearest.l1 (k + 1) y0 y1 y2 y3))
  | 0 => ⟨fun _ _ _ _ _ r h => by simp [stat_Nearest.l0] at h, fun _ _ _ _ r h => by simp [stat_Nearest.l1] at h⟩
  | k + 1 => by
    obtain ⟨ih0, ih1⟩ := stat_Nearest.mono_l k
    refine ⟨?_, ?_⟩
    · intro y0 y1 y2 y3 y4
      unfold stat_Nearest.l0
      repeat' first
      | (with_reducible exact ih0 _ _ _ _ _)
      | (with_reducible exact ih1 _ _ _ _)
      | (with_reducible exact stat_Distance.mono _ _ _ _)
      | (with_reducible exact LeO.refl _)
      | (with_reducible exact LeO.none _)
      | (with_reducible refine LeO.ite ?_ ?_)
      | (with_reducible refine LeO.bind ?_ (fun _ => ?_))
      | exact ih0 _ _ _ _ _
      | exact ih1 _ _ _ _
      | exact stat_Distance.mono _ _ _ _
      | exact LeO.none _
      | refine LeO.ite ?_ ?_
      | refine LeO.bind ?_ (fun _ => ?_)
    · intro y0 y1 y2 y3
      unfold stat_Nearest.l1
      repeat' first
      | (with_reducible exact ih0 _ _ _ _ _)
      | (with_reducible exact ih1 _ _ _ _)
      | (with_reducible exact stat_Distance.mono _ _ _ _)
      | (with_reducible exact LeO.refl _)
      | (with_reducible exact LeO.none _)
      | (with_reducible refine LeO.ite ?_ ?_)
      | (with_reducible refine LeO.bind ?_ (fun _ => ?_))
      | exact ih0 _ _ _ _ _
      | exact ih1 _ _ _ _
      | exact stat_Distance.mono _ _ _ _
      | exact LeO.none _
      | refine LeO.ite ?_ ?_
      | refine LeO.bind ?_ (fun _ => ?_)
theorem stat_Nearest.mono : ∀ a0 a1 k, LeO (stat_Nearest.f k a0 a1) (stat_Nearest.f (k + 1) a0 a1) := by
  intro a0 a1 k
  obtain ⟨ih0, ih1⟩ := stat_Nearest.mono_l k
  unfold stat_Nearest.f
  repeat' first
      | (with_reducible exact ih0 _ _ _ _ _)
      | (with_reducible exact ih1 _ _ _ _)
      | (with_reducible exact stat_Distance.mono _ _ _ _)
      | (with_reducible exact LeO.refl _)
      | (with_reducible exact LeO.none _)
      | (with_reducible refine LeO.ite ?_ ?_)
      | (with_reducible refine LeO.bind ?_ (fun _ => ?_))
      | exact ih0 _ _ _ _ _
      | exact ih1 _ _ _ _
      | exact stat_Distance.mono _ _ _ _
      | exact LeO.none _
      | refine LeO.ite ?_ ?_
      | refine LeO.bind ?_ (fun _ => ?_)
set_option maxHeartbeats 8000000 in
set_option maxRecDepth 100000 in
theorem stat_Nearest.calls (k : Nat) (A0 : Option Addr) (c0 : Nat) (l0 : List Int) (A1 : Option Addr) (c1 : Nat) (l1 : List (S117)) (r1 : List Int) (r2 : Int) (w : World) (hr0 : Kd.C (Kd.int .u8) w A0 l0.length l0) (hc0 : l0.length ≤ c0) (hr1 : Kd.C k117 w A1 l1.length l1) (hc1 : l1.length ≤ c1) (h : stat_Nearest.f k l0 l1 = some (r1, r2)) :
    Calls Try.prog 75 #[.slice A0 l0.length c0, .slice A1 l1.length c1] w fun e w' => ∃ v0_ : Value, e = .returned (.tuple #[v0_, .int .i64 r2]) ∧ Kd.R (Kd.int .i64) 3 w' w.heap.size (fun _ => True) v0_ r1 ∧ Below w.heap.size w w' := by
  have hu117 := Try.underlying117
  have hu178 := Try.underlying178
  have HR0 := Aside0.mk hr0
  have HC0 := Aside0.mk hc0
  clear hr0 hc0
  have HR1 := Aside0.mk hr1
  have HC1 := Aside0.mk hc1
  clear hr1 hc1
  have HB := Aside0.mk (Below.refl w.heap.size w)
  have H : (stat_Nearest.l0 k l0 ([] : List (S178)) l1 (l1.length : Int) 0) = some (r1, r2) := h
  clear h
  have H' := Aside0.mk H
  clear H
  go_enter Try.func75, Try.ntmps75
  go_wp2
  go_loopg [6, 17] k (fun kq v6 v17 w' => ∃ (x6_1 : List (S178)) (x17_1 : Int), v17 = .int .i64 x17_1 ∧ Aside0 (stat_Nearest.l0 kq l0 x6_1 l1 (l1.length : Int) x17_1 = some (r1, r2)) ∧ Aside0 (kq ≤ k) ∧ Aside0 (Kd.R k178 178 w' w.heap.size (fun _ => True) v6 x6_1) ∧ Aside0 (Below w.heap.size w w'))
  case atStart => exact ⟨(([] : List (S178))), (0), (by first | rfl | (simp; done) | (simp [*]; done)), H', ⟨Nat.le_refl _⟩, ⟨by first | exact Kd.R_nil _ _ _ _ _ | exact Kd.N_nil _ _ _ _ _ | exact Kd.V_nil _ _ _ _ _ | exact Kd.Q_nil _ _ _ _ _ | exact Kd.S_nil _ _ _ _ _⟩, ⟨by repeat (first | (with_reducible first | exact HB.out | apply below_alloc | apply pw_below_drewN | apply below_drew1) | exact HB.out)⟩⟩
  case round =>
    clear H'
    try clear c1
    try clear p2
    obtain ⟨x6_1, x17_1, rfl, HA, HK1, HO_6, HB⟩ := hrel
    cases gk with
    | zero => exact absurd HA.out (by simp [stat_Nearest.l0])
    | succ k1 =>
      have H := HA.out
      clear HA
      simp only [stat_Nearest.l0] at H
      by_cases c3 : x17_1 < (l1.length : Int)
      · rw [if_pos c3] at H
        have c3b0 : decide (x17_1 < (l1.length : Int)) = true := decide_eq_true c3
        clear c3
        by_cases c4 : 0 ≤ x17_1
        · rw [if_pos c4] at H
          have c4b0 : decide (0 ≤ x17_1) = true := decide_eq_true c4
          clear c4
          by_cases c5 : x17_1 < (l1.length : Int)
          · rw [if_pos c5] at H
            have c5b0 : decide (x17_1 < (l1.length : Int)) = true := decide_eq_true c5
            clear c5
            replace H := Option.bind_eq_some_iff.mp H
            obtain ⟨⟨t165, t166, t167⟩, A60, H⟩ := H
            replace H : (if t167 = 0 then (if x6_1.length < 5864062014805 then (stat_Nearest.l0 k1 l0 (x6_1 ++ [(⟨x17_1, t165, t166⟩ : S178)]) l1 (l1.length : Int) (wrap64 (x17_1 + 1))) else (none)) else (some (([] : List Int), t167))) = some (r1, r2) := H
            have A6 := Aside0.mk A60
            clear A60
            by_cases c7 : t167 = 0
            · rw [if_pos c7] at H
              have c7b0 : (t167 == 0) = true := beq_iff_eq.mpr c7
              have c7b1 : (t167 != 0) = false := bne_eq_false_iff_eq.mpr c7
              clear c7
              by_cases c8 : x6_1.length < 5864062014805
              · rw [if_pos c8] at H
                have LMc8 := Aside0.mk c8
                clear c8
                obtain ⟨y168, hy168⟩ : ∃ y_ : List (S178), y_ = (x6_1 ++ [(⟨x17_1, t165, t166⟩ : S178)]) := ⟨_, rfl⟩
                replace H : (stat_Nearest.l0 k1 l0 y168 l1 (l1.length : Int) (wrap64 (x17_1 + 1))) = some (r1, r2) := by first | (rw [hy168]; with_reducible exact H) | (have H2_ := (Option.bind_some _ _).symm.trans H; rw [hy168]; with_reducible exact H2_) | (have H2_ := (Option.bind_some _ _).symm.trans H; with_reducible exact H2_) | with_reducible exact H | (rw [hy168]; exact H) | exact H
                have Ny168 := Aside0.mk hy168
                clear hy168
                have H' := Aside0.mk H
                clear H
                have p163 : 0 ≤ (x17_1 : Int) := of_decide_eq_true (by first | (with_reducible assumption) | assumption)
                have q163 : x17_1 < (l1.length : Int) := of_decide_eq_true (by first | (with_reducible assumption) | assumption)
                obtain ⟨ad163, A163_1, c163_1, e163, hx163_0, hx163_1, hl163_1, hi163_1⟩ := at_T117 HR1.out x17_1 p163 q163
                cases e163
                replace hx163_0 := (HB.out.cell (World.block_lt_of_cell? w _ hx163_0)).trans hx163_0
                replace hx163_1 := (HB.out.cell (World.block_lt_of_cell? w _ hx163_1)).trans hx163_1
                have HR163_1 := Aside0.mk hi163_1
                have HC163_1 := Aside0.mk hl163_1
                clear hi163_1 hl163_1
                replace p163 := eq_true p163
                replace q163 := eq_true q163
                go_wp2_with (first | ((with_reducible refine gate_dst (N := 8) rfl ?_); refine box_event ?hg (N := 8) ?hd (cs := #[.string (⟨#[]⟩ : ByteArray), .slice none 0 0]) (t := 117) ?hr ?_; (case hd => rfl); (case hg => rfl); (case hr => first | (go_simp; done) | (go_simp; rfl)); intro gb164 hg w9 hbox hb; have n0_ := Aside0.mk (Kd.R_below (by (with_reducible repeat (first | apply Kd.R_alloc | apply Kd.R_drewN | apply Kd.R_drew)); exact HO_6.out) hb); have n1_ := Aside0.mk (below_step (by repeat (first | (with_reducible first | exact HB.out | apply below_alloc | apply pw_below_drewN | apply below_drew1) | exact HB.out)) hb); have n2_ := Aside0.mk (hbox); have n3_ := Aside0.mk ((by rw [hg]; exact (below_size (by repeat (first | (with_reducible first | exact HB.out | apply below_alloc | apply pw_below_drewN | apply below_drew1) | exact HB.out))) : w.heap.size ≤ gb164)); have n4_ := Aside0.mk ((by rw [hg]; exact (below_size (by repeat (first | (with_reducible first | exact HB.out | apply below_alloc | apply pw_below_drewN | apply below_drew1) | exact HB.out))) : w.heap.size ≤ gb164)); clear HO_6; clear HB; have HO_6 := n0_; have HB := n1_; have BK164 := n2_; have GW164 := n3_; have GE164 := n4_; clear n0_ n1_ n2_ n3_ n4_; clear hb hbox hg; have hcz10_0 : w9.cell? ⟨gb164, 0, none⟩ = some (.string (⟨#[]⟩ : ByteArray)) := (blk_cell BK164.out 0).trans rfl; have hcz10_1 : w9.cell? ⟨gb164, 1, none⟩ = some (.slice none 0 0) := (blk_cell BK164.out 1).trans rfl; have hfz10_0 := blk_frozen BK164.out 0; have hfz10_1 := blk_frozen BK164.out 1) | ((with_reducible refine gate_callee (f := 74) rfl ?_); refine goesL_ (some 25) rfl rfl Try.func74 (by kernel_rfl) rfl #[.slice A0 l0.length c0, .agg #[.string ((rd_T117 l1 x17_1).f0), .slice A163_1 ((rd_T117 l1 x17_1).f1).length c163_1]] rfl (by (try simp only [List.map_toArray, List.map_cons, List.map_nil]); first | done | rfl | (simp only [List.length_drop, List.length_take]; rfl)) ?_; (with_reducible refine (stat_Distance.calls k1 _ _ l0 ((rd_T117 l1 x17_1).f0) _ _ ((rd_T117 l1 x17_1).f1) t165 t166 t167 _ ?side1 ?side2 ?side3 ?side4 A6.out).mono ?_); (case side1 => exact Kd.C_below HR0.out (by repeat (first | (with_reducible first | exact HB.out | apply below_alloc | apply pw_below_drewN | apply below_drew1 | refine below_set ?_ GE164.out) | exact HB.out))); (case side2 => exact HC0.out); (case side3 => exact Kd.C_below HR163_1.out (by repeat (first | (with_reducible first | exact HB.out | apply below_alloc | apply pw_below_drewN | apply below_drew1 | refine below_set ?_ GE164.out) | exact HB.out))); (case side4 => exact HC163_1.out); rintro e w11 ⟨rfl, hb⟩; refine ⟨_, rfl, ?_⟩; have n0_ := Aside0.mk (Kd.R_below (by (with_reducible repeat (first | apply Kd.R_alloc | apply Kd.R_drewN | apply Kd.R_drew)); exact (Kd.R_mono (Kd.R_far (p := ⟨gb164, 1, none⟩) (Kd.R_far (p := ⟨gb164, 0, none⟩) (Kd.R_types HO_6.out BK164.out (by decide)) (fun _ hk => hk.2) (.string ((rd_T117 l1 x17_1).f0))) (fun _ hk => hk.2) (.slice A163_1 ((rd_T117 l1 x17_1).f1).length c163_1)) (fun _ h_ => h_.1))) hb); have n1_ := Aside0.mk (blk_below (g := gb164) (o := .cells #[.string ((rd_T117 l1 x17_1).f0), .slice A163_1 ((rd_T117 l1 x17_1).f1).length c163_1] 117 (0, 0)) (by (with_reducible repeat (first | refine blk_drewN ?_ _ | refine blk_drew ?_ | refine blk_alloc ?_ _)); refine blk_put (cs := #[.string ((rd_T117 l1 x17_1).f0), .slice none 0 0]) ?_ 1 _ rfl; (with_reducible repeat (first | refine blk_drewN ?_ _ | refine blk_drew ?_ | refine blk_alloc ?_ _)); refine blk_put (cs := #[.string (⟨#[]⟩ : ByteArray), .slice none 0 0]) ?_ 0 _ rfl; (with_reducible repeat (first | refine blk_drewN ?_ _ | refine blk_drew ?_ | refine blk_alloc ?_ _)); exact BK164.out) hb); have n2_ := Aside0.mk (below_step (by repeat (first | (with_reducible first | exact HB.out | apply below_alloc | apply pw_below_drewN | apply below_drew1 | refine below_set ?_ GE164.out) | exact HB.out)) hb); clear HO_6; clear BK164; clear HB; have HO_6 := n0_; have BK164 := n1_; have HB := n2_; clear n0_ n1_ n2_; (try clear hb); (try clear hb2); (try clear hk); (try clear hi)) | ((with_reducible refine gate_builtin (b := .append) (xs := #[.tmp 32, .tmp 37]) rfl ?_); at_builtin; refine Kd.R_append k178 (w0 := w) w.heap.size rfl (.tmp 32) (.tmp 37) 176 178 (.agg #[(.int .i64 0), (.int .i64 0), (.int .i64 0)]) 24 rfl Try.underlying176 info178 rfl (by decide) (by omega) u6 x6_1 (⟨x17_1, t165, t166⟩ : S178) [.int .i64 x17_1, .int .i64 t165, .int .i64 t166] (fun _ => True) (fun _ => False) rfl rfl ?aP (fun _ hk => hk.elim) ?aF ?aO ?aB ?aS ?aL ?_; (case aP => exact k178_mkM _ _ _ (⟨x17_1, t165, t166⟩ : S178)); (case aB => exact (by repeat (first | (with_reducible first | exact HB.out | apply below_alloc | apply pw_below_drewN | apply below_drew1 | refine below_set ?_ GE164.out) | exact HB.out))); (case aF => exact (fun _ _ => trivial)); (case aO => exact (by (with_reducible repeat (first | apply Kd.R_alloc | apply Kd.R_drewN | apply Kd.R_drew)); exact HO_6.out)); (case aS => exact (below_size (by repeat (first | (with_reducible first | exact HB.out | apply below_alloc | apply pw_below_drewN | apply below_drew1 | refine below_set ?_ GE164.out) | exact HB.out)))); (case aL => have := LMc8.out; omega); intro v169 w12 ho hb hg hat; rw [← Ny168.out] at ho; have n0_ := Aside0.mk (blk_grown (g := gb164) (o := .cells #[.string ((rd_T117 l1 x17_1).f0), .slice A163_1 ((rd_T117 l1 x17_1).f1).length c163_1] 117 (0, 0)) (by (with_reducible repeat (first | refine blk_drewN ?_ _ | refine blk_drew ?_ | refine blk_alloc ?_ _)); exact BK164.out) hg (Kd.R_ne HO_6.out BK164.out (by decide))); have n1_ := Aside0.mk (hb); have n2_ := Aside0.mk (ho); clear BK164; clear HB; clear HO_6; have BK164 := n0_; have HB := n1_; have HO170 := n2_; clear n0_ n1_ n2_; clear ho hb hg hat))
                go_roundg k1
                case measure => have := HK1.out; omega
                case rel => exact ⟨(y168), (wrap64 (x17_1 + 1)), (by first | rfl | (simp; done) | (simp [*]; done)), H', ⟨by have := HK1.out; omega⟩, ⟨by (with_reducible repeat (first | apply Kd.R_alloc | apply Kd.R_drewN | apply Kd.R_drew)); exact HO170.out⟩, ⟨by repeat (first | (with_reducible first | exact HB.out | apply below_alloc | apply pw_below_drewN | apply below_drew1 | refine below_set ?_ GE164.out) | exact HB.out)⟩⟩
              · rw [if_neg c8] at H
                exact absurd H (by simp)
            · rw [if_neg c7] at H
              have c7b0 : (t167 == 0) = false := beq_eq_false_iff_ne.mpr c7
              have c7b1 : (t167 != 0) = true := bne_iff_ne.mpr c7
              simp only [Option.some.injEq, Prod.mk.injEq] at H
              obtain ⟨rfl, rfl⟩ := H
              have p163 : 0 ≤ (x17_1 : Int) := of_decide_eq_true (by first | (with_reducible assumption) | assumption)
              have q163 : x17_1 < (l1.length : Int) := of_decide_eq_true (by first | (with_reducible assumption) | assumption)
              obtain ⟨ad163, A163_1, c163_1, e163, hx163_0, hx163_1, hl163_1, hi163_1⟩ := at_T117 HR1.out x17_1 p163 q163
              cases e163
              replace hx163_0 := (HB.out.cell (World.block_lt_of_cell? w _ hx163_0)).trans hx163_0
              replace hx163_1 := (HB.out.cell (World.block_lt_of_cell? w _ hx163_1)).trans hx163_1
              have HR163_1 := Aside0.mk hi163_1
              have HC163_1 := Aside0.mk hl163_1
              clear hi163_1 hl163_1
              replace p163 := eq_true p163
              replace q163 := eq_true q163
              go_wp2_with (first | ((with_reducible refine gate_dst (N := 8) rfl ?_); refine box_event ?hg (N := 8) ?hd (cs := #[.string (⟨#[]⟩ : ByteArray), .slice none 0 0]) (t := 117) ?hr ?_; (case hd => rfl); (case hg => rfl); (case hr => first | (go_simp; done) | (go_simp; rfl)); intro gb164 hg w13 hbox hb; have n0_ := Aside0.mk (Kd.R_below (by (with_reducible repeat (first | apply Kd.R_alloc | apply Kd.R_drewN | apply Kd.R_drew)); exact HO_6.out) hb); have n1_ := Aside0.mk (below_step (by repeat (first | (with_reducible first | exact HB.out | apply below_alloc | apply pw_below_drewN | apply below_drew1) | exact HB.out)) hb); have n2_ := Aside0.mk (hbox); have n3_ := Aside0.mk ((by rw [hg]; exact (below_size (by repeat (first | (with_reducible first | exact HB.out | apply below_alloc | apply pw_below_drewN | apply below_drew1) | exact HB.out))) : w.heap.size ≤ gb164)); have n4_ := Aside0.mk ((by rw [hg]; exact (below_size (by repeat (first | (with_reducible first | exact HB.out | apply below_alloc | apply pw_below_drewN | apply below_drew1) | exact HB.out))) : w.heap.size ≤ gb164)); clear HO_6; clear HB; have HO_6 := n0_; have HB := n1_; have BK164 := n2_; have GW164 := n3_; have GE164 := n4_; clear n0_ n1_ n2_ n3_ n4_; clear hb hbox hg; have hcz14_0 : w13.cell? ⟨gb164, 0, none⟩ = some (.string (⟨#[]⟩ : ByteArray)) := (blk_cell BK164.out 0).trans rfl; have hcz14_1 : w13.cell? ⟨gb164, 1, none⟩ = some (.slice none 0 0) := (blk_cell BK164.out 1).trans rfl; have hfz14_0 := blk_frozen BK164.out 0; have hfz14_1 := blk_frozen BK164.out 1) | ((with_reducible refine gate_callee (f := 74) rfl ?_); refine goesL_ (some 25) rfl rfl Try.func74 (by kernel_rfl) rfl #[.slice A0 l0.length c0, .agg #[.string ((rd_T117 l1 x17_1).f0), .slice A163_1 ((rd_T117 l1 x17_1).f1).length c163_1]] rfl (by (try simp only [List.map_toArray, List.map_cons, List.map_nil]); first | done | rfl | (simp only [List.length_drop, List.length_take]; rfl)) ?_; (with_reducible refine (stat_Distance.calls k1 _ _ l0 ((rd_T117 l1 x17_1).f0) _ _ ((rd_T117 l1 x17_1).f1) t165 t166 t167 _ ?side1 ?side2 ?side3 ?side4 A6.out).mono ?_); (case side1 => exact Kd.C_below HR0.out (by repeat (first | (with_reducible first | exact HB.out | apply below_alloc | apply pw_below_drewN | apply below_drew1 | refine below_set ?_ GE164.out) | exact HB.out))); (case side2 => exact HC0.out); (case side3 => exact Kd.C_below HR163_1.out (by repeat (first | (with_reducible first | exact HB.out | apply below_alloc | apply pw_below_drewN | apply below_drew1 | refine below_set ?_ GE164.out) | exact HB.out))); (case side4 => exact HC163_1.out); rintro e w15 ⟨rfl, hb⟩; refine ⟨_, rfl, ?_⟩; have n0_ := Aside0.mk (Kd.R_below (by (with_reducible repeat (first | apply Kd.R_alloc | apply Kd.R_drewN | apply Kd.R_drew)); exact (Kd.R_mono (Kd.R_far (p := ⟨gb164, 1, none⟩) (Kd.R_far (p := ⟨gb164, 0, none⟩) (Kd.R_types HO_6.out BK164.out (by decide)) (fun _ hk => hk.2) (.string ((rd_T117 l1 x17_1).f0))) (fun _ hk => hk.2) (.slice A163_1 ((rd_T117 l1 x17_1).f1).length c163_1)) (fun _ h_ => h_.1))) hb); have n1_ := Aside0.mk (blk_below (g := gb164) (o := .cells #[.string ((rd_T117 l1 x17_1).f0), .slice A163_1 ((rd_T117 l1 x17_1).f1).length c163_1] 117 (0, 0)) (by (with_reducible repeat (first | refine blk_drewN ?_ _ | refine blk_drew ?_ | refine blk_alloc ?_ _)); refine blk_put (cs := #[.string ((rd_T117 l1 x17_1).f0), .slice none 0 0]) ?_ 1 _ rfl; (with_reducible repeat (first | refine blk_drewN ?_ _ | refine blk_drew ?_ | refine blk_alloc ?_ _)); refine blk_put (cs := #[.string (⟨#[]⟩ : ByteArray), .slice none 0 0]) ?_ 0 _ rfl; (with_reducible repeat (first | refine blk_drewN ?_ _ | refine blk_drew ?_ | refine blk_alloc ?_ _)); exact BK164.out) hb); have n2_ := Aside0.mk (below_step (by repeat (first | (with_reducible first | exact HB.out | apply below_alloc | apply pw_below_drewN | apply below_drew1 | refine below_set ?_ GE164.out) | exact HB.out)) hb); clear HO_6; clear BK164; clear HB; have HO_6 := n0_; have BK164 := n1_; have HB := n2_; clear n0_ n1_ n2_; (try clear hb); (try clear hb2); (try clear hk); (try clear hi)))
              go_ret2
              exact ⟨_, by first | rfl | (simp [errW_none, errW_some] <;> rfl) | (simp [*, errW_none, errW_some] <;> rfl), by first | exact Kd.R_nil _ _ _ _ _ | exact Kd.N_nil _ _ _ _ _ | exact Kd.V_nil _ _ _ _ _ | exact Kd.Q_nil _ _ _ _ _ | exact Kd.S_nil _ _ _ _ _, by repeat (first | (with_reducible first | exact HB.out | apply below_alloc | apply pw_below_drewN | apply below_drew1 | refine below_set ?_ GE164.out) | exact HB.out)⟩
          · rw [if_neg c5] at H
            exact absurd H (by simp)
        · rw [if_neg c4] at H
          exact absurd H (by simp)
      · rw [if_neg c3] at H
        have c3b0 : decide (x17_1 < (l1.length : Int)) = false := decide_eq_false c3
        clear c3
        replace H := Option.bind_eq_some_iff.mp H
        obtain ⟨t171, A160, H⟩ := H
        replace H : (stat_Nearest.l1 k1 ([] : List Int) t171 (x6_1.length : Int) 0) = some (r1, r2) := H
        have A16 := Aside0.mk A160
        clear A160
        have H' := Aside0.mk H
        clear H
        obtain ⟨Ao17, co17, eo17⟩ := Kd.R_slice HO_6.out
        subst eo17
        go_wp2_with (first | ((with_reducible refine gate_callee (f := 119) rfl ?_); refine goesL_ (some 41) rfl rfl Try.func119 (by kernel_rfl) rfl #[.slice Ao17 x6_1.length co17, .func (.func 120) #[] #[]] rfl (by (try simp only [List.map_toArray, List.map_cons, List.map_nil]); first | done | rfl | (simp only [List.length_drop, List.length_take]; rfl)) ?_; (with_reducible refine (stat_far.calls (fun k_ => some k_ = (.slice Ao17 x6_1.length co17 : Value).ownBlock) (.slice Ao17 x6_1.length co17) x6_1 120 t171 w _ ?side1 ?side2 A16.out).mono ?_); (case side1 => repeat (first | (with_reducible first | exact HB.out | apply below_alloc | apply pw_below_drewN | apply below_drew1) | exact HB.out)); (case side2 => exact Kd.R_tight rfl HO_6.out); rintro e w18 ⟨rfl, hy0, hb, hkp⟩; refine ⟨_, rfl, ?_⟩; have n0_ := Aside0.mk (Kd.R_reok rfl hy0 (fun k_ e_ => HO_6.out.1 k_ e_)); have n1_ := Aside0.mk (hb); clear HO_6; clear HB; have HO_6 := n0_; have HB := n1_; clear n0_ n1_; (try clear hb); (try clear hkp); (try clear hy0)))
        go_loopg [12, 44] k1 (fun kq v12 v44 w' => ∃ (x12_2 : List Int) (x44_2 : Int), v44 = .int .i64 x44_2 ∧ Aside0 (stat_Nearest.l1 kq x12_2 t171 (x6_1.length : Int) x44_2 = some (r1, r2)) ∧ Aside0 (kq ≤ k1) ∧ Aside0 (Kd.R (Kd.int .i64) 3 w' w.heap.size (fun _ => True) v12 x12_2) ∧ Aside0 (Kd.R k178 178 w' w.heap.size (fun _ => True) (.slice Ao17 x6_1.length co17) t171) ∧ Aside0 (Below w.heap.size w w'))
        case atStart => exact ⟨(([] : List Int)), (0), (by first | rfl | (simp; done) | (simp [*]; done)), H', ⟨Nat.le_refl _⟩, ⟨by first | exact Kd.R_nil _ _ _ _ _ | exact Kd.N_nil _ _ _ _ _ | exact Kd.V_nil _ _ _ _ _ | exact Kd.Q_nil _ _ _ _ _ | exact Kd.S_nil _ _ _ _ _⟩, ⟨by (with_reducible repeat (first | apply Kd.R_alloc | apply Kd.R_drewN | apply Kd.R_drew)); exact HO_6.out⟩, ⟨by repeat (first | (with_reducible first | exact HB.out | apply below_alloc | apply pw_below_drewN | apply below_drew1) | exact HB.out)⟩⟩
        case round =>
          clear H'
          try clear c1
          try clear p1
          try clear q1
          try clear hx1
          try clear p2
          try clear c3
          try clear c3b0
          try clear c4
          try clear c4b0
          try clear c5
          try clear c5b0
          try clear p6
          try clear c7
          try clear c7b0
          try clear c7b1
          try clear c8
          try clear c11
          try clear c16
          try clear p16
          try clear q16
          try clear hx16
          try clear hcz10_0
          try clear hcz10_1
          try clear hcz14_0
          try clear hcz14_1
          try clear hfz10_0
          try clear hfz10_1
          try clear hfz14_0
          try clear hfz14_1
          try clear hx163_0
          try clear hx163_1
          try clear p163
          try clear p2
          try clear q163
          obtain ⟨x12_2, x44_2, rfl, HA, HK2, HO_12, HO_42, HB⟩ := hrel
          have hl42_2 := (Kd.R_reads' HO_42.out).1
          rw [hl42_2] at HO_42
          (try simp only [hl42_2])
          (try simp only [hl42_2] at HO_12)
          cases gk with
          | zero => exact absurd HA.out (by simp [stat_Nearest.l1])
          | succ k2 =>
            have H := HA.out
            clear HA
            simp only [stat_Nearest.l1] at H
            by_cases c19 : x44_2 < (x6_1.length : Int)
            · rw [if_pos c19] at H
              have c19b0 : decide (x44_2 < (x6_1.length : Int)) = true := decide_eq_true c19
              (try (have c19h0 := c19b0; simp only [hl42_2] at c19h0))
              clear c19
              by_cases c20 : 0 ≤ x44_2
              · rw [if_pos c20] at H
                have c20b0 : decide (0 ≤ x44_2) = true := decide_eq_true c20
                clear c20
                by_cases c21 : x44_2 < (t171.length : Int)
                · rw [if_pos c21] at H
                  have c21b0 : decide (x44_2 < (t171.length : Int)) = true := decide_eq_true c21
                  (try (have c21h0 := c21b0; simp only [hl42_2] at c21h0))
                  clear c21
                  by_cases c22 : x12_2.length < 17592186044416
                  · rw [if_pos c22] at H
                    have LMc22 := Aside0.mk c22
                    clear c22
                    obtain ⟨y174, hy174⟩ : ∃ y_ : List Int, y_ = (x12_2 ++ [(rd_T178 t171 x44_2).f0]) := ⟨_, rfl⟩
                    replace H : (stat_Nearest.l1 k2 y174 t171 (x6_1.length : Int) (wrap64 (x44_2 + 1))) = some (r1, r2) := by first | (rw [hy174]; with_reducible exact H) | (have H2_ := (Option.bind_some _ _).symm.trans H; rw [hy174]; with_reducible exact H2_) | (have H2_ := (Option.bind_some _ _).symm.trans H; with_reducible exact H2_) | with_reducible exact H | (rw [hy174]; exact H) | exact H
                    have Ny174 := Aside0.mk hy174
                    clear hy174
                    have H' := Aside0.mk H
                    clear H
                    have p172 : 0 ≤ (x44_2 : Int) := of_decide_eq_true (by first | (with_reducible assumption) | assumption)
                    have q172 : x44_2 < (t171.length : Int) := of_decide_eq_true (by first | (with_reducible assumption) | assumption)
                    obtain ⟨ad172, e172, hx172_0, hx172_1, hx172_2⟩ := at_T178 (Kd.R_reads' HO_42.out).2.2 x44_2 p172 q172
                    cases e172
                    replace p172 := eq_true p172
                    replace q172 := eq_true q172
                    go_wp2_with (first | ((with_reducible refine gate_dst (N := 14) rfl ?_); refine box_event ?hg (N := 14) ?hd (cs := #[.int .i64 0, .int .i64 0, .int .i64 0]) (t := 178) ?hr ?_; (case hd => rfl); (case hg => rfl); (case hr => first | (go_simp; done) | (go_simp; rfl)); intro gb173 hg w23 hbox hb; have n0_ := Aside0.mk (Kd.R_below (by (with_reducible repeat (first | apply Kd.R_alloc | apply Kd.R_drewN | apply Kd.R_drew)); exact HO_12.out) hb); have n1_ := Aside0.mk (Kd.R_below (Kd.R_elderB (by (with_reducible repeat (first | apply Kd.R_alloc | apply Kd.R_drewN | apply Kd.R_drew)); exact HO_42.out) gb173 (Nat.le_of_eq hg.symm)) hb); have n2_ := Aside0.mk (below_step (by repeat (first | (with_reducible first | exact HB.out | apply below_alloc | apply pw_below_drewN | apply below_drew1) | exact HB.out)) hb); have n3_ := Aside0.mk (hbox); have n4_ := Aside0.mk ((by rw [hg]; exact (below_size (by repeat (first | (with_reducible first | exact HB.out | apply below_alloc | apply pw_below_drewN | apply below_drew1) | exact HB.out))) : w.heap.size ≤ gb173)); have n5_ := Aside0.mk ((by rw [hg]; exact (below_size (by repeat (first | (with_reducible first | exact HB.out | apply below_alloc | apply pw_below_drewN | apply below_drew1) | exact HB.out))) : w.heap.size ≤ gb173)); clear HO_12; clear HO_42; clear HB; have HO_12 := n0_; have HO_42 := n1_; have HB := n2_; have BK173 := n3_; have GW173 := n4_; have GE173 := n5_; clear n0_ n1_ n2_ n3_ n4_ n5_; clear hb hbox hg; have hcz24_0 : w23.cell? ⟨gb173, 0, none⟩ = some (.int .i64 0) := (blk_cell BK173.out 0).trans rfl; have hcz24_1 : w23.cell? ⟨gb173, 1, none⟩ = some (.int .i64 0) := (blk_cell BK173.out 1).trans rfl; have hcz24_2 : w23.cell? ⟨gb173, 2, none⟩ = some (.int .i64 0) := (blk_cell BK173.out 2).trans rfl; have hfz24_0 := blk_frozen BK173.out 0; have hfz24_1 := blk_frozen BK173.out 1; have hfz24_2 := blk_frozen BK173.out 2) | ((with_reducible refine gate_builtin (b := .append) (xs := #[.tmp 48, .tmp 51]) rfl ?_); at_builtin; refine Kd.R_append (Kd.int .i64) (w0 := w) w.heap.size rfl (.tmp 48) (.tmp 51) 22 3 (.int .i64 0) 8 rfl Try.underlying22 info3 rfl (by decide) (by omega) u12 x12_2 ((rd_T178 t171 x44_2).f0) [.int .i64 ((rd_T178 t171 x44_2).f0)] (fun _ => True) (fun _ => False) rfl (by first | (go_simp; done) | (go_simp; rfl)) ?aP (fun _ hk => hk.elim) ?aF ?aO ?aB ?aS ?aL ?_; (case aP => exact rfl); (case aB => exact (by repeat (first | (with_reducible first | exact HB.out | apply below_alloc | apply pw_below_drewN | apply below_drew1 | refine below_set ?_ GE173.out) | exact HB.out))); (case aF => exact (fun _ _ => trivial)); (case aO => exact (by (with_reducible repeat (first | apply Kd.R_alloc | apply Kd.R_drewN | apply Kd.R_drew)); exact Kd.R_mono (Kd.R_far (p := ⟨gb173, 2, none⟩) (Kd.R_far (p := ⟨gb173, 1, none⟩) (Kd.R_far (p := ⟨gb173, 0, none⟩) (Kd.R_types HO_12.out BK173.out (by decide)) (fun _ hk => hk.2) (.int .i64 ((rd_T178 t171 x44_2).f0))) (fun _ hk => hk.2) (.int .i64 ((rd_T178 t171 x44_2).f1))) (fun _ hk => hk.2) (.int .i64 ((rd_T178 t171 x44_2).f2))) (fun _ hk => trivial))); (case aS => exact (below_size (by repeat (first | (with_reducible first | exact HB.out | apply below_alloc | apply pw_below_drewN | apply below_drew1 | refine below_set ?_ GE173.out) | exact HB.out)))); (case aL => have := LMc22.out; omega); intro v175 w25 ho hb hg hat; rw [← Ny174.out] at ho; have n0_ := Aside0.mk (Kd.R_over' (by (with_reducible repeat (first | apply Kd.R_alloc | apply Kd.R_drewN | apply Kd.R_drew)); exact (Kd.R_mono (Kd.R_far (p := ⟨gb173, 2, none⟩) (Kd.R_far (p := ⟨gb173, 1, none⟩) (Kd.R_far (p := ⟨gb173, 0, none⟩) (Kd.R_mono HO_42.out (fun k_ hk => (⟨hk, hk.2⟩ : _ ∧ k_ ≠ gb173))) (fun _ hk => hk.2) (.int .i64 ((rd_T178 t171 x44_2).f0))) (fun _ hk => hk.2) (.int .i64 ((rd_T178 t171 x44_2).f1))) (fun _ hk => hk.2) (.int .i64 ((rd_T178 t171 x44_2).f2))) (fun _ h_ => h_.1))) (Kd.R_typed (by (with_reducible repeat (first | apply Kd.R_alloc | apply Kd.R_drewN | apply Kd.R_drew)); exact (Kd.R_mono (Kd.R_far (p := ⟨gb173, 2, none⟩) (Kd.R_far (p := ⟨gb173, 1, none⟩) (Kd.R_far (p := ⟨gb173, 0, none⟩) (Kd.R_types HO_12.out BK173.out (by decide)) (fun _ hk => hk.2) (.int .i64 ((rd_T178 t171 x44_2).f0))) (fun _ hk => hk.2) (.int .i64 ((rd_T178 t171 x44_2).f1))) (fun _ hk => hk.2) (.int .i64 ((rd_T178 t171 x44_2).f2))) (fun _ h_ => h_.1)))) (by decide) hg); have n1_ := Aside0.mk (blk_grown (g := gb173) (o := .cells #[.int .i64 ((rd_T178 t171 x44_2).f0), .int .i64 ((rd_T178 t171 x44_2).f1), .int .i64 ((rd_T178 t171 x44_2).f2)] 178 (0, 0)) (by (with_reducible repeat (first | refine blk_drewN ?_ _ | refine blk_drew ?_ | refine blk_alloc ?_ _)); refine blk_put (cs := #[.int .i64 ((rd_T178 t171 x44_2).f0), .int .i64 ((rd_T178 t171 x44_2).f1), .int .i64 0]) ?_ 2 _ rfl; (with_reducible repeat (first | refine blk_drewN ?_ _ | refine blk_drew ?_ | refine blk_alloc ?_ _)); refine blk_put (cs := #[.int .i64 ((rd_T178 t171 x44_2).f0), .int .i64 0, .int .i64 0]) ?_ 1 _ rfl; (with_reducible repeat (first | refine blk_drewN ?_ _ | refine blk_drew ?_ | refine blk_alloc ?_ _)); refine blk_put (cs := #[.int .i64 0, .int .i64 0, .int .i64 0]) ?_ 0 _ rfl; (with_reducible repeat (first | refine blk_drewN ?_ _ | refine blk_drew ?_ | refine blk_alloc ?_ _)); exact BK173.out) hg (Kd.R_ne HO_12.out BK173.out (by decide))); have n2_ := Aside0.mk (hb); have n3_ := Aside0.mk (ho); clear HO_42; clear BK173; clear HB; clear HO_12; have HO_42 := n0_; have BK173 := n1_; have HB := n2_; have HO176 := n3_; clear n0_ n1_ n2_ n3_; clear ho hb hg hat))
                    (try simp only [← hl42_2])
                    go_roundg k2
                    case measure => have := HK1.out; have := HK2.out; omega
                    case rel => exact ⟨(y174), (wrap64 (x44_2 + 1)), (by first | rfl | (simp; done) | (simp [*]; done)), H', ⟨by have := HK1.out; have := HK2.out; omega⟩, ⟨by (try simp only [hl42_2]); (with_reducible repeat (first | apply Kd.R_alloc | apply Kd.R_drewN | apply Kd.R_drew)); exact HO176.out⟩, ⟨by (try simp only [hl42_2]); (with_reducible repeat (first | apply Kd.R_alloc | apply Kd.R_drewN | apply Kd.R_drew)); exact Kd.R_mono HO_42.out (fun _ hk => trivial)⟩, ⟨by repeat (first | (with_reducible first | exact HB.out | apply below_alloc | apply pw_below_drewN | apply below_drew1 | refine below_set ?_ GE173.out) | exact HB.out)⟩⟩
                  · rw [if_neg c22] at H
                    exact absurd H (by simp)
                · rw [if_neg c21] at H
                  exact absurd H (by simp)
              · rw [if_neg c20] at H
                exact absurd H (by simp)
            · rw [if_neg c19] at H
              have c19b0 : decide (x44_2 < (x6_1.length : Int)) = false := decide_eq_false c19
              (try (have c19h0 := c19b0; simp only [hl42_2] at c19h0))
              clear c19
              simp only [Option.some.injEq, Prod.mk.injEq] at H
              obtain ⟨rfl, rfl⟩ := H
              go_wp2
              go_ret2
              exact ⟨_, by first | rfl | (simp [errW_none, errW_some] <;> rfl) | (simp [*, errW_none, errW_some] <;> rfl), by (with_reducible repeat (first | apply Kd.R_alloc | apply Kd.R_drewN | apply Kd.R_drew)); exact HO_12.out, by repeat (first | (with_reducible first | exact HB.out | apply below_alloc | apply pw_below_drewN | apply below_drew1) | exact HB.out)⟩

/-! ### wrackkeep3_StatOwn: function 14 -/
theorem wrackkeep3_StatOwn.litC (W : World) (A B : Option Addr) (c d : Nat) (xs ys : List Int) (t : TypeId) (hA : Kd.C (Kd.int .u8) W A xs.length xs) (hB : Kd.C (Kd.int .u8) W B ys.length ys) (hc : xs.length ≤ c) (hd : ys.length ≤ d) :
    Kd.C (Kd.slice 5 (Kd.int .u8)) (W.alloc (.cells #[.slice A xs.length c, .slice B ys.length d] t)) (some ⟨W.heap.size, 0, none⟩) 2 [xs, ys] := by
  have hb := blk_new W (.cells #[.slice A xs.length c, .slice B ys.length d] t (0, 0))
  have hbel : Below W.heap.size W (W.alloc (.cells #[.slice A xs.length c, .slice B ys.length d] t)) := below_alloc (Below.refl _ _) _
  have c0 : (W.alloc (.cells #[.slice A xs.length c, .slice B ys.length d] t)).cell? ⟨W.heap.size, 0, none⟩ = some (.slice A xs.length c) := (blk_cell hb 0).trans rfl
  have c1 : (W.alloc (.cells #[.slice A xs.length c, .slice B ys.length d] t)).cell? ⟨W.heap.size, 1, none⟩ = some (.slice B ys.length d) := (blk_cell hb 1).trans rfl
  have hA' := Kd.C_below hA hbel
  have hB' := Kd.C_below hB hbel
  refine ⟨rfl, by decide, fun _ => ⟨_, rfl, fun j p hp => ?_⟩⟩
  match j, hp with
  | 0, hp =>
    obtain rfl : xs = p := by simpa using hp
    exact ⟨[.slice A xs.length c], rfl, ⟨A, c, rfl, hc, hA'⟩, fun i u hu => by
      match i, hu with
      | 0, hu =>
        obtain rfl : Value.slice A xs.length c = u := by simpa using hu
        exact c0⟩
  | 1, hp =>
    obtain rfl : ys = p := by simpa using hp
    exact ⟨[.slice B ys.length d], rfl, ⟨B, d, rfl, hd, hB'⟩, fun i u hu => by
      match i, hu with
      | 0, hu =>
        obtain rfl : Value.slice B ys.length d = u := by simpa using hu
        exact c1⟩
theorem wrackkeep3_StatOwn.lit117 (W : World) (A B : Option Addr) (c d : Nat) (m n : ByteArray) (xs ys : List Int) (t : TypeId) (hA : Kd.C (Kd.int .i64) W A xs.length xs) (hB : Kd.C (Kd.int .i64) W B ys.length ys) (hc : xs.length ≤ c) (hd : ys.length ≤ d) :
    Kd.C k117 (W.alloc (.cells #[.string m, .slice A xs.length c, .string n, .slice B ys.length d] t)) (some ⟨W.heap.size, 0, none⟩) 2 [⟨m, xs⟩, ⟨n, ys⟩] := by
  have hb := blk_new W (.cells #[.string m, .slice A xs.length c, .string n, .slice B ys.length d] t (0, 0))
  have hbel : Below W.heap.size W (W.alloc (.cells #[.string m, .slice A xs.length c, .string n, .slice B ys.length d] t)) := below_alloc (Below.refl _ _) _
  have q0 := (blk_cell hb 0)
  have q1 := (blk_cell hb 1)
  have q2 := (blk_cell hb 2)
  have q3 := (blk_cell hb 3)
  have hA' := Kd.C_below hA hbel
  have hB' := Kd.C_below hB hbel
  refine ⟨rfl, by decide, fun _ => ⟨_, rfl, fun j p hp => ?_⟩⟩
  match j, hp with
  | 0, hp =>
    obtain rfl : (⟨m, xs⟩ : S117) = p := by simpa using hp
    exact ⟨[.string m, .slice A xs.length c], rfl, ⟨[.string m], [.slice A xs.length c], rfl, rfl, ⟨A, c, rfl, hc, hA'⟩⟩, fun i u hu => by
      match i, hu with
      | 0, hu => exact q0.trans hu
      | 1, hu => exact q1.trans hu⟩
  | 1, hp =>
    obtain rfl : (⟨n, ys⟩ : S117) = p := by simpa using hp
    exact ⟨[.string n, .slice B ys.length d], rfl, ⟨[.string n], [.slice B ys.length d], rfl, rfl, ⟨B, d, rfl, hd, hB'⟩⟩, fun i u hu => by
      match i, hu with
      | 0, hu => exact q2.trans hu
      | 1, hu => exact q3.trans hu⟩
set_option maxHeartbeats 2000000 in
set_option maxRecDepth 100000 in
theorem wrackkeep3_StatOwn.lawx (k : Nat) (A0 : Option Addr) (c0 : Nat) (l0 : List Int) (A1 : Option Addr) (c1 : Nat) (l1 : List Int) (w : World) (hr0 : Kd.C (Kd.int .u8) w A0 l0.length l0) (hc0 : l0.length ≤ c0) (hr1 : Kd.C (Kd.int .u8) w A1 l1.length l1) (hc1 : l1.length ≤ c1)
    (a b : List Int) (ha : a = l0.take (min (l0.length : Int) 500).toNat) (hb : b = l1.take (min (l1.length : Int) 500).toNat)
    (pn : ByteArray) (pc : List Int) (h1 : stat_Learn.f k ⟨#[112]⟩ [a, [120]] = some (pn, pc, 0))
    (qn : ByteArray) (qc : List Int) (h2 : stat_Learn.f k ⟨#[113]⟩ [b, [121, 122]] = some (qn, qc, 0))
    (o : List Int) (h3 : slices_Concat_byte_byte.f k [[120], a] = some o) (of_ : Int) (h4 : stat_Distance.f k o pn pc = some (0, of_, 0)) (nl : List Int) (h5 : stat_Nearest.f k o [⟨qn, qc⟩, ⟨pn, pc⟩] = some (nl, 0))
    (h6 : wrackkeep3_counted.f k = some true) (hnl : nl.length = 2) (hof : of_ = wrap64 ((o.length : Int) * (o.length : Int))) (ot o2 : Int) (h7 : stat_Distance.f k o qn qc = some (ot, o2, 0)) (h8 : ot ≤ wrap64 (2 * o2)) (h9 : rd nl 0 = 1 ∨ ot = 0) :
    Calls Try.prog 14 #[.slice A0 l0.length c0, .slice A1 l1.length c1] w fun e w' => e = .returned (.bool true) ∧ Below w.heap.size w w' := by
  obtain ⟨i0, hi0, _, hsz, _⟩ := info_parts info5
  obtain ⟨m0, hm0⟩ : ∃ m : Int, (if (500 : Int) < (l0.length : Int) then 500 else (l0.length : Int)) = m := ⟨_, rfl⟩
  obtain ⟨m1, hm1⟩ : ∃ m : Int, (if (500 : Int) < (l1.length : Int) then 500 else (l1.length : Int)) = m := ⟨_, rfl⟩
  have hm0b : m0 = min (l0.length : Int) 500 := by rw [← hm0]; split <;> omega
  have hm1b : m1 = min (l1.length : Int) 500 := by rw [← hm1]; split <;> omega
  rw [← hm0b] at ha
  rw [← hm1b] at hb
  have hcut0 := cut_to (P := Try.prog) 23 5 .i64 Try.underlying23 hi0 A0 l0.length c0 m0 (by omega) (by omega) hc0
  have hcut1 := cut_to (P := Try.prog) 23 5 .i64 Try.underlying23 hi0 A1 l1.length c1 m1 (by omega) (by omega) hc1
  have hla : m0.toNat = a.length := by rw [ha, List.length_take]; omega
  have hlb : m1.toNat = b.length := by rw [hb, List.length_take]; omega
  have HRa := Aside0.mk (show Kd.C (Kd.int .u8) w A0 a.length a from by have := Kd.C_take (m := m0.toNat) hr0 (by omega); rw [← ha] at this; exact this)
  have HRb := Aside0.mk (show Kd.C (Kd.int .u8) w A1 b.length b from by have := Kd.C_take (m := m1.toNat) hr1 (by omega); rw [← hb] at this; exact this)
  have HCa := Aside0.mk (show a.length ≤ c0 from by omega)
  have HCb := Aside0.mk (show b.length ≤ c1 from by omega)
  have HLA := Aside0.mk hla
  have HLB := Aside0.mk hlb
  have H1 := Aside0.mk h1
  have H2 := Aside0.mk h2
  have H3 := Aside0.mk h3
  have H4 := Aside0.mk h4
  have H5 := Aside0.mk h5
  have H6 := Aside0.mk h6
  have H7 := Aside0.mk h7
  have H8 := Aside0.mk h8
  have H9 := Aside0.mk h9
  have HNL := Aside0.mk hnl
  have HOF := Aside0.mk hof
  clear hm0b hm1b hr0 hr1 hla hlb ha hb h1 h2 h3 h4 h5 h6 h7 h8 h9 hnl hof hc0 hc1
  go_enter Try.func14, Try.ntmps14
  go_upto_region 2 with (fail)
  repeat (go_quiet (fail); try go_upto_region 2 with (fail))
  rw [HLA.out, HLB.out]
  have HB0 : Aside0 (Below w.heap.size w (w.drewN nq)) := ⟨pw_below_drewN (Below.refl _ _) _⟩
  generalize w.drewN nq = W at HB0 ⊢
  clear hcut0 hcut1
  go_upto_region 3 with (first | ((with_reducible refine gate_dst (N := 29) rfl ?_); refine bytelit ?hg (N := 29) ?hd 23 5 (.tmp 28) ?ho ([120] : List Int) _ ?hC ?hm ?hx Try.underlying23 Try.underlying5 ?_; (case hd => rfl); (case hg => rfl); (case ho => rfl); (case hC => rfl); (case hm => simp); (case hx => first | rfl | (simp; done) | (go_simp; done)); intro v1 w1 ho hb hg_ hnew_; clear hg_ hnew_; have HB1 := Aside0.mk (below_step HB0.out hb); have HO1 := Aside0.mk ho; clear ho hb; obtain ⟨Ao1, co1, eo1⟩ := Kd.V_slice HO1.out; subst eo1) | (go_at_call 72; refine (stat_Learn.calls k _ (some ⟨w1.heap.size, 0, none⟩) 2 [a, [120]] pn pc 0 _ (wrackkeep3_StatOwn.litC w1 A0 Ao1 c0 co1 a [120] 23 (Kd.C_below HRa.out HB1.out) (Kd.V_reads' HO1.out).2.2 HCa.out (Kd.V_reads' HO1.out).2.1) (Nat.le_refl 2) H1.out).mono ?_; rintro e w2 ⟨v2, rfl, hR, hb⟩; have HR2 := Aside0.mk hR; have HB2 := Aside0.mk (below_step (below_alloc HB1.out _) hb); clear hR hb; obtain ⟨Ap, cp, ep⟩ := Kd.R_slice HR2.out; subst ep))
  have HBK5 : Aside0 ((w2.alloc (.cells #[.string pn, .slice Ap pc.length cp] 117)).heap[w2.heap.size]? = some (.cells #[.string pn, .slice Ap pc.length cp] 117 (0, 0))) := ⟨blk_new w2 _⟩
  have HB3 : Aside0 (Below w.heap.size w (w2.alloc (.cells #[.string pn, .slice Ap pc.length cp] 117))) := ⟨below_alloc HB2.out _⟩
  have HRp : Aside0 (Kd.C (Kd.int .i64) (w2.alloc (.cells #[.string pn, .slice Ap pc.length cp] 117)) Ap pc.length pc) := ⟨Kd.C_below (Kd.R_reads' HR2.out).2.2 (below_alloc (Below.refl _ _) _)⟩
  have HCp := Aside0.mk (Kd.R_reads' HR2.out).2.1
  generalize w2.alloc (.cells #[.string pn, .slice Ap pc.length cp] 117) = W3 at HBK5 HB3 HRp ⊢
  generalize w2.heap.size = g5 at HBK5 ⊢
  clear HR2 HB2 HO1 HB1 HB0
  go_upto_region 4 with (first | ((with_reducible refine gate_dst (N := 37) rfl ?_); refine bytelit ?hg (N := 37) ?hd 23 5 (.tmp 36) ?ho ([121, 122] : List Int) _ ?hC ?hm ?hx Try.underlying23 Try.underlying5 ?_; (case hd => rfl); (case hg => rfl); (case ho => rfl); (case hC => rfl); (case hm => simp); (case hx => first | rfl | (simp; done) | (go_simp; done)); intro v4 w4 ho hb hg_ hnew_; clear hg_ hnew_; have HB4 := Aside0.mk (below_step HB3.out hb); have HS4 := Aside0.mk hb; have HO4 := Aside0.mk ho; clear ho hb; obtain ⟨Ao4, co4, eo4⟩ := Kd.V_slice HO4.out; subst eo4) | (go_at_call 72; refine (stat_Learn.calls k _ (some ⟨w4.heap.size, 0, none⟩) 2 [b, [121, 122]] qn qc 0 _ (wrackkeep3_StatOwn.litC w4 A1 Ao4 c1 co4 b [121, 122] 23 (Kd.C_below HRb.out HB4.out) (Kd.V_reads' HO4.out).2.2 HCb.out (Kd.V_reads' HO4.out).2.1) (Nat.le_refl 2) H2.out).mono ?_; rintro e w5 ⟨v5, rfl, hR, hb⟩; have HR5 := Aside0.mk hR; have HB5 := Aside0.mk (below_step (below_alloc HB4.out _) hb); have HS5 := Aside0.mk (below_step (below_alloc HS4.out _) hb); clear hR hb; obtain ⟨Aq, cq, eq⟩ := Kd.R_slice HR5.out; subst eq))
  have HBK7 : Aside0 ((w5.alloc (.cells #[.string qn, .slice Aq qc.length cq] 117)).heap[w5.heap.size]? = some (.cells #[.string qn, .slice Aq qc.length cq] 117 (0, 0))) := ⟨blk_new w5 _⟩
  have HB6 : Aside0 (Below w.heap.size w (w5.alloc (.cells #[.string qn, .slice Aq qc.length cq] 117))) := ⟨below_alloc HB5.out _⟩
  have HS6 : Aside0 (Below W3.heap.size W3 (w5.alloc (.cells #[.string qn, .slice Aq qc.length cq] 117))) := ⟨below_alloc HS5.out _⟩
  have HRq : Aside0 (Kd.C (Kd.int .i64) (w5.alloc (.cells #[.string qn, .slice Aq qc.length cq] 117)) Aq qc.length qc) := ⟨Kd.C_below (Kd.R_reads' HR5.out).2.2 (below_alloc (Below.refl _ _) _)⟩
  have HCq := Aside0.mk (Kd.R_reads' HR5.out).2.1
  generalize w5.alloc (.cells #[.string qn, .slice Aq qc.length cq] 117) = W6 at HBK7 HB6 HS6 HRq ⊢
  generalize w5.heap.size = g7 at HBK7 ⊢
  have HRp6 := Aside0.mk (Kd.C_below HRp.out HS6.out)
  have HBK56 := Aside0.mk (blk_below HBK5.out HS6.out)
  clear HR5 HB5 HS5 HO4 HB4 HS4 HRp HBK5 HS6 HB3
  go_upto_region 5 with (first | ((with_reducible refine gate_dst (N := 43) rfl ?_); refine bytelit ?hg (N := 43) ?hd 23 5 (.tmp 42) ?ho ([120] : List Int) _ ?hC ?hm ?hx Try.underlying23 Try.underlying5 ?_; (case hd => rfl); (case hg => rfl); (case ho => rfl); (case hC => rfl); (case hm => simp); (case hx => first | rfl | (simp; done) | (go_simp; done)); intro v8 w8 ho hb hg_ hnew_; clear hg_ hnew_; have HB8 := Aside0.mk (below_step HB6.out hb); have HS8 := Aside0.mk hb; have HO8 := Aside0.mk ho; clear ho hb; obtain ⟨Ao8, co8, eo8⟩ := Kd.V_slice HO8.out; subst eo8) | (go_at_call 73; refine (slices_Concat_byte_byte.calls k (some ⟨w8.heap.size, 0, none⟩) 2 [[120], a] o _ (wrackkeep3_StatOwn.litC w8 Ao8 A0 co8 c0 [120] a 23 (Kd.V_reads' HO8.out).2.2 (Kd.C_below HRa.out HB8.out) (Kd.V_reads' HO8.out).2.1 HCa.out) (Nat.le_refl 2) H3.out).mono ?_; rintro e w9 ⟨v9, rfl, hR, hb⟩; have HR9 := Aside0.mk hR; have HB9 := Aside0.mk (below_step (below_alloc HB8.out _) hb); have HS9 := Aside0.mk (below_step (below_alloc HS8.out _) hb); clear hR hb; obtain ⟨Aw, cw, ew⟩ := Kd.R_slice HR9.out; subst ew))
  have HRo := Aside0.mk (Kd.R_reads' HR9.out).2.2
  have HCo := Aside0.mk (Kd.R_reads' HR9.out).2.1
  have HRp9 := Aside0.mk (Kd.C_below HRp6.out HS9.out)
  have HRq9 := Aside0.mk (Kd.C_below HRq.out HS9.out)
  have HK5 := Aside0.mk (blk_below HBK56.out HS9.out)
  have HK7 := Aside0.mk (blk_below HBK7.out HS9.out)
  clear HR9 HS9 HO8 HB8 HS8 HRp6 HRq HBK56 HBK7 HB6
  have x50 : w9.cell? ⟨g5, 0, none⟩ = some (.string pn) := (blk_cell HK5.out 0).trans rfl
  have x51 : w9.cell? ⟨g5, 1, none⟩ = some (.slice Ap pc.length cp) := (blk_cell HK5.out 1).trans rfl
  go_upto_region 6 with (go_at_call 74; refine (stat_Distance.calls k Aw cw o pn Ap cp pc 0 of_ 0 _ HRo.out HCo.out HRp9.out HCp.out H4.out).mono ?_; rintro e w10 ⟨rfl, hb⟩; have HS10 := Aside0.mk hb; clear hb)
  have HB10 := Aside0.mk (below_step HB9.out HS10.out)
  have HRo10 := Aside0.mk (Kd.C_below HRo.out HS10.out)
  have HRp10 := Aside0.mk (Kd.C_below HRp9.out HS10.out)
  have HRq10 := Aside0.mk (Kd.C_below HRq9.out HS10.out)
  have HL5 := Aside0.mk (blk_below HK5.out HS10.out)
  have HL7 := Aside0.mk (blk_below HK7.out HS10.out)
  clear x50 x51 HRo HRp9 HRq9 HK5 HK7 HS10 HB9
  have x50 : w10.cell? ⟨g5, 0, none⟩ = some (.string pn) := (blk_cell HL5.out 0).trans rfl
  have x51 : w10.cell? ⟨g5, 1, none⟩ = some (.slice Ap pc.length cp) := (blk_cell HL5.out 1).trans rfl
  have x70 : w10.cell? ⟨g7, 0, none⟩ = some (.string qn) := (blk_cell HL7.out 0).trans rfl
  have x71 : w10.cell? ⟨g7, 1, none⟩ = some (.slice Aq qc.length cq) := (blk_cell HL7.out 1).trans rfl
  go_upto_region 7 with (go_at_call 75; refine (stat_Nearest.calls k Aw cw o (some ⟨w10.heap.size, 0, none⟩) 2 [⟨qn, qc⟩, ⟨pn, pc⟩] nl 0 _ (Kd.C_below HRo10.out (below_alloc (Below.refl _ _) _)) HCo.out (wrackkeep3_StatOwn.lit117 w10 Aq Ap cq cp qn pn qc pc _ HRq10.out HRp10.out HCq.out HCp.out) (Nat.le_refl 2) H5.out).mono ?_; rintro e w11 ⟨v11, rfl, hR, hb⟩; have HR11 := Aside0.mk hR; have HS11 := Aside0.mk (below_step (below_alloc (Below.refl _ _) _) hb); clear hR hb; obtain ⟨An, cn, en⟩ := Kd.R_slice HR11.out; subst en)
  have t1 : (((nl.length : Nat) : Int) != 2) = false := by rw [HNL.out]; rfl
  have t2 : (of_ != wrap64 ((o.length : Int) * (o.length : Int))) = false := by rw [HOF.out]; exact bne_self_eq_false _
  have t1b : (nl.length != 2) = false := by rw [HNL.out]; rfl
  have t1c : decide (nl.length = 2) = true := by rw [HNL.out]; rfl
  have HB11 := Aside0.mk (below_step HB10.out HS11.out)
  have HRo11 := Aside0.mk (Kd.C_below HRo10.out HS11.out)
  have HRq11 := Aside0.mk (Kd.C_below HRq10.out HS11.out)
  have HM7 := Aside0.mk (blk_below HL7.out HS11.out)
  clear x50 x51 x70 x71 HRo10 HRp10 HRq10 HL5 HL7 HS11 HB10
  go_upto_region 9 with (go_at_call 21; refine (wrackkeep3_counted.calls k true _ H6.out).mono ?_; rintro e w12 ⟨rfl, hb⟩; have HS12 := Aside0.mk hb; clear hb)
  clear t1 t2 t1b t1c
  have HRn := Aside0.mk (Kd.R_below HR11.out HS12.out)
  have HB12 := Aside0.mk (below_step HB11.out HS12.out)
  have HRo12 := Aside0.mk (Kd.C_below HRo11.out HS12.out)
  have HRq12 := Aside0.mk (Kd.C_below HRq11.out HS12.out)
  have HN7 := Aside0.mk (blk_below HM7.out HS12.out)
  clear HR11 HRo11 HRq11 HM7 HS12 HB11
  have x70 : w12.cell? ⟨g7, 0, none⟩ = some (.string qn) := (blk_cell HN7.out 0).trans rfl
  have x71 : w12.cell? ⟨g7, 1, none⟩ = some (.slice Aq qc.length cq) := (blk_cell HN7.out 1).trans rfl
  go_upto_region 10 with (go_at_call 74; refine (stat_Distance.calls k Aw cw o qn Aq cq qc ot o2 0 _ HRo12.out HCo.out HRq12.out HCq.out H7.out).mono ?_; rintro e w13 ⟨rfl, hb⟩; have HS13 := Aside0.mk hb; clear hb)
  have HRn13 := Aside0.mk (Kd.R_below HRn.out HS13.out)
  have HB13 := Aside0.mk (below_step HB12.out HS13.out)
  clear x70 x71 HRn HRo12 HRq12 HN7 HS13 HB12
  obtain ⟨ad, e0, hx⟩ := Kd.at_int (Kd.R_reads' HRn13.out).2.2 0 (by omega) (by have := HNL.out; omega)
  cases e0
  rw [show ((0 : Int)).toNat = 0 from rfl, Addr.add_zero'] at hx
  have l2 : (2 : Int) = (nl.length : Int) := by rw [HNL.out]; rfl
  have q0 : (0 : Int) < (nl.length : Int) := by omega
  have q0b : decide ((0 : Int) < (nl.length : Int)) = true := decide_eq_true q0
  have t3 : decide (ot ≤ wrap64 (2 * o2)) = true := decide_eq_true H8.out
  by_cases hc : rd nl 0 = 1
  · have t4 : (rd nl 0 == 1) = true := beq_iff_eq.mpr hc
    clear hc l2
    go_wp2
    go_ret
    exact ⟨by simp, HB13.out⟩
  · have t4 : (rd nl 0 == 1) = false := beq_eq_false_iff_ne.mpr hc
    obtain rfl : ot = 0 := H9.out.resolve_left hc
    clear hc l2
    go_wp2
    go_ret
    exact ⟨by simp, HB13.out⟩

def wrackkeep3_StatOwn.f (k : Nat) (l0 l1 : List Int) : Option Bool :=
  (stat_Learn.f k ⟨#[112]⟩ [l0.take (min (l0.length : Int) 500).toNat, [120]]).bind fun p => (stat_Learn.f k ⟨#[113]⟩ [l1.take (min (l1.length : Int) 500).toNat, [121, 122]]).bind fun q => (slices_Concat_byte_byte.f k [[120], l0.take (min (l0.length : Int) 500).toNat]).bind fun o =>
  (stat_Distance.f k o p.1 p.2.1).bind fun d => (stat_Nearest.f k o [⟨q.1, q.2.1⟩, ⟨p.1, p.2.1⟩]).bind fun n => (wrackkeep3_counted.f k).bind fun c => (stat_Distance.f k o q.1 q.2.1).bind fun e =>
  if p.2.2 = 0 ∧ q.2.2 = 0 ∧ d.1 = 0 ∧ d.2.2 = 0 ∧ n.2 = 0 ∧ c = true ∧ n.1.length = 2 ∧ d.2.1 = wrap64 ((o.length : Int) * (o.length : Int)) ∧ e.2.2 = 0 ∧ e.1 ≤ wrap64 (2 * e.2.1) ∧ (rd n.1 0 = 1 ∨ e.1 = 0) then some true else none
theorem wrackkeep3_StatOwn.calls (k : Nat) (A0 : Option Addr) (c0 : Nat) (l0 : List Int) (A1 : Option Addr) (c1 : Nat) (l1 : List Int) (r : Bool) (w : World) (hr0 : Kd.C (Kd.int .u8) w A0 l0.length l0) (hc0 : l0.length ≤ c0) (hr1 : Kd.C (Kd.int .u8) w A1 l1.length l1) (hc1 : l1.length ≤ c1) (h : wrackkeep3_StatOwn.f k l0 l1 = some r) :
    Calls Try.prog 14 #[.slice A0 l0.length c0, .slice A1 l1.length c1] w fun e w' => e = .returned (.bool r) ∧ Below w.heap.size w w' := by
  unfold wrackkeep3_StatOwn.f at h
  obtain ⟨⟨pn, pc, pe⟩, h1, h⟩ := Option.bind_eq_some_iff.mp h
  obtain ⟨⟨qn, qc, qe⟩, h2, h⟩ := Option.bind_eq_some_iff.mp h
  obtain ⟨o, h3, h⟩ := Option.bind_eq_some_iff.mp h
  obtain ⟨⟨d, of_, de⟩, h4, h⟩ := Option.bind_eq_some_iff.mp h
  obtain ⟨⟨nl, ne⟩, h5, h⟩ := Option.bind_eq_some_iff.mp h
  obtain ⟨ct, h6, h⟩ := Option.bind_eq_some_iff.mp h
  obtain ⟨⟨ot, o2, oe⟩, h7, h⟩ := Option.bind_eq_some_iff.mp h
  simp only at h h4 h5 h7
  split at h
  case isFalse => exact absurd h (by simp)
  case isTrue hh =>
    obtain rfl := Option.some.inj h
    obtain ⟨rfl, rfl, rfl, rfl, rfl, rfl, e1, e2, rfl, e3, e4⟩ := hh
    exact wrackkeep3_StatOwn.lawx k A0 c0 l0 A1 c1 l1 w hr0 hc0 hr1 hc1 _ _ rfl rfl pn pc h1 qn qc h2 o h3 of_ h4 nl h5 h6 e1 e2 ot o2 h7 e3 e4
/-- THE ONE PURE STATEMENT of wrackkeep3_StatOwn. -/
def wrackkeep3_StatOwn.Pure : Prop := ∀ (l0 : List Int) (l1 : List Int), l0.length ≤ maxLen → l0.length * 1 ≤ 140737488351232 → (∀ x ∈ l0, (Lit.int .u8 x).wf = true) → l1.length ≤ maxLen → l1.length * 1 ≤ 140737488351232 → (∀ x ∈ l1, (Lit.int .u8 x).wf = true) → ∃ k, wrackkeep3_StatOwn.f k l0 l1 = some true
theorem wrackkeep3_StatOwn.walk (P : wrackkeep3_StatOwn.Pure) (a0 : Option Addr) (len0 cap0 : Nat) (z0 : List Int) (a1 : Option Addr) (len1 cap1 : Nat) (z1 : List Int) (w : World)
    (w0 : (a0 = none ∧ len0 = 0 ∧ cap0 = 0 ∧ z0 = []) ∨ ∃ x, a0 = some x ∧ len0 ≤ cap0 ∧ cap0 ≤ maxLen ∧ z0.length = cap0 ∧ (∀ i, i < z0.length → w.cell? (x.add i) = some (.int .u8 (z0.getD i 0))) ∧ ∀ n ∈ z0, (Lit.int .u8 n).wf = true) (y0 : len0 * 1 ≤ 140737488351232)
    (w1 : (a1 = none ∧ len1 = 0 ∧ cap1 = 0 ∧ z1 = []) ∨ ∃ x, a1 = some x ∧ len1 ≤ cap1 ∧ cap1 ≤ maxLen ∧ z1.length = cap1 ∧ (∀ i, i < z1.length → w.cell? (x.add i) = some (.int .u8 (z1.getD i 0))) ∧ ∀ n ∈ z1, (Lit.int .u8 n).wf = true) (y1 : len1 * 1 ≤ 140737488351232) :
    Calls Try.prog 14 #[.slice a0 len0 cap0, .slice a1 len1 cap1] w fun e w' => e = .returned (.bool true) ∧ Below w.heap.size w w' := by
  obtain ⟨l0, rfl, hr0, hm0, hw0, hc0⟩ := ReadsInt.ofRowC w0
  obtain ⟨l1, rfl, hr1, hm1, hw1, hc1⟩ := ReadsInt.ofRowC w1
  obtain ⟨k, h⟩ := P l0 l1 hm0 y0 hw0 hm1 y1 hw1
  exact wrackkeep3_StatOwn.calls k _ _ l0 _ _ l1 true w (Kd.C_of_reads (d := (0 : Int)) (h1 := fun _ => rfl) hr0) hc0 (Kd.C_of_reads (d := (0 : Int)) (h1 := fun _ => rfl) hr1) hc1 h

end Go.Proofs.Ytehkplafehlkgaa.PStatOwn
