-- written by prn.py, a program of this session, over the kit's printer
import Derived.Test.YtcnabemeadnecaaPPassPlansx0
namespace Go.Proofs.Ytcnabemeadnecaa.PPassPlans
open Go.RowKit Go.Proofs.YtcnabemeadnecaaW.PrintWords Go.Proofs.YtcnabemeadnecaaW.PrintLast Go.Proofs.YtcnabemeadnecaaW.PrintMore Go.Proofs.YtcnabemeadnecaaW.PrintMine
attribute [local go_sem] max2_int min2_int max_two min_two max_three min_three max_four min_four   -- for this text's walks alone
set_option linter.unusedVariables false
set_option linter.unusedSimpArgs false

/-! ### drive_Check: function 23 -/
mutual
def drive_Check.l0 : Nat → Int → List (S59) → Int → Int → List Int → List (S59) → Option (Int)
  | 0, _, _, _, _, _, _ => none
  | k + 1, x3, x18, x19, x20, x137000, x137001 => if x20 < x19 then (if 0 ≤ x20 then (if x20 < (x18.length : Int) then (if ((rd_T59 x18 x20).f0) < 0 then (drive_Check.j1 k x3 x18 x19 x20 true x137000 x137001 ((rd_T59 x18 x20).f0) ((rd_T59 x18 x20).f1) ((rd_T59 x18 x20).f2)) else (drive_Check.j1 k x3 x18 x19 x20 (decide (((rd_T59 x18 x20).f0) ≥ (wrap64 ((x137000.length : Int) / 64)))) x137000 x137001 ((rd_T59 x18 x20).f0) ((rd_T59 x18 x20).f1) ((rd_T59 x18 x20).f2))) else (none)) else (none)) else (some 0)
def drive_Check.j1 : Nat → Int → List (S59) → Int → Int → Bool → List Int → List (S59) → Int → Int → Int → Option (Int)
  | 0, _, _, _, _, _, _, _, _, _, _ => none
  | k + 1, x3, x18, x19, x20, x24, x137000, x137001, x139000, x139001, x139002 => if x24 = true then (some 4) else (if x139000 ≤ x3 then (some 11) else (if x139001 < 1 then (drive_Check.j2 k x18 x19 x20 true x137000 x137001 x139000 x139001 x139002) else (drive_Check.j2 k x18 x19 x20 (decide (x139001 > 3)) x137000 x137001 x139000 x139001 x139002)))
def drive_Check.j2 : Nat → List (S59) → Int → Int → Bool → List Int → List (S59) → Int → Int → Int → Option (Int)
  | 0, _, _, _, _, _, _, _, _, _ => none
  | k + 1, x18, x19, x20, x42, x137000, x137001, x139000, x139001, x139002 => if x42 = true then (some 1) else (if x139001 = 1 then (drive_Check.j3 k x18 x19 x20 (x139002 != 0) x137000 x137001 x139000 x139001 x139002) else (drive_Check.j3 k x18 x19 x20 false x137000 x137001 x139000 x139001 x139002))
def drive_Check.j3 : Nat → List (S59) → Int → Int → Bool → List Int → List (S59) → Int → Int → Int → Option (Int)
  | 0, _, _, _, _, _, _, _, _, _ => none
  | k + 1, x18, x19, x20, x51, x137000, x137001, x139000, x139001, x139002 => if x51 = true then (some 4) else (if x139001 = 2 then (if x139002 < 2 then (drive_Check.j4 k x18 x19 x20 true x137000 x137001 x139000 x139001 x139002) else (drive_Check.j4 k x18 x19 x20 (decide (x139002 > 16)) x137000 x137001 x139000 x139001 x139002)) else (drive_Check.j4 k x18 x19 x20 false x137000 x137001 x139000 x139001 x139002))
def drive_Check.j4 : Nat → List (S59) → Int → Int → Bool → List Int → List (S59) → Int → Int → Int → Option (Int)
  | 0, _, _, _, _, _, _, _, _, _ => none
  | k + 1, x18, x19, x20, x51, x137000, x137001, x139000, x139001, x139002 => if x51 = true then (some 4) else (if x139001 = 3 then (if x139002 < 2 then (some 4) else (if x139002 > 100 then (some 4) else (drive_Check.l0 k x139000 x18 x19 (wrap64 (x20 + 1)) x137000 x137001))) else (drive_Check.l0 k x139000 x18 x19 (wrap64 (x20 + 1)) x137000 x137001))
end
def drive_Check.f (k : Nat) (l0_0 : List Int) (l0_1 : List (S59)) : Option (Int) := if (l0_0.length : Int) > 65536 then (some 2) else (if ((l0_0.length : Int) % 64) = 0 then (drive_Check.l0 k (-1) l0_1 (l0_1.length : Int) 0 l0_0 l0_1) else (some 3))
theorem drive_Check.mono_l : ∀ k, (∀ y0 y1 y2 y3 y4 y5, LeO (drive_Check.l0 k y0 y1 y2 y3 y4 y5) (drive_Check.l0 (k + 1) y0 y1 y2 y3 y4 y5)) ∧ (∀ y0 y1 y2 y3 y4 y5 y6 y7 y8 y9, LeO (drive_Check.j1 k y0 y1 y2 y3 y4 y5 y6 y7 y8 y9) (drive_Check.j1 (k + 1) y0 y1 y2 y3 y4 y5 y6 y7 y8 y9)) ∧ (∀ y0 y1 y2 y3 y4 y5 y6 y7 y8, LeO (drive_Check.j2 k y0 y1 y2 y3 y4 y5 y6 y7 y8) (drive_Check.j2 (k + 1) y0 y1 y2 y3 y4 y5 y6 y7 y8)) ∧ (∀ y0 y1 y2 y3 y4 y5 y6 y7 y8, LeO (drive_Check.j3 k y0 y1 y2 y3 y4 y5 y6 y7 y8) (drive_Check.j3 (k + 1) y0 y1 y2 y3 y4 y5 y6 y7 y8)) ∧ (∀ y0 y1 y2 y3 y4 y5 y6 y7 y8, LeO (drive_Check.j4 k y0 y1 y2 y3 y4 y5 y6 y7 y8) (drive_Check.j4 (k + 1) y0 y1 y2 y3 y4 y5 y6 y7 y8))
  | 0 => ⟨fun _ _ _ _ _ _ r h => by simp [drive_Check.l0] at h, fun _ _ _ _ _ _ _ _ _ _ r h => by simp [drive_Check.j1] at h, fun _ _ _ _ _ _ _ _ _ r h => by simp [drive_Check.j2] at h, fun _ _ _ _ _ _ _ _ _ r h => by simp [drive_Check.j3] at h, fun _ _ _ _ _ _ _ _ _ r h => by simp [drive_Check.j4] at h⟩
  | k + 1 => by
    obtain ⟨ih0, ih1, ih2, ih3, ih4⟩ := drive_Check.mono_l k
    refine ⟨?_, ?_, ?_, ?_, ?_⟩
    · intro y0 y1 y2 y3 y4 y5
      unfold drive_Check.l0
      repeat' first
      | (with_reducible exact ih0 _ _ _ _ _ _)
      | (with_reducible exact ih1 _ _ _ _ _ _ _ _ _ _)
      | (with_reducible exact ih2 _ _ _ _ _ _ _ _ _)
      | (with_reducible exact ih3 _ _ _ _ _ _ _ _ _)
      | (with_reducible exact ih4 _ _ _ _ _ _ _ _ _)
      | (with_reducible exact LeO.refl _)
      | (with_reducible exact LeO.none _)
      | (with_reducible refine LeO.ite ?_ ?_)
      | (with_reducible refine LeO.bind ?_ (fun _ => ?_))
      | exact ih0 _ _ _ _ _ _
      | exact ih1 _ _ _ _ _ _ _ _ _ _
      | exact ih2 _ _ _ _ _ _ _ _ _
      | exact ih3 _ _ _ _ _ _ _ _ _
      | exact ih4 _ _ _ _ _ _ _ _ _
      | exact LeO.none _
      | refine LeO.ite ?_ ?_
      | refine LeO.bind ?_ (fun _ => ?_)
    · intro y0 y1 y2 y3 y4 y5 y6 y7 y8 y9
      unfold drive_Check.j1
      repeat' first
      | (with_reducible exact ih0 _ _ _ _ _ _)
      | (with_reducible exact ih1 _ _ _ _ _ _ _ _ _ _)
      | (with_reducible exact ih2 _ _ _ _ _ _ _ _ _)
      | (with_reducible exact ih3 _ _ _ _ _ _ _ _ _)
      | (with_reducible exact ih4 _ _ _ _ _ _ _ _ _)
      | (with_reducible exact LeO.refl _)
      | (with_reducible exact LeO.none _)
      | (with_reducible refine LeO.ite ?_ ?_)
      | (with_reducible refine LeO.bind ?_ (fun _ => ?_))
      | exact ih0 _ _ _ _ _ _
      | exact ih1 _ _ _ _ _ _ _ _ _ _
      | exact ih2 _ _ _ _ _ _ _ _ _
      | exact ih3 _ _ _ _ _ _ _ _ _
      | exact ih4 _ _ _ _ _ _ _ _ _
      | exact LeO.none _
      | refine LeO.ite ?_ ?_
      | refine LeO.bind ?_ (fun _ => ?_)
    · intro y0 y1 y2 y3 y4 y5 y6 y7 y8
      unfold drive_Check.j2
      repeat' first
      | (with_reducible exact ih0 _ _ _ _ _ _)
      | (with_reducible exact ih1 _ _ _ _ _ _ _ _ _ _)
      | (with_reducible exact ih2 _ _ _ _ _ _ _ _ _)
      | (with_reducible exact ih3 _ _ _ _ _ _ _ _ _)
      | (with_reducible exact ih4 _ _ _ _ _ _ _ _ _)
      | (with_reducible exact LeO.refl _)
      | (with_reducible exact LeO.none _)
      | (with_reducible refine LeO.ite ?_ ?_)
      | (with_reducible refine LeO.bind ?_ (fun _ => ?_))
      | exact ih0 _ _ _ _ _ _
      | exact ih1 _ _ _ _ _ _ _ _ _ _
      | exact ih2 _ _ _ _ _ _ _ _ _
      | exact ih3 _ _ _ _ _ _ _ _ _
      | exact ih4 _ _ _ _ _ _ _ _ _
      | exact LeO.none _
      | refine LeO.ite ?_ ?_
      | refine LeO.bind ?_ (fun _ => ?_)
    · intro y0 y1 y2 y3 y4 y5 y6 y7 y8
      unfold drive_Check.j3
      repeat' first
      | (with_reducible exact ih0 _ _ _ _ _ _)
      | (with_reducible exact ih1 _ _ _ _ _ _ _ _ _ _)
      | (with_reducible exact ih2 _ _ _ _ _ _ _ _ _)
      | (with_reducible exact ih3 _ _ _ _ _ _ _ _ _)
      | (with_reducible exact ih4 _ _ _ _ _ _ _ _ _)
      | (with_reducible exact LeO.refl _)
      | (with_reducible exact LeO.none _)
      | (with_reducible refine LeO.ite ?_ ?_)
      | (with_reducible refine LeO.bind ?_ (fun _ => ?_))
      | exact ih0 _ _ _ _ _ _
      | exact ih1 _ _ _ _ _ _ _ _ _ _
      | exact ih2 _ _ _ _ _ _ _ _ _
      | exact ih3 _ _ _ _ _ _ _ _ _
      | exact ih4 _ _ _ _ _ _ _ _ _
      | exact LeO.none _
      | refine LeO.ite ?_ ?_
      | refine LeO.bind ?_ (fun _ => ?_)
    · intro y0 y1 y2 y3 y4 y5 y6 y7 y8
      unfold drive_Check.j4
      repeat' first
      | (with_reducible exact ih0 _ _ _ _ _ _)
      | (with_reducible exact ih1 _ _ _ _ _ _ _ _ _ _)
      | (with_reducible exact ih2 _ _ _ _ _ _ _ _ _)
      | (with_reducible exact ih3 _ _ _ _ _ _ _ _ _)
      | (with_reducible exact ih4 _ _ _ _ _ _ _ _ _)
      | (with_reducible exact LeO.refl _)
      | (with_reducible exact LeO.none _)
      | (with_reducible refine LeO.ite ?_ ?_)
      | (with_reducible refine LeO.bind ?_ (fun _ => ?_))
      | exact ih0 _ _ _ _ _ _
      | exact ih1 _ _ _ _ _ _ _ _ _ _
      | exact ih2 _ _ _ _ _ _ _ _ _
      | exact ih3 _ _ _ _ _ _ _ _ _
      | exact ih4 _ _ _ _ _ _ _ _ _
      | exact LeO.none _
      | refine LeO.ite ?_ ?_
      | refine LeO.bind ?_ (fun _ => ?_)
theorem drive_Check.mono : ∀ a0 a1 k, LeO (drive_Check.f k a0 a1) (drive_Check.f (k + 1) a0 a1) := by
  intro a0 a1 k
  obtain ⟨ih0, ih1, ih2, ih3, ih4⟩ := drive_Check.mono_l k
  unfold drive_Check.f
  repeat' first
      | (with_reducible exact ih0 _ _ _ _ _ _)
      | (with_reducible exact ih1 _ _ _ _ _ _ _ _ _ _)
      | (with_reducible exact ih2 _ _ _ _ _ _ _ _ _)
      | (with_reducible exact ih3 _ _ _ _ _ _ _ _ _)
      | (with_reducible exact ih4 _ _ _ _ _ _ _ _ _)
      | (with_reducible exact LeO.refl _)
      | (with_reducible exact LeO.none _)
      | (with_reducible refine LeO.ite ?_ ?_)
      | (with_reducible refine LeO.bind ?_ (fun _ => ?_))
      | exact ih0 _ _ _ _ _ _
      | exact ih1 _ _ _ _ _ _ _ _ _ _
      | exact ih2 _ _ _ _ _ _ _ _ _
      | exact ih3 _ _ _ _ _ _ _ _ _
      | exact ih4 _ _ _ _ _ _ _ _ _
      | exact LeO.none _
      | refine LeO.ite ?_ ?_
      | refine LeO.bind ?_ (fun _ => ?_)
set_option maxHeartbeats 8000000 in
set_option maxRecDepth 100000 in
theorem drive_Check.calls (k : Nat) (A0_0 : Option Addr) (c0_0 : Nat) (l0_0 : List Int) (A0_1 : Option Addr) (c0_1 : Nat) (l0_1 : List (S59)) (r : Int) (w : World) (hr0_0 : Kd.C (Kd.int .u8) w A0_0 l0_0.length l0_0) (hc0_0 : l0_0.length ≤ c0_0) (hr0_1 : Kd.C k59 w A0_1 l0_1.length l0_1) (hc0_1 : l0_1.length ≤ c0_1) (h : drive_Check.f k l0_0 l0_1 = some r) :
    Calls Try.prog 23 #[.agg #[.slice A0_0 l0_0.length c0_0, .slice A0_1 l0_1.length c0_1]] w fun e w' => e = .returned (.int .i64 r) ∧ Below w.heap.size w w' := by
  have hu26 := Try.underlying26
  have hu59 := Try.underlying59
  have HR0_0 := Aside0.mk hr0_0
  have HC0_0 := Aside0.mk hc0_0
  clear hr0_0 hc0_0
  have HR0_1 := Aside0.mk hr0_1
  have HC0_1 := Aside0.mk hc0_1
  clear hr0_1 hc0_1
  have HB := Aside0.mk (Below.refl w.heap.size w)
  have H : (if (l0_0.length : Int) > 65536 then (some 2) else (if ((l0_0.length : Int) % 64) = 0 then (drive_Check.l0 k (-1) l0_1 (l0_1.length : Int) 0 l0_0 l0_1) else (some 3))) = some r := h
  clear h
  by_cases c2 : (l0_0.length : Int) > 65536
  · rw [if_pos c2] at H
    have c2b0 : decide (65536 < (l0_0.length : Int)) = true := decide_eq_true c2
    have c2b1 : decide (65536 < l0_0.length) = true := decide_eq_true (by omega)
    clear c2
    obtain rfl := Option.some.inj H
    go_enter Try.func23, Try.ntmps23
    go_wp2_with (first | ((with_reducible refine gate_dst (N := 1) rfl ?_); (try (refine gate_guard (by rfl) ?_; dsimp only)); refine box_event ?hg (N := 1) ?hd (cs := #[.slice A0_0 l0_0.length c0_0, .slice A0_1 l0_1.length c0_1]) (t := 26) ?hr ?_; (case hd => rfl); (case hg => rfl); (case hr => first | (go_simp; done) | (go_simp; rfl)); intro gb136 hg w3 hbox hb; have n0_ := Aside0.mk (below_step (by repeat (first | (with_reducible first | exact HB.out | apply below_alloc | apply pw_below_drewN | apply below_drew1) | exact HB.out)) hb); have n1_ := Aside0.mk (hbox); have n2_ := Aside0.mk ((by rw [hg]; exact (below_size (by repeat (first | (with_reducible first | exact HB.out | apply below_alloc | apply pw_below_drewN | apply below_drew1) | exact HB.out))) : w.heap.size ≤ gb136)); have n3_ := Aside0.mk ((by rw [hg]; exact (below_size (by repeat (first | (with_reducible first | exact HB.out | apply below_alloc | apply pw_below_drewN | apply below_drew1) | exact HB.out))) : w.heap.size ≤ gb136)); clear HB; have HB := n0_; have BK136 := n1_; have GW136 := n2_; have GE136 := n3_; clear n0_ n1_ n2_ n3_; clear hb hbox hg; have hcz4_0 : w3.cell? ⟨gb136, 0, none⟩ = some (.slice A0_0 l0_0.length c0_0) := (blk_cell BK136.out 0).trans rfl; have hcz4_1 : w3.cell? ⟨gb136, 1, none⟩ = some (.slice A0_1 l0_1.length c0_1) := (blk_cell BK136.out 1).trans rfl; have hfz4_0 := blk_frozen BK136.out 0; have hfz4_1 := blk_frozen BK136.out 1))
    go_ret
    exact ⟨by first | rfl | (simp [errW_none, errW_some] <;> rfl) | (simp [*, errW_none, errW_some] <;> rfl), by repeat (first | (with_reducible first | exact HB.out | apply below_alloc | apply pw_below_drewN | apply below_drew1 | refine below_set ?_ GE136.out) | exact HB.out)⟩
  · rw [if_neg c2] at H
    have c2b0 : decide (65536 < (l0_0.length : Int)) = false := decide_eq_false c2
    have c2b1 : decide (65536 < l0_0.length) = false := decide_eq_false (by omega)
    clear c2
    by_cases c5 : ((l0_0.length : Int) % 64) = 0
    · rw [if_pos c5] at H
      have c5b0 : (((l0_0.length : Int) % 64) == 0) = true := beq_iff_eq.mpr c5
      have c5b1 : (((l0_0.length : Int) % 64) != 0) = false := bne_eq_false_iff_eq.mpr c5
      clear c5
      have H' := Aside0.mk H
      clear H
      go_enter Try.func23, Try.ntmps23
      go_wp2_with (first | ((with_reducible refine gate_dst (N := 1) rfl ?_); (try (refine gate_guard (by rfl) ?_; dsimp only)); refine box_event ?hg (N := 1) ?hd (cs := #[.slice A0_0 l0_0.length c0_0, .slice A0_1 l0_1.length c0_1]) (t := 26) ?hr ?_; (case hd => rfl); (case hg => rfl); (case hr => first | (go_simp; done) | (go_simp; rfl)); intro gb136 hg w6 hbox hb; have n0_ := Aside0.mk (below_step (by repeat (first | (with_reducible first | exact HB.out | apply below_alloc | apply pw_below_drewN | apply below_drew1) | exact HB.out)) hb); have n1_ := Aside0.mk (hbox); have n2_ := Aside0.mk ((by rw [hg]; exact (below_size (by repeat (first | (with_reducible first | exact HB.out | apply below_alloc | apply pw_below_drewN | apply below_drew1) | exact HB.out))) : w.heap.size ≤ gb136)); have n3_ := Aside0.mk ((by rw [hg]; exact (below_size (by repeat (first | (with_reducible first | exact HB.out | apply below_alloc | apply pw_below_drewN | apply below_drew1) | exact HB.out))) : w.heap.size ≤ gb136)); clear HB; have HB := n0_; have BK136 := n1_; have GW136 := n2_; have GE136 := n3_; clear n0_ n1_ n2_ n3_; clear hb hbox hg; have hcz7_0 : w6.cell? ⟨gb136, 0, none⟩ = some (.slice A0_0 l0_0.length c0_0) := (blk_cell BK136.out 0).trans rfl; have hcz7_1 : w6.cell? ⟨gb136, 1, none⟩ = some (.slice A0_1 l0_1.length c0_1) := (blk_cell BK136.out 1).trans rfl; have hfz7_0 := blk_frozen BK136.out 0; have hfz7_1 := blk_frozen BK136.out 1))
      go_loopg [3, 20] k (fun kq v3 v20 w' => ∃ (x3_1 : Int) (x20_1 : Int), v3 = .int .i64 x3_1 ∧ v20 = .int .i64 x20_1 ∧ Aside0 (drive_Check.l0 kq x3_1 l0_1 (l0_1.length : Int) x20_1 l0_0 l0_1 = some r) ∧ Aside0 (kq ≤ k) ∧ Aside0 (w'.heap[gb136]? = some (.cells #[(.slice A0_0 l0_0.length c0_0), (.slice A0_1 l0_1.length c0_1)] 26 (0, 0))) ∧ Aside0 (Below w.heap.size w w'))
      case atStart => exact ⟨((-1)), (0), (by first | rfl | (simp; done) | (simp [*]; done)), (by first | rfl | (simp; done) | (simp [*]; done)), H', ⟨Nat.le_refl _⟩, ⟨by (with_reducible repeat (first | refine blk_drewN ?_ _ | refine blk_drew ?_ | refine blk_alloc ?_ _)); exact BK136.out⟩, ⟨by repeat (first | (with_reducible first | exact HB.out | apply below_alloc | apply pw_below_drewN | apply below_drew1 | refine below_set ?_ GE136.out) | exact HB.out)⟩⟩
      case round =>
        clear H'
        try clear c2
        try clear c2b0
        try clear c2b1
        try clear p2
        try clear c5
        try clear c5b0
        try clear c5b1
        try clear hcz4_0
        try clear hcz4_1
        try clear hcz7_0
        try clear hcz7_1
        try clear hfz4_0
        try clear hfz4_1
        try clear hfz7_0
        try clear hfz7_1
        obtain ⟨x3_1, x20_1, rfl, rfl, HA, HK1, BK136, HB⟩ := hrel
        cases gk with
        | zero => exact absurd HA.out (by simp [drive_Check.l0])
        | succ k1 =>
          have H := HA.out
          clear HA
          simp only [drive_Check.l0] at H
          by_cases c8 : x20_1 < (l0_1.length : Int)
          · rw [if_pos c8] at H
            have c8b0 : decide (x20_1 < (l0_1.length : Int)) = true := decide_eq_true c8
            clear c8
            by_cases c9 : 0 ≤ x20_1
            · rw [if_pos c9] at H
              have c9b0 : decide (0 ≤ x20_1) = true := decide_eq_true c9
              clear c9
              by_cases c10 : x20_1 < (l0_1.length : Int)
              · rw [if_pos c10] at H
                have c10b0 : decide (x20_1 < (l0_1.length : Int)) = true := decide_eq_true c10
                clear c10
                have HC11 := Aside0.mk H
                clear H
                have p137 : 0 ≤ (x20_1 : Int) := of_decide_eq_true (by first | (with_reducible assumption) | assumption)
                have q137 : x20_1 < (l0_1.length : Int) := of_decide_eq_true (by first | (with_reducible assumption) | assumption)
                obtain ⟨ad137, e137, hx137_0, hx137_1, hx137_2⟩ := at_T59 HR0_1.out x20_1 p137 q137
                cases e137
                replace hx137_0 := (HB.out.cell (World.block_lt_of_cell? w _ hx137_0)).trans hx137_0
                replace hx137_1 := (HB.out.cell (World.block_lt_of_cell? w _ hx137_1)).trans hx137_1
                replace hx137_2 := (HB.out.cell (World.block_lt_of_cell? w _ hx137_2)).trans hx137_2
                replace p137 := eq_true p137
                replace q137 := eq_true q137
                go_upto_region 9 with (first | ((with_reducible refine gate_dst (N := 5) rfl ?_); (try (refine gate_guard (by rfl) ?_; dsimp only)); refine box_event ?hg (N := 5) ?hd (cs := #[.int .i64 0, .int .i64 0, .int .i64 0]) (t := 59) ?hr ?_; (case hd => rfl); (case hg => rfl); (case hr => first | (go_simp; done) | (go_simp; rfl)); intro gb138 hg w12 hbox hb; have n0_ := Aside0.mk (blk_below (g := gb136) (o := .cells #[.slice A0_0 l0_0.length c0_0, .slice (some ad137) l0_1.length c0_1] 26 (0, 0)) (by (with_reducible repeat (first | refine blk_drewN ?_ _ | refine blk_drew ?_ | refine blk_alloc ?_ _)); exact BK136.out) hb); have n1_ := Aside0.mk (below_step (by repeat (first | (with_reducible first | exact HB.out | apply below_alloc | apply pw_below_drewN | apply below_drew1 | refine below_set ?_ GE136.out) | exact HB.out)) hb); have n2_ := Aside0.mk (hbox); have n3_ := Aside0.mk ((by rw [hg]; exact (below_size (by repeat (first | (with_reducible first | exact HB.out | apply below_alloc | apply pw_below_drewN | apply below_drew1 | refine below_set ?_ GE136.out) | exact HB.out))) : w.heap.size ≤ gb138)); have n4_ := Aside0.mk ((by rw [hg]; exact (below_size (by repeat (first | (with_reducible first | exact HB.out | apply below_alloc | apply pw_below_drewN | apply below_drew1 | refine below_set ?_ GE136.out) | exact HB.out))) : w.heap.size ≤ gb138)); have n5_ := Aside0.mk ((by rw [hg]; exact Nat.ne_of_lt (blk_lt (g := gb136) (o := .cells #[.slice A0_0 l0_0.length c0_0, .slice (some ad137) l0_1.length c0_1] 26 (0, 0)) (by (with_reducible repeat (first | refine blk_drewN ?_ _ | refine blk_drew ?_ | refine blk_alloc ?_ _)); exact BK136.out)) : gb136 ≠ gb138)); have n6_ := Aside0.mk ((by rw [hg]; exact Nat.ne_of_gt (blk_lt (g := gb136) (o := .cells #[.slice A0_0 l0_0.length c0_0, .slice (some ad137) l0_1.length c0_1] 26 (0, 0)) (by (with_reducible repeat (first | refine blk_drewN ?_ _ | refine blk_drew ?_ | refine blk_alloc ?_ _)); exact BK136.out)) : gb138 ≠ gb136)); clear BK136; clear HB; have BK136 := n0_; have HB := n1_; have BK138 := n2_; have GW138 := n3_; have GE138 := n4_; have NB136_138 := n5_; have NB138_136 := n6_; clear n0_ n1_ n2_ n3_ n4_ n5_ n6_; clear hb hbox hg; have hnb13 := NB138_136.out; have hnc13 := NB136_138.out; have hcz14_0 : w12.cell? ⟨gb138, 0, none⟩ = some (.int .i64 0) := (blk_cell BK138.out 0).trans rfl; have hcz14_1 : w12.cell? ⟨gb138, 1, none⟩ = some (.int .i64 0) := (blk_cell BK138.out 1).trans rfl; have hcz14_2 : w12.cell? ⟨gb138, 2, none⟩ = some (.int .i64 0) := (blk_cell BK138.out 2).trans rfl; have hfz14_0 := blk_frozen BK138.out 0; have hfz14_1 := blk_frozen BK138.out 1; have hfz14_2 := blk_frozen BK138.out 2))
                (try simp only [Act.put, List.setIfInBounds_toArray, List.set_cons_zero, List.set_cons_succ])
                go_cut [24] (fun v24 wc => ∃ (kq : Nat) (x24_10 : Bool), v24 = .bool x24_10 ∧ Aside0 (drive_Check.j1 kq x3_1 l0_1 (l0_1.length : Int) x20_1 x24_10 l0_0 l0_1 ((rd_T59 l0_1 x20_1).f0) ((rd_T59 l0_1 x20_1).f1) ((rd_T59 l0_1 x20_1).f2) = some r) ∧ Aside0 (kq ≤ k1) ∧ Aside0 (wc.heap[gb136]? = some (.cells #[(.slice A0_0 l0_0.length c0_0), (.slice (some ad137) l0_1.length c0_1)] 26 (0, 0))) ∧ Aside0 (wc.heap[gb138]? = some (.cells #[.int .i64 ((rd_T59 l0_1 x20_1).f0), .int .i64 ((rd_T59 l0_1 x20_1).f1), .int .i64 ((rd_T59 l0_1 x20_1).f2)] 59 (0, 0))) ∧ Aside0 (Below w.heap.size w wc))
                case first =>
                  have H := HC11.out
                  clear HC11
                  by_cases c15 : ((rd_T59 l0_1 x20_1).f0) < 0
                  · rw [if_pos c15] at H
                    have c15b0 : decide (((rd_T59 l0_1 x20_1).f0) < 0) = true := decide_eq_true c15
                    clear c15
                    (first | rw [c15b0] | (simp only [i64_w, i32_w]; rw [c15b0]) | skip)
                    have H' := Aside0.mk H
                    clear H
                    have hnb16 := NB138_136.out
                    have hnc16 := NB136_138.out
                    have hcz17_0 : w12.cell? ⟨gb138, 0, none⟩ = some (.int .i64 0) := (blk_cell BK138.out 0).trans rfl
                    have hcz17_1 : w12.cell? ⟨gb138, 1, none⟩ = some (.int .i64 0) := (blk_cell BK138.out 1).trans rfl
                    have hcz17_2 : w12.cell? ⟨gb138, 2, none⟩ = some (.int .i64 0) := (blk_cell BK138.out 2).trans rfl
                    have hfz17_0 := blk_frozen BK138.out 0
                    have hfz17_1 := blk_frozen BK138.out 1
                    have hfz17_2 := blk_frozen BK138.out 2
                    go_wp2
                    go_meet
                    case rel => exact ⟨_, (true), (by first | rfl | (simp; done) | (simp [*]; done)), H', ⟨by have := HK1.out; first | omega | exact Nat.le_refl _⟩, ⟨by (with_reducible repeat (first | refine blk_drewN ?_ _ | refine blk_drew ?_ | refine blk_alloc ?_ _)); refine blk_far ?_ NB136_138.out _; (with_reducible repeat (first | refine blk_drewN ?_ _ | refine blk_drew ?_ | refine blk_alloc ?_ _)); refine blk_far ?_ NB136_138.out _; (with_reducible repeat (first | refine blk_drewN ?_ _ | refine blk_drew ?_ | refine blk_alloc ?_ _)); refine blk_far ?_ NB136_138.out _; (with_reducible repeat (first | refine blk_drewN ?_ _ | refine blk_drew ?_ | refine blk_alloc ?_ _)); exact BK136.out⟩, ⟨by (with_reducible repeat (first | refine blk_drewN ?_ _ | refine blk_drew ?_ | refine blk_alloc ?_ _)); refine blk_put (cs := #[.int .i64 ((rd_T59 l0_1 x20_1).f0), .int .i64 ((rd_T59 l0_1 x20_1).f1), .int .i64 0]) ?_ 2 _ rfl; (with_reducible repeat (first | refine blk_drewN ?_ _ | refine blk_drew ?_ | refine blk_alloc ?_ _)); refine blk_put (cs := #[.int .i64 ((rd_T59 l0_1 x20_1).f0), .int .i64 0, .int .i64 0]) ?_ 1 _ rfl; (with_reducible repeat (first | refine blk_drewN ?_ _ | refine blk_drew ?_ | refine blk_alloc ?_ _)); refine blk_put (cs := #[.int .i64 0, .int .i64 0, .int .i64 0]) ?_ 0 _ rfl; (with_reducible repeat (first | refine blk_drewN ?_ _ | refine blk_drew ?_ | refine blk_alloc ?_ _)); exact BK138.out⟩, ⟨by repeat (first | (with_reducible first | exact HB.out | apply below_alloc | apply pw_below_drewN | apply below_drew1 | refine below_set ?_ GE136.out | refine below_set ?_ GE138.out) | exact HB.out)⟩⟩
                  · rw [if_neg c15] at H
                    have c15b0 : decide (((rd_T59 l0_1 x20_1).f0) < 0) = false := decide_eq_false c15
                    clear c15
                    (first | rw [c15b0] | (simp only [i64_w, i32_w]; rw [c15b0]) | skip)
                    have H' := Aside0.mk H
                    clear H
                    have hnb18 := NB138_136.out
                    have hnc18 := NB136_138.out
                    have hcz19_0 : w12.cell? ⟨gb138, 0, none⟩ = some (.int .i64 0) := (blk_cell BK138.out 0).trans rfl
                    have hcz19_1 : w12.cell? ⟨gb138, 1, none⟩ = some (.int .i64 0) := (blk_cell BK138.out 1).trans rfl
                    have hcz19_2 : w12.cell? ⟨gb138, 2, none⟩ = some (.int .i64 0) := (blk_cell BK138.out 2).trans rfl
                    have hfz19_0 := blk_frozen BK138.out 0
                    have hfz19_1 := blk_frozen BK138.out 1
                    have hfz19_2 := blk_frozen BK138.out 2
                    have hcz20_0 : w12.cell? ⟨gb136, 0, none⟩ = some (.slice A0_0 l0_0.length c0_0) := (blk_cell BK136.out 0).trans rfl
                    have hcz20_1 : w12.cell? ⟨gb136, 1, none⟩ = some (.slice (some ad137) l0_1.length c0_1) := (blk_cell BK136.out 1).trans rfl
                    have hfz20_0 := blk_frozen BK136.out 0
                    have hfz20_1 := blk_frozen BK136.out 1
                    go_wp2
                    go_meet
                    case rel => exact ⟨_, (decide (((rd_T59 l0_1 x20_1).f0) ≥ (wrap64 ((l0_0.length : Int) / 64)))), (by first | rfl | (simp; done) | (simp [*]; done)), H', ⟨by have := HK1.out; first | omega | exact Nat.le_refl _⟩, ⟨by (with_reducible repeat (first | refine blk_drewN ?_ _ | refine blk_drew ?_ | refine blk_alloc ?_ _)); refine blk_far ?_ NB136_138.out _; (with_reducible repeat (first | refine blk_drewN ?_ _ | refine blk_drew ?_ | refine blk_alloc ?_ _)); refine blk_far ?_ NB136_138.out _; (with_reducible repeat (first | refine blk_drewN ?_ _ | refine blk_drew ?_ | refine blk_alloc ?_ _)); refine blk_far ?_ NB136_138.out _; (with_reducible repeat (first | refine blk_drewN ?_ _ | refine blk_drew ?_ | refine blk_alloc ?_ _)); exact BK136.out⟩, ⟨by (with_reducible repeat (first | refine blk_drewN ?_ _ | refine blk_drew ?_ | refine blk_alloc ?_ _)); refine blk_put (cs := #[.int .i64 ((rd_T59 l0_1 x20_1).f0), .int .i64 ((rd_T59 l0_1 x20_1).f1), .int .i64 0]) ?_ 2 _ rfl; (with_reducible repeat (first | refine blk_drewN ?_ _ | refine blk_drew ?_ | refine blk_alloc ?_ _)); refine blk_put (cs := #[.int .i64 ((rd_T59 l0_1 x20_1).f0), .int .i64 0, .int .i64 0]) ?_ 1 _ rfl; (with_reducible repeat (first | refine blk_drewN ?_ _ | refine blk_drew ?_ | refine blk_alloc ?_ _)); refine blk_put (cs := #[.int .i64 0, .int .i64 0, .int .i64 0]) ?_ 0 _ rfl; (with_reducible repeat (first | refine blk_drewN ?_ _ | refine blk_drew ?_ | refine blk_alloc ?_ _)); exact BK138.out⟩, ⟨by repeat (first | (with_reducible first | exact HB.out | apply below_alloc | apply pw_below_drewN | apply below_drew1 | refine below_set ?_ GE136.out | refine below_set ?_ GE138.out) | exact HB.out)⟩⟩
                case rest =>
                  clear HC11
                  try clear c1
                  try clear p1
                  try clear q1
                  try clear hx1
                  try clear c2
                  try clear c2b0
                  try clear c2b1
                  try clear p2
                  try clear c5
                  try clear c5b0
                  try clear c5b1
                  try clear p6
                  try clear c8
                  try clear c8b0
                  try clear c9
                  try clear c9b0
                  try clear c10
                  try clear c10b0
                  try clear c13
                  try clear p13
                  try clear q13
                  try clear hx13
                  try clear c15
                  try clear c15b0
                  try clear c16
                  try clear c18
                  try clear hcz14_0
                  try clear hcz14_1
                  try clear hcz14_2
                  try clear hcz17_0
                  try clear hcz17_1
                  try clear hcz17_2
                  try clear hcz19_0
                  try clear hcz19_1
                  try clear hcz19_2
                  try clear hcz20_0
                  try clear hcz20_1
                  try clear hcz4_0
                  try clear hcz4_1
                  try clear hcz7_0
                  try clear hcz7_1
                  try clear hfz14_0
                  try clear hfz14_1
                  try clear hfz14_2
                  try clear hfz17_0
                  try clear hfz17_1
                  try clear hfz17_2
                  try clear hfz19_0
                  try clear hfz19_1
                  try clear hfz19_2
                  try clear hfz20_0
                  try clear hfz20_1
                  try clear hfz4_0
                  try clear hfz4_1
                  try clear hfz7_0
                  try clear hfz7_1
                  try clear hx137_0
                  try clear hx137_1
                  try clear hx137_2
                  try clear p137
                  try clear p2
                  try clear q137
                  obtain ⟨kq, x24_10, rfl, HA, HJ10, BK136, BK138, HB⟩ := hcut
                  cases kq with
                  | zero => exact absurd HA.out (by simp [drive_Check.j1])
                  | succ kj10 =>
                    have H := HA.out
                    clear HA
                    simp only [drive_Check.j1] at H
                    by_cases c21 : x24_10 = true
                    · subst c21
                      have H1 : (some 4) = some r := by rw [if_pos rfl] at H; exact H
                      clear H
                      have H := H1
                      clear H1
                      obtain rfl := Option.some.inj H
                      go_wp2
                      go_ret
                      exact ⟨by first | rfl | (simp [errW_none, errW_some] <;> rfl) | (simp [*, errW_none, errW_some] <;> rfl), by repeat (first | (with_reducible first | exact HB.out | apply below_alloc | apply pw_below_drewN | apply below_drew1 | refine below_set ?_ GE136.out | refine below_set ?_ GE138.out) | exact HB.out)⟩
                    · replace c21 := Bool.eq_false_iff.mpr c21
                      subst c21
                      have H1 : (if ((rd_T59 l0_1 x20_1).f0) ≤ x3_1 then (some 11) else (if ((rd_T59 l0_1 x20_1).f1) < 1 then (drive_Check.j2 kj10 l0_1 (l0_1.length : Int) x20_1 true l0_0 l0_1 ((rd_T59 l0_1 x20_1).f0) ((rd_T59 l0_1 x20_1).f1) ((rd_T59 l0_1 x20_1).f2)) else (drive_Check.j2 kj10 l0_1 (l0_1.length : Int) x20_1 (decide (((rd_T59 l0_1 x20_1).f1) > 3)) l0_0 l0_1 ((rd_T59 l0_1 x20_1).f0) ((rd_T59 l0_1 x20_1).f1) ((rd_T59 l0_1 x20_1).f2)))) = some r := by rw [if_neg (show ¬ (false = true) by decide)] at H; exact H
                      clear H
                      have H := H1
                      clear H1
                      by_cases c22 : ((rd_T59 l0_1 x20_1).f0) ≤ x3_1
                      · rw [if_pos c22] at H
                        have c22b0 : decide (((rd_T59 l0_1 x20_1).f0) ≤ x3_1) = true := decide_eq_true c22
                        clear c22
                        obtain rfl := Option.some.inj H
                        have hnb23 := NB138_136.out
                        have hnc23 := NB136_138.out
                        have hcz24_0 : wc.cell? ⟨gb138, 0, none⟩ = some (.int .i64 ((rd_T59 l0_1 x20_1).f0)) := (blk_cell BK138.out 0).trans rfl
                        have hcz24_1 : wc.cell? ⟨gb138, 1, none⟩ = some (.int .i64 ((rd_T59 l0_1 x20_1).f1)) := (blk_cell BK138.out 1).trans rfl
                        have hcz24_2 : wc.cell? ⟨gb138, 2, none⟩ = some (.int .i64 ((rd_T59 l0_1 x20_1).f2)) := (blk_cell BK138.out 2).trans rfl
                        have hfz24_0 := blk_frozen BK138.out 0
                        have hfz24_1 := blk_frozen BK138.out 1
                        have hfz24_2 := blk_frozen BK138.out 2
                        go_wp2
                        go_ret
                        exact ⟨by first | rfl | (simp [errW_none, errW_some] <;> rfl) | (simp [*, errW_none, errW_some] <;> rfl), by repeat (first | (with_reducible first | exact HB.out | apply below_alloc | apply pw_below_drewN | apply below_drew1 | refine below_set ?_ GE136.out | refine below_set ?_ GE138.out) | exact HB.out)⟩
                      · rw [if_neg c22] at H
                        have c22b0 : decide (((rd_T59 l0_1 x20_1).f0) ≤ x3_1) = false := decide_eq_false c22
                        clear c22
                        have HC25 := Aside0.mk H
                        clear H
                        have hnb26 := NB138_136.out
                        have hnc26 := NB136_138.out
                        have hcz27_0 : wc.cell? ⟨gb138, 0, none⟩ = some (.int .i64 ((rd_T59 l0_1 x20_1).f0)) := (blk_cell BK138.out 0).trans rfl
                        have hcz27_1 : wc.cell? ⟨gb138, 1, none⟩ = some (.int .i64 ((rd_T59 l0_1 x20_1).f1)) := (blk_cell BK138.out 1).trans rfl
                        have hcz27_2 : wc.cell? ⟨gb138, 2, none⟩ = some (.int .i64 ((rd_T59 l0_1 x20_1).f2)) := (blk_cell BK138.out 2).trans rfl
                        have hfz27_0 := blk_frozen BK138.out 0
                        have hfz27_1 := blk_frozen BK138.out 1
                        have hfz27_2 := blk_frozen BK138.out 2
                        go_upto_region 13 with (fail)
                        go_cut [42] (fun v42 wc => ∃ (kq : Nat) (x42_24 : Bool), v42 = .bool x42_24 ∧ Aside0 (drive_Check.j2 kq l0_1 (l0_1.length : Int) x20_1 x42_24 l0_0 l0_1 ((rd_T59 l0_1 x20_1).f0) ((rd_T59 l0_1 x20_1).f1) ((rd_T59 l0_1 x20_1).f2) = some r) ∧ Aside0 (kq ≤ kj10) ∧ Aside0 (wc.heap[gb136]? = some (.cells #[(.slice A0_0 l0_0.length c0_0), (.slice (some ad137) l0_1.length c0_1)] 26 (0, 0))) ∧ Aside0 (wc.heap[gb138]? = some (.cells #[.int .i64 ((rd_T59 l0_1 x20_1).f0), .int .i64 ((rd_T59 l0_1 x20_1).f1), .int .i64 ((rd_T59 l0_1 x20_1).f2)] 59 (0, 0))) ∧ Aside0 (Below w.heap.size w wc))
                        case first =>
                          have H := HC25.out
                          clear HC25
                          by_cases c28 : ((rd_T59 l0_1 x20_1).f1) < 1
                          · rw [if_pos c28] at H
                            have c28b0 : decide (((rd_T59 l0_1 x20_1).f1) < 1) = true := decide_eq_true c28
                            clear c28
                            (first | rw [c28b0] | (simp only [i64_w, i32_w]; rw [c28b0]) | skip)
                            have H' := Aside0.mk H
                            clear H
                            have hnb29 := NB138_136.out
                            have hnc29 := NB136_138.out
                            have hcz30_0 : wc.cell? ⟨gb138, 0, none⟩ = some (.int .i64 ((rd_T59 l0_1 x20_1).f0)) := (blk_cell BK138.out 0).trans rfl
                            have hcz30_1 : wc.cell? ⟨gb138, 1, none⟩ = some (.int .i64 ((rd_T59 l0_1 x20_1).f1)) := (blk_cell BK138.out 1).trans rfl
                            have hcz30_2 : wc.cell? ⟨gb138, 2, none⟩ = some (.int .i64 ((rd_T59 l0_1 x20_1).f2)) := (blk_cell BK138.out 2).trans rfl
                            have hfz30_0 := blk_frozen BK138.out 0
                            have hfz30_1 := blk_frozen BK138.out 1
                            have hfz30_2 := blk_frozen BK138.out 2
                            go_wp2
                            go_meet
                            case rel => exact ⟨_, (true), (by first | rfl | (simp; done) | (simp [*]; done)), H', ⟨by have := HK1.out; have := HJ10.out; first | omega | exact Nat.le_refl _⟩, ⟨by (with_reducible repeat (first | refine blk_drewN ?_ _ | refine blk_drew ?_ | refine blk_alloc ?_ _)); exact BK136.out⟩, ⟨by (with_reducible repeat (first | refine blk_drewN ?_ _ | refine blk_drew ?_ | refine blk_alloc ?_ _)); exact BK138.out⟩, ⟨by repeat (first | (with_reducible first | exact HB.out | apply below_alloc | apply pw_below_drewN | apply below_drew1 | refine below_set ?_ GE136.out | refine below_set ?_ GE138.out) | exact HB.out)⟩⟩
                          · rw [if_neg c28] at H
                            have c28b0 : decide (((rd_T59 l0_1 x20_1).f1) < 1) = false := decide_eq_false c28
                            clear c28
                            (first | rw [c28b0] | (simp only [i64_w, i32_w]; rw [c28b0]) | skip)
                            have H' := Aside0.mk H
                            clear H
                            have hnb31 := NB138_136.out
                            have hnc31 := NB136_138.out
                            have hcz32_0 : wc.cell? ⟨gb138, 0, none⟩ = some (.int .i64 ((rd_T59 l0_1 x20_1).f0)) := (blk_cell BK138.out 0).trans rfl
                            have hcz32_1 : wc.cell? ⟨gb138, 1, none⟩ = some (.int .i64 ((rd_T59 l0_1 x20_1).f1)) := (blk_cell BK138.out 1).trans rfl
                            have hcz32_2 : wc.cell? ⟨gb138, 2, none⟩ = some (.int .i64 ((rd_T59 l0_1 x20_1).f2)) := (blk_cell BK138.out 2).trans rfl
                            have hfz32_0 := blk_frozen BK138.out 0
                            have hfz32_1 := blk_frozen BK138.out 1
                            have hfz32_2 := blk_frozen BK138.out 2
                            go_wp2
                            go_meet
                            case rel => exact ⟨_, (decide (((rd_T59 l0_1 x20_1).f1) > 3)), (by first | rfl | (simp; done) | (simp [*]; done)), H', ⟨by have := HK1.out; have := HJ10.out; first | omega | exact Nat.le_refl _⟩, ⟨by (with_reducible repeat (first | refine blk_drewN ?_ _ | refine blk_drew ?_ | refine blk_alloc ?_ _)); exact BK136.out⟩, ⟨by (with_reducible repeat (first | refine blk_drewN ?_ _ | refine blk_drew ?_ | refine blk_alloc ?_ _)); exact BK138.out⟩, ⟨by repeat (first | (with_reducible first | exact HB.out | apply below_alloc | apply pw_below_drewN | apply below_drew1 | refine below_set ?_ GE136.out | refine below_set ?_ GE138.out) | exact HB.out)⟩⟩
                        case rest =>
                          clear HC25
                          try clear c1
                          try clear p1
                          try clear q1
                          try clear hx1
                          try clear c2
                          try clear c2b0
                          try clear c2b1
                          try clear p2
                          try clear c3
                          try clear c5
                          try clear c5b0
                          try clear c5b1
                          try clear p6
                          try clear c8
                          try clear c8b0
                          try clear c9
                          try clear c9b0
                          try clear c10
                          try clear c10b0
                          try clear c13
                          try clear p13
                          try clear q13
                          try clear hx13
                          try clear c15
                          try clear c15b0
                          try clear c16
                          try clear c18
                          try clear c21
                          try clear c22
                          try clear c22b0
                          try clear c23
                          try clear c26
                          try clear c28
                          try clear c28b0
                          try clear c29
                          try clear c31
                          try clear hcz14_0
                          try clear hcz14_1
                          try clear hcz14_2
                          try clear hcz17_0
                          try clear hcz17_1
                          try clear hcz17_2
                          try clear hcz19_0
                          try clear hcz19_1
                          try clear hcz19_2
                          try clear hcz20_0
                          try clear hcz20_1
                          try clear hcz24_0
                          try clear hcz24_1
                          try clear hcz24_2
                          try clear hcz27_0
                          try clear hcz27_1
                          try clear hcz27_2
                          try clear hcz30_0
                          try clear hcz30_1
                          try clear hcz30_2
                          try clear hcz32_0
                          try clear hcz32_1
                          try clear hcz32_2
                          try clear hcz4_0
                          try clear hcz4_1
                          try clear hcz7_0
                          try clear hcz7_1
                          try clear hfz14_0
                          try clear hfz14_1
                          try clear hfz14_2
                          try clear hfz17_0
                          try clear hfz17_1
                          try clear hfz17_2
                          try clear hfz19_0
                          try clear hfz19_1
                          try clear hfz19_2
                          try clear hfz20_0
                          try clear hfz20_1
                          try clear hfz24_0
                          try clear hfz24_1
                          try clear hfz24_2
                          try clear hfz27_0
                          try clear hfz27_1
                          try clear hfz27_2
                          try clear hfz30_0
                          try clear hfz30_1
                          try clear hfz30_2
                          try clear hfz32_0
                          try clear hfz32_1
                          try clear hfz32_2
                          try clear hfz4_0
                          try clear hfz4_1
                          try clear hfz7_0
                          try clear hfz7_1
                          try clear hx137_0
                          try clear hx137_1
                          try clear hx137_2
                          try clear p1
                          try clear p13
                          try clear p137
                          try clear p2
                          try clear p6
                          try clear q1
                          try clear q13
                          try clear q137
                          obtain ⟨kq, x42_24, rfl, HA, HJ24, BK136, BK138, HB⟩ := hcut
                          cases kq with
                          | zero => exact absurd HA.out (by simp [drive_Check.j2])
                          | succ kj24 =>
                            have H := HA.out
                            clear HA
                            simp only [drive_Check.j2] at H
                            by_cases c33 : x42_24 = true
                            · subst c33
                              have H1 : (some 1) = some r := by rw [if_pos rfl] at H; exact H
                              clear H
                              have H := H1
                              clear H1
                              obtain rfl := Option.some.inj H
                              go_wp2
                              go_ret
                              exact ⟨by first | rfl | (simp [errW_none, errW_some] <;> rfl) | (simp [*, errW_none, errW_some] <;> rfl), by repeat (first | (with_reducible first | exact HB.out | apply below_alloc | apply pw_below_drewN | apply below_drew1 | refine below_set ?_ GE136.out | refine below_set ?_ GE138.out) | exact HB.out)⟩
                            · replace c33 := Bool.eq_false_iff.mpr c33
                              subst c33
                              have H1 : (if ((rd_T59 l0_1 x20_1).f1) = 1 then (drive_Check.j3 kj24 l0_1 (l0_1.length : Int) x20_1 (((rd_T59 l0_1 x20_1).f2) != 0) l0_0 l0_1 ((rd_T59 l0_1 x20_1).f0) ((rd_T59 l0_1 x20_1).f1) ((rd_T59 l0_1 x20_1).f2)) else (drive_Check.j3 kj24 l0_1 (l0_1.length : Int) x20_1 false l0_0 l0_1 ((rd_T59 l0_1 x20_1).f0) ((rd_T59 l0_1 x20_1).f1) ((rd_T59 l0_1 x20_1).f2))) = some r := by rw [if_neg (show ¬ (false = true) by decide)] at H; exact H
                              clear H
                              have H := H1
                              clear H1
                              have HC34 := Aside0.mk H
                              clear H
                              go_upto_region 15 with (fail)
                              go_cut [51] (fun v51 wc => ∃ (kq : Nat) (x51_33 : Bool), v51 = .bool x51_33 ∧ Aside0 (drive_Check.j3 kq l0_1 (l0_1.length : Int) x20_1 x51_33 l0_0 l0_1 ((rd_T59 l0_1 x20_1).f0) ((rd_T59 l0_1 x20_1).f1) ((rd_T59 l0_1 x20_1).f2) = some r) ∧ Aside0 (kq ≤ kj24) ∧ Aside0 (wc.heap[gb136]? = some (.cells #[(.slice A0_0 l0_0.length c0_0), (.slice (some ad137) l0_1.length c0_1)] 26 (0, 0))) ∧ Aside0 (wc.heap[gb138]? = some (.cells #[.int .i64 ((rd_T59 l0_1 x20_1).f0), .int .i64 ((rd_T59 l0_1 x20_1).f1), .int .i64 ((rd_T59 l0_1 x20_1).f2)] 59 (0, 0))) ∧ Aside0 (Below w.heap.size w wc))
                              case first =>
                                have H := HC34.out
                                clear HC34
                                by_cases c35 : ((rd_T59 l0_1 x20_1).f1) = 1
                                · rw [if_pos c35] at H
                                  have c35b0 : (((rd_T59 l0_1 x20_1).f1) == 1) = true := beq_iff_eq.mpr c35
                                  have c35b1 : (((rd_T59 l0_1 x20_1).f1) != 1) = false := bne_eq_false_iff_eq.mpr c35
                                  clear c35
                                  (first | rw [c35b0] | (simp only [i64_w, i32_w]; rw [c35b0]) | skip)
                                  have H' := Aside0.mk H
                                  clear H
                                  have hnb36 := NB138_136.out
                                  have hnc36 := NB136_138.out
                                  have hcz37_0 : wc.cell? ⟨gb138, 0, none⟩ = some (.int .i64 ((rd_T59 l0_1 x20_1).f0)) := (blk_cell BK138.out 0).trans rfl
                                  have hcz37_1 : wc.cell? ⟨gb138, 1, none⟩ = some (.int .i64 ((rd_T59 l0_1 x20_1).f1)) := (blk_cell BK138.out 1).trans rfl
                                  have hcz37_2 : wc.cell? ⟨gb138, 2, none⟩ = some (.int .i64 ((rd_T59 l0_1 x20_1).f2)) := (blk_cell BK138.out 2).trans rfl
                                  have hfz37_0 := blk_frozen BK138.out 0
                                  have hfz37_1 := blk_frozen BK138.out 1
                                  have hfz37_2 := blk_frozen BK138.out 2
                                  go_wp2
                                  go_meet
                                  case rel => exact ⟨_, ((((rd_T59 l0_1 x20_1).f2) != 0)), (by first | rfl | (simp; done) | (simp [*]; done)), H', ⟨by have := HK1.out; have := HJ10.out; have := HJ24.out; first | omega | exact Nat.le_refl _⟩, ⟨by (with_reducible repeat (first | refine blk_drewN ?_ _ | refine blk_drew ?_ | refine blk_alloc ?_ _)); exact BK136.out⟩, ⟨by (with_reducible repeat (first | refine blk_drewN ?_ _ | refine blk_drew ?_ | refine blk_alloc ?_ _)); exact BK138.out⟩, ⟨by repeat (first | (with_reducible first | exact HB.out | apply below_alloc | apply pw_below_drewN | apply below_drew1 | refine below_set ?_ GE136.out | refine below_set ?_ GE138.out) | exact HB.out)⟩⟩
                                · rw [if_neg c35] at H
                                  have c35b0 : (((rd_T59 l0_1 x20_1).f1) == 1) = false := beq_eq_false_iff_ne.mpr c35
                                  have c35b1 : (((rd_T59 l0_1 x20_1).f1) != 1) = true := bne_iff_ne.mpr c35
                                  (first | rw [c35b0] | (simp only [i64_w, i32_w]; rw [c35b0]) | skip)
                                  have H' := Aside0.mk H
                                  clear H
                                  have hnb38 := NB138_136.out
                                  have hnc38 := NB136_138.out
                                  have hcz39_0 : wc.cell? ⟨gb138, 0, none⟩ = some (.int .i64 ((rd_T59 l0_1 x20_1).f0)) := (blk_cell BK138.out 0).trans rfl
                                  have hcz39_1 : wc.cell? ⟨gb138, 1, none⟩ = some (.int .i64 ((rd_T59 l0_1 x20_1).f1)) := (blk_cell BK138.out 1).trans rfl
                                  have hcz39_2 : wc.cell? ⟨gb138, 2, none⟩ = some (.int .i64 ((rd_T59 l0_1 x20_1).f2)) := (blk_cell BK138.out 2).trans rfl
                                  have hfz39_0 := blk_frozen BK138.out 0
                                  have hfz39_1 := blk_frozen BK138.out 1
                                  have hfz39_2 := blk_frozen BK138.out 2
                                  go_wp2
                                  go_meet
                                  case rel => exact ⟨_, (false), (by first | rfl | (simp; done) | (simp [*]; done)), H', ⟨by have := HK1.out; have := HJ10.out; have := HJ24.out; first | omega | exact Nat.le_refl _⟩, ⟨by (with_reducible repeat (first | refine blk_drewN ?_ _ | refine blk_drew ?_ | refine blk_alloc ?_ _)); exact BK136.out⟩, ⟨by (with_reducible repeat (first | refine blk_drewN ?_ _ | refine blk_drew ?_ | refine blk_alloc ?_ _)); exact BK138.out⟩, ⟨by repeat (first | (with_reducible first | exact HB.out | apply below_alloc | apply pw_below_drewN | apply below_drew1 | refine below_set ?_ GE136.out | refine below_set ?_ GE138.out) | exact HB.out)⟩⟩
                              case rest =>
                                clear HC34
                                try clear c1
                                try clear p1
                                try clear q1
                                try clear hx1
                                try clear c2
                                try clear c2b0
                                try clear c2b1
                                try clear p2
                                try clear c3
                                try clear c5
                                try clear c5b0
                                try clear c5b1
                                try clear p6
                                try clear c8
                                try clear c8b0
                                try clear c9
                                try clear c9b0
                                try clear c10
                                try clear c10b0
                                try clear c13
                                try clear p13
                                try clear q13
                                try clear hx13
                                try clear c15
                                try clear c15b0
                                try clear c16
                                try clear c18
                                try clear c21
                                try clear c22
                                try clear c22b0
                                try clear c23
                                try clear c26
                                try clear c28
                                try clear c28b0
                                try clear c29
                                try clear c31
                                try clear c33
                                try clear c35
                                try clear c35b0
                                try clear c35b1
                                try clear c36
                                try clear c38
                                try clear hcz14_0
                                try clear hcz14_1
                                try clear hcz14_2
                                try clear hcz17_0
                                try clear hcz17_1
                                try clear hcz17_2
                                try clear hcz19_0
                                try clear hcz19_1
                                try clear hcz19_2
                                try clear hcz20_0
                                try clear hcz20_1
                                try clear hcz24_0
                                try clear hcz24_1
                                try clear hcz24_2
                                try clear hcz27_0
                                try clear hcz27_1
                                try clear hcz27_2
                                try clear hcz30_0
                                try clear hcz30_1
                                try clear hcz30_2
                                try clear hcz32_0
                                try clear hcz32_1
                                try clear hcz32_2
                                try clear hcz37_0
                                try clear hcz37_1
                                try clear hcz37_2
                                try clear hcz39_0
                                try clear hcz39_1
                                try clear hcz39_2
                                try clear hcz4_0
                                try clear hcz4_1
                                try clear hcz7_0
                                try clear hcz7_1
                                try clear hfz14_0
                                try clear hfz14_1
                                try clear hfz14_2
                                try clear hfz17_0
                                try clear hfz17_1
                                try clear hfz17_2
                                try clear hfz19_0
                                try clear hfz19_1
                                try clear hfz19_2
                                try clear hfz20_0
                                try clear hfz20_1
                                try clear hfz24_0
                                try clear hfz24_1
                                try clear hfz24_2
                                try clear hfz27_0
                                try clear hfz27_1
                                try clear hfz27_2
                                try clear hfz30_0
                                try clear hfz30_1
                                try clear hfz30_2
                                try clear hfz32_0
                                try clear hfz32_1
                                try clear hfz32_2
                                try clear hfz37_0
                                try clear hfz37_1
                                try clear hfz37_2
                                try clear hfz39_0
                                try clear hfz39_1
                                try clear hfz39_2
                                try clear hfz4_0
                                try clear hfz4_1
                                try clear hfz7_0
                                try clear hfz7_1
                                try clear hx137_0
                                try clear hx137_1
                                try clear hx137_2
                                try clear p1
                                try clear p13
                                try clear p137
                                try clear p2
                                try clear p6
                                try clear q1
                                try clear q13
                                try clear q137
                                obtain ⟨kq, x51_33, rfl, HA, HJ33, BK136, BK138, HB⟩ := hcut
                                cases kq with
                                | zero => exact absurd HA.out (by simp [drive_Check.j3])
                                | succ kj33 =>
                                  have H := HA.out
                                  clear HA
                                  simp only [drive_Check.j3] at H
                                  by_cases c40 : x51_33 = true
                                  · subst c40
                                    have H1 : (some 4) = some r := by rw [if_pos rfl] at H; exact H
                                    clear H
                                    have H := H1
                                    clear H1
                                    obtain rfl := Option.some.inj H
                                    go_wp2
                                    go_ret
                                    exact ⟨by first | rfl | (simp [errW_none, errW_some] <;> rfl) | (simp [*, errW_none, errW_some] <;> rfl), by repeat (first | (with_reducible first | exact HB.out | apply below_alloc | apply pw_below_drewN | apply below_drew1 | refine below_set ?_ GE136.out | refine below_set ?_ GE138.out) | exact HB.out)⟩
                                  · replace c40 := Bool.eq_false_iff.mpr c40
                                    subst c40
                                    have H1 : (if ((rd_T59 l0_1 x20_1).f1) = 2 then (if ((rd_T59 l0_1 x20_1).f2) < 2 then (drive_Check.j4 kj33 l0_1 (l0_1.length : Int) x20_1 true l0_0 l0_1 ((rd_T59 l0_1 x20_1).f0) ((rd_T59 l0_1 x20_1).f1) ((rd_T59 l0_1 x20_1).f2)) else (drive_Check.j4 kj33 l0_1 (l0_1.length : Int) x20_1 (decide (((rd_T59 l0_1 x20_1).f2) > 16)) l0_0 l0_1 ((rd_T59 l0_1 x20_1).f0) ((rd_T59 l0_1 x20_1).f1) ((rd_T59 l0_1 x20_1).f2))) else (drive_Check.j4 kj33 l0_1 (l0_1.length : Int) x20_1 false l0_0 l0_1 ((rd_T59 l0_1 x20_1).f0) ((rd_T59 l0_1 x20_1).f1) ((rd_T59 l0_1 x20_1).f2))) = some r := by rw [if_neg (show ¬ (false = true) by decide)] at H; exact H
                                    clear H
                                    have H := H1
                                    clear H1
                                    have HC41 := Aside0.mk H
                                    clear H
                                    go_upto_region 16 with (fail)
                                    go_cut [51] (fun v51 wc => ∃ (kq : Nat) (x51_40 : Bool), v51 = .bool x51_40 ∧ Aside0 (drive_Check.j4 kq l0_1 (l0_1.length : Int) x20_1 x51_40 l0_0 l0_1 ((rd_T59 l0_1 x20_1).f0) ((rd_T59 l0_1 x20_1).f1) ((rd_T59 l0_1 x20_1).f2) = some r) ∧ Aside0 (kq ≤ kj33) ∧ Aside0 (wc.heap[gb136]? = some (.cells #[(.slice A0_0 l0_0.length c0_0), (.slice (some ad137) l0_1.length c0_1)] 26 (0, 0))) ∧ Aside0 (wc.heap[gb138]? = some (.cells #[.int .i64 ((rd_T59 l0_1 x20_1).f0), .int .i64 ((rd_T59 l0_1 x20_1).f1), .int .i64 ((rd_T59 l0_1 x20_1).f2)] 59 (0, 0))) ∧ Aside0 (Below w.heap.size w wc))
                                    case first =>
                                      have H := HC41.out
                                      clear HC41
                                      by_cases c42 : ((rd_T59 l0_1 x20_1).f1) = 2
                                      · rw [if_pos c42] at H
                                        have c42b0 : (((rd_T59 l0_1 x20_1).f1) == 2) = true := beq_iff_eq.mpr c42
                                        have c42b1 : (((rd_T59 l0_1 x20_1).f1) != 2) = false := bne_eq_false_iff_eq.mpr c42
                                        clear c42
                                        (first | rw [c42b0] | (simp only [i64_w, i32_w]; rw [c42b0]) | skip)
                                        by_cases c43 : ((rd_T59 l0_1 x20_1).f2) < 2
                                        · rw [if_pos c43] at H
                                          have c43b0 : decide (((rd_T59 l0_1 x20_1).f2) < 2) = true := decide_eq_true c43
                                          clear c43
                                          have H' := Aside0.mk H
                                          clear H
                                          have hnb44 := NB138_136.out
                                          have hnc44 := NB136_138.out
                                          have hcz45_0 : wc.cell? ⟨gb138, 0, none⟩ = some (.int .i64 ((rd_T59 l0_1 x20_1).f0)) := (blk_cell BK138.out 0).trans rfl
                                          have hcz45_1 : wc.cell? ⟨gb138, 1, none⟩ = some (.int .i64 ((rd_T59 l0_1 x20_1).f1)) := (blk_cell BK138.out 1).trans rfl
                                          have hcz45_2 : wc.cell? ⟨gb138, 2, none⟩ = some (.int .i64 ((rd_T59 l0_1 x20_1).f2)) := (blk_cell BK138.out 2).trans rfl
                                          have hfz45_0 := blk_frozen BK138.out 0
                                          have hfz45_1 := blk_frozen BK138.out 1
                                          have hfz45_2 := blk_frozen BK138.out 2
                                          go_wp2
                                          go_meet
                                          case rel => exact ⟨_, (true), (by first | rfl | (simp; done) | (simp [*]; done)), H', ⟨by have := HK1.out; have := HJ10.out; have := HJ24.out; have := HJ33.out; first | omega | exact Nat.le_refl _⟩, ⟨by (with_reducible repeat (first | refine blk_drewN ?_ _ | refine blk_drew ?_ | refine blk_alloc ?_ _)); exact BK136.out⟩, ⟨by (with_reducible repeat (first | refine blk_drewN ?_ _ | refine blk_drew ?_ | refine blk_alloc ?_ _)); exact BK138.out⟩, ⟨by repeat (first | (with_reducible first | exact HB.out | apply below_alloc | apply pw_below_drewN | apply below_drew1 | refine below_set ?_ GE136.out | refine below_set ?_ GE138.out) | exact HB.out)⟩⟩
                                        · rw [if_neg c43] at H
                                          have c43b0 : decide (((rd_T59 l0_1 x20_1).f2) < 2) = false := decide_eq_false c43
                                          clear c43
                                          have H' := Aside0.mk H
                                          clear H
                                          have hnb46 := NB138_136.out
                                          have hnc46 := NB136_138.out
                                          have hcz47_0 : wc.cell? ⟨gb138, 0, none⟩ = some (.int .i64 ((rd_T59 l0_1 x20_1).f0)) := (blk_cell BK138.out 0).trans rfl
                                          have hcz47_1 : wc.cell? ⟨gb138, 1, none⟩ = some (.int .i64 ((rd_T59 l0_1 x20_1).f1)) := (blk_cell BK138.out 1).trans rfl
                                          have hcz47_2 : wc.cell? ⟨gb138, 2, none⟩ = some (.int .i64 ((rd_T59 l0_1 x20_1).f2)) := (blk_cell BK138.out 2).trans rfl
                                          have hfz47_0 := blk_frozen BK138.out 0
                                          have hfz47_1 := blk_frozen BK138.out 1
                                          have hfz47_2 := blk_frozen BK138.out 2
                                          go_wp2
                                          go_meet
                                          case rel => exact ⟨_, (decide (((rd_T59 l0_1 x20_1).f2) > 16)), (by first | rfl | (simp; done) | (simp [*]; done)), H', ⟨by have := HK1.out; have := HJ10.out; have := HJ24.out; have := HJ33.out; first | omega | exact Nat.le_refl _⟩, ⟨by (with_reducible repeat (first | refine blk_drewN ?_ _ | refine blk_drew ?_ | refine blk_alloc ?_ _)); exact BK136.out⟩, ⟨by (with_reducible repeat (first | refine blk_drewN ?_ _ | refine blk_drew ?_ | refine blk_alloc ?_ _)); exact BK138.out⟩, ⟨by repeat (first | (with_reducible first | exact HB.out | apply below_alloc | apply pw_below_drewN | apply below_drew1 | refine below_set ?_ GE136.out | refine below_set ?_ GE138.out) | exact HB.out)⟩⟩
                                      · rw [if_neg c42] at H
                                        have c42b0 : (((rd_T59 l0_1 x20_1).f1) == 2) = false := beq_eq_false_iff_ne.mpr c42
                                        have c42b1 : (((rd_T59 l0_1 x20_1).f1) != 2) = true := bne_iff_ne.mpr c42
                                        (first | rw [c42b0] | (simp only [i64_w, i32_w]; rw [c42b0]) | skip)
                                        have H' := Aside0.mk H
                                        clear H
                                        have hnb48 := NB138_136.out
                                        have hnc48 := NB136_138.out
                                        have hcz49_0 : wc.cell? ⟨gb138, 0, none⟩ = some (.int .i64 ((rd_T59 l0_1 x20_1).f0)) := (blk_cell BK138.out 0).trans rfl
                                        have hcz49_1 : wc.cell? ⟨gb138, 1, none⟩ = some (.int .i64 ((rd_T59 l0_1 x20_1).f1)) := (blk_cell BK138.out 1).trans rfl
                                        have hcz49_2 : wc.cell? ⟨gb138, 2, none⟩ = some (.int .i64 ((rd_T59 l0_1 x20_1).f2)) := (blk_cell BK138.out 2).trans rfl
                                        have hfz49_0 := blk_frozen BK138.out 0
                                        have hfz49_1 := blk_frozen BK138.out 1
                                        have hfz49_2 := blk_frozen BK138.out 2
                                        go_wp2
                                        go_meet
                                        case rel => exact ⟨_, (false), (by first | rfl | (simp; done) | (simp [*]; done)), H', ⟨by have := HK1.out; have := HJ10.out; have := HJ24.out; have := HJ33.out; first | omega | exact Nat.le_refl _⟩, ⟨by (with_reducible repeat (first | refine blk_drewN ?_ _ | refine blk_drew ?_ | refine blk_alloc ?_ _)); exact BK136.out⟩, ⟨by (with_reducible repeat (first | refine blk_drewN ?_ _ | refine blk_drew ?_ | refine blk_alloc ?_ _)); exact BK138.out⟩, ⟨by repeat (first | (with_reducible first | exact HB.out | apply below_alloc | apply pw_below_drewN | apply below_drew1 | refine below_set ?_ GE136.out | refine below_set ?_ GE138.out) | exact HB.out)⟩⟩
                                    case rest =>
                                      clear HC41
                                      try clear c1
                                      try clear p1
                                      try clear q1
                                      try clear hx1
                                      try clear c2
                                      try clear c2b0
                                      try clear c2b1
                                      try clear p2
                                      try clear c3
                                      try clear c4
                                      try clear c5
                                      try clear c5b0
                                      try clear c5b1
                                      try clear p6
                                      try clear c8
                                      try clear c8b0
                                      try clear c9
                                      try clear c9b0
                                      try clear c10
                                      try clear c10b0
                                      try clear c13
                                      try clear p13
                                      try clear q13
                                      try clear hx13
                                      try clear c15
                                      try clear c15b0
                                      try clear c16
                                      try clear c18
                                      try clear c21
                                      try clear c22
                                      try clear c22b0
                                      try clear c23
                                      try clear c26
                                      try clear c28
                                      try clear c28b0
                                      try clear c29
                                      try clear c31
                                      try clear c33
                                      try clear c35
                                      try clear c35b0
                                      try clear c35b1
                                      try clear c36
                                      try clear c38
                                      try clear c40
                                      try clear c42
                                      try clear c42b0
                                      try clear c42b1
                                      try clear c43
                                      try clear c43b0
                                      try clear c44
                                      try clear c46
                                      try clear c48
                                      try clear hcz14_0
                                      try clear hcz14_1
                                      try clear hcz14_2
                                      try clear hcz17_0
                                      try clear hcz17_1
                                      try clear hcz17_2
                                      try clear hcz19_0
                                      try clear hcz19_1
                                      try clear hcz19_2
                                      try clear hcz20_0
                                      try clear hcz20_1
                                      try clear hcz24_0
                                      try clear hcz24_1
                                      try clear hcz24_2
                                      try clear hcz27_0
                                      try clear hcz27_1
                                      try clear hcz27_2
                                      try clear hcz30_0
                                      try clear hcz30_1
                                      try clear hcz30_2
                                      try clear hcz32_0
                                      try clear hcz32_1
                                      try clear hcz32_2
                                      try clear hcz37_0
                                      try clear hcz37_1
                                      try clear hcz37_2
                                      try clear hcz39_0
                                      try clear hcz39_1
                                      try clear hcz39_2
                                      try clear hcz45_0
                                      try clear hcz45_1
                                      try clear hcz45_2
                                      try clear hcz47_0
                                      try clear hcz47_1
                                      try clear hcz47_2
                                      try clear hcz49_0
                                      try clear hcz49_1
                                      try clear hcz49_2
                                      try clear hcz4_0
                                      try clear hcz4_1
                                      try clear hcz7_0
                                      try clear hcz7_1
                                      try clear hfz14_0
                                      try clear hfz14_1
                                      try clear hfz14_2
                                      try clear hfz17_0
                                      try clear hfz17_1
                                      try clear hfz17_2
                                      try clear hfz19_0
                                      try clear hfz19_1
                                      try clear hfz19_2
                                      try clear hfz20_0
                                      try clear hfz20_1
                                      try clear hfz24_0
                                      try clear hfz24_1
                                      try clear hfz24_2
                                      try clear hfz27_0
                                      try clear hfz27_1
                                      try clear hfz27_2
                                      try clear hfz30_0
                                      try clear hfz30_1
                                      try clear hfz30_2
                                      try clear hfz32_0
                                      try clear hfz32_1
                                      try clear hfz32_2
                                      try clear hfz37_0
                                      try clear hfz37_1
                                      try clear hfz37_2
                                      try clear hfz39_0
                                      try clear hfz39_1
                                      try clear hfz39_2
                                      try clear hfz45_0
                                      try clear hfz45_1
                                      try clear hfz45_2
                                      try clear hfz47_0
                                      try clear hfz47_1
                                      try clear hfz47_2
                                      try clear hfz49_0
                                      try clear hfz49_1
                                      try clear hfz49_2
                                      try clear hfz4_0
                                      try clear hfz4_1
                                      try clear hfz7_0
                                      try clear hfz7_1
                                      try clear hx137_0
                                      try clear hx137_1
                                      try clear hx137_2
                                      try clear p1
                                      try clear p13
                                      try clear p137
                                      try clear p2
                                      try clear p6
                                      try clear q1
                                      try clear q13
                                      try clear q137
                                      obtain ⟨kq, x51_40, rfl, HA, HJ40, BK136, BK138, HB⟩ := hcut
                                      cases kq with
                                      | zero => exact absurd HA.out (by simp [drive_Check.j4])
                                      | succ kj40 =>
                                        have H := HA.out
                                        clear HA
                                        simp only [drive_Check.j4] at H
                                        by_cases c50 : x51_40 = true
                                        · subst c50
                                          have H1 : (some 4) = some r := by rw [if_pos rfl] at H; exact H
                                          clear H
                                          have H := H1
                                          clear H1
                                          obtain rfl := Option.some.inj H
                                          go_wp2
                                          go_ret
                                          exact ⟨by first | rfl | (simp [errW_none, errW_some] <;> rfl) | (simp [*, errW_none, errW_some] <;> rfl), by repeat (first | (with_reducible first | exact HB.out | apply below_alloc | apply pw_below_drewN | apply below_drew1 | refine below_set ?_ GE136.out | refine below_set ?_ GE138.out) | exact HB.out)⟩
                                        · replace c50 := Bool.eq_false_iff.mpr c50
                                          subst c50
                                          have H1 : (if ((rd_T59 l0_1 x20_1).f1) = 3 then (if ((rd_T59 l0_1 x20_1).f2) < 2 then (some 4) else (if ((rd_T59 l0_1 x20_1).f2) > 100 then (some 4) else (drive_Check.l0 kj40 ((rd_T59 l0_1 x20_1).f0) l0_1 (l0_1.length : Int) (wrap64 (x20_1 + 1)) l0_0 l0_1))) else (drive_Check.l0 kj40 ((rd_T59 l0_1 x20_1).f0) l0_1 (l0_1.length : Int) (wrap64 (x20_1 + 1)) l0_0 l0_1)) = some r := by rw [if_neg (show ¬ (false = true) by decide)] at H; exact H
                                          clear H
                                          have H := H1
                                          clear H1
                                          by_cases c51 : ((rd_T59 l0_1 x20_1).f1) = 3
                                          · rw [if_pos c51] at H
                                            have c51b0 : (((rd_T59 l0_1 x20_1).f1) == 3) = true := beq_iff_eq.mpr c51
                                            have c51b1 : (((rd_T59 l0_1 x20_1).f1) != 3) = false := bne_eq_false_iff_eq.mpr c51
                                            clear c51
                                            by_cases c52 : ((rd_T59 l0_1 x20_1).f2) < 2
                                            · rw [if_pos c52] at H
                                              have c52b0 : decide (((rd_T59 l0_1 x20_1).f2) < 2) = true := decide_eq_true c52
                                              clear c52
                                              obtain rfl := Option.some.inj H
                                              have hnb53 := NB138_136.out
                                              have hnc53 := NB136_138.out
                                              have hcz54_0 : wc.cell? ⟨gb138, 0, none⟩ = some (.int .i64 ((rd_T59 l0_1 x20_1).f0)) := (blk_cell BK138.out 0).trans rfl
                                              have hcz54_1 : wc.cell? ⟨gb138, 1, none⟩ = some (.int .i64 ((rd_T59 l0_1 x20_1).f1)) := (blk_cell BK138.out 1).trans rfl
                                              have hcz54_2 : wc.cell? ⟨gb138, 2, none⟩ = some (.int .i64 ((rd_T59 l0_1 x20_1).f2)) := (blk_cell BK138.out 2).trans rfl
                                              have hfz54_0 := blk_frozen BK138.out 0
                                              have hfz54_1 := blk_frozen BK138.out 1
                                              have hfz54_2 := blk_frozen BK138.out 2
                                              go_wp2
                                              go_ret
                                              exact ⟨by first | rfl | (simp [errW_none, errW_some] <;> rfl) | (simp [*, errW_none, errW_some] <;> rfl), by repeat (first | (with_reducible first | exact HB.out | apply below_alloc | apply pw_below_drewN | apply below_drew1 | refine below_set ?_ GE136.out | refine below_set ?_ GE138.out) | exact HB.out)⟩
                                            · rw [if_neg c52] at H
                                              have c52b0 : decide (((rd_T59 l0_1 x20_1).f2) < 2) = false := decide_eq_false c52
                                              clear c52
                                              by_cases c55 : ((rd_T59 l0_1 x20_1).f2) > 100
                                              · rw [if_pos c55] at H
                                                have c55b0 : decide (100 < ((rd_T59 l0_1 x20_1).f2)) = true := decide_eq_true c55
                                                clear c55
                                                obtain rfl := Option.some.inj H
                                                have hnb56 := NB138_136.out
                                                have hnc56 := NB136_138.out
                                                have hcz57_0 : wc.cell? ⟨gb138, 0, none⟩ = some (.int .i64 ((rd_T59 l0_1 x20_1).f0)) := (blk_cell BK138.out 0).trans rfl
                                                have hcz57_1 : wc.cell? ⟨gb138, 1, none⟩ = some (.int .i64 ((rd_T59 l0_1 x20_1).f1)) := (blk_cell BK138.out 1).trans rfl
                                                have hcz57_2 : wc.cell? ⟨gb138, 2, none⟩ = some (.int .i64 ((rd_T59 l0_1 x20_1).f2)) := (blk_cell BK138.out 2).trans rfl
                                                have hfz57_0 := blk_frozen BK138.out 0
                                                have hfz57_1 := blk_frozen BK138.out 1
                                                have hfz57_2 := blk_frozen BK138.out 2
                                                go_wp2
                                                go_ret
                                                exact ⟨by first | rfl | (simp [errW_none, errW_some] <;> rfl) | (simp [*, errW_none, errW_some] <;> rfl), by repeat (first | (with_reducible first | exact HB.out | apply below_alloc | apply pw_below_drewN | apply below_drew1 | refine below_set ?_ GE136.out | refine below_set ?_ GE138.out) | exact HB.out)⟩
                                              · rw [if_neg c55] at H
                                                have c55b0 : decide (100 < ((rd_T59 l0_1 x20_1).f2)) = false := decide_eq_false c55
                                                clear c55
                                                have H' := Aside0.mk H
                                                clear H
                                                have hnb58 := NB138_136.out
                                                have hnc58 := NB136_138.out
                                                have hcz59_0 : wc.cell? ⟨gb138, 0, none⟩ = some (.int .i64 ((rd_T59 l0_1 x20_1).f0)) := (blk_cell BK138.out 0).trans rfl
                                                have hcz59_1 : wc.cell? ⟨gb138, 1, none⟩ = some (.int .i64 ((rd_T59 l0_1 x20_1).f1)) := (blk_cell BK138.out 1).trans rfl
                                                have hcz59_2 : wc.cell? ⟨gb138, 2, none⟩ = some (.int .i64 ((rd_T59 l0_1 x20_1).f2)) := (blk_cell BK138.out 2).trans rfl
                                                have hfz59_0 := blk_frozen BK138.out 0
                                                have hfz59_1 := blk_frozen BK138.out 1
                                                have hfz59_2 := blk_frozen BK138.out 2
                                                go_wp2
                                                go_roundg kj40
                                                case measure => have := HK1.out; have := HJ10.out; have := HJ24.out; have := HJ33.out; have := HJ40.out; omega
                                                case rel => exact ⟨(((rd_T59 l0_1 x20_1).f0)), (wrap64 (x20_1 + 1)), (by first | rfl | (simp; done) | (simp [*]; done)), (by first | rfl | (simp; done) | (simp [*]; done)), H', ⟨by have := HK1.out; have := HJ10.out; have := HJ24.out; have := HJ33.out; have := HJ40.out; omega⟩, ⟨by (with_reducible repeat (first | refine blk_drewN ?_ _ | refine blk_drew ?_ | refine blk_alloc ?_ _)); exact BK136.out⟩, ⟨by repeat (first | (with_reducible first | exact HB.out | apply below_alloc | apply pw_below_drewN | apply below_drew1 | refine below_set ?_ GE136.out | refine below_set ?_ GE138.out) | exact HB.out)⟩⟩
                                          · rw [if_neg c51] at H
                                            have c51b0 : (((rd_T59 l0_1 x20_1).f1) == 3) = false := beq_eq_false_iff_ne.mpr c51
                                            have c51b1 : (((rd_T59 l0_1 x20_1).f1) != 3) = true := bne_iff_ne.mpr c51
                                            have H' := Aside0.mk H
                                            clear H
                                            have hnb60 := NB138_136.out
                                            have hnc60 := NB136_138.out
                                            have hcz61_0 : wc.cell? ⟨gb138, 0, none⟩ = some (.int .i64 ((rd_T59 l0_1 x20_1).f0)) := (blk_cell BK138.out 0).trans rfl
                                            have hcz61_1 : wc.cell? ⟨gb138, 1, none⟩ = some (.int .i64 ((rd_T59 l0_1 x20_1).f1)) := (blk_cell BK138.out 1).trans rfl
                                            have hcz61_2 : wc.cell? ⟨gb138, 2, none⟩ = some (.int .i64 ((rd_T59 l0_1 x20_1).f2)) := (blk_cell BK138.out 2).trans rfl
                                            have hfz61_0 := blk_frozen BK138.out 0
                                            have hfz61_1 := blk_frozen BK138.out 1
                                            have hfz61_2 := blk_frozen BK138.out 2
                                            go_wp2
                                            go_roundg kj40
                                            case measure => have := HK1.out; have := HJ10.out; have := HJ24.out; have := HJ33.out; have := HJ40.out; omega
                                            case rel => exact ⟨(((rd_T59 l0_1 x20_1).f0)), (wrap64 (x20_1 + 1)), (by first | rfl | (simp; done) | (simp [*]; done)), (by first | rfl | (simp; done) | (simp [*]; done)), H', ⟨by have := HK1.out; have := HJ10.out; have := HJ24.out; have := HJ33.out; have := HJ40.out; omega⟩, ⟨by (with_reducible repeat (first | refine blk_drewN ?_ _ | refine blk_drew ?_ | refine blk_alloc ?_ _)); exact BK136.out⟩, ⟨by repeat (first | (with_reducible first | exact HB.out | apply below_alloc | apply pw_below_drewN | apply below_drew1 | refine below_set ?_ GE136.out | refine below_set ?_ GE138.out) | exact HB.out)⟩⟩
              · rw [if_neg c10] at H
                exact absurd H (by simp)
            · rw [if_neg c9] at H
              exact absurd H (by simp)
          · rw [if_neg c8] at H
            have c8b0 : decide (x20_1 < (l0_1.length : Int)) = false := decide_eq_false c8
            clear c8
            obtain rfl := Option.some.inj H
            go_wp2
            go_ret
            exact ⟨by first | rfl | (simp [errW_none, errW_some] <;> rfl) | (simp [*, errW_none, errW_some] <;> rfl), by repeat (first | (with_reducible first | exact HB.out | apply below_alloc | apply pw_below_drewN | apply below_drew1 | refine below_set ?_ GE136.out) | exact HB.out)⟩
    · rw [if_neg c5] at H
      have c5b0 : (((l0_0.length : Int) % 64) == 0) = false := beq_eq_false_iff_ne.mpr c5
      have c5b1 : (((l0_0.length : Int) % 64) != 0) = true := bne_iff_ne.mpr c5
      obtain rfl := Option.some.inj H
      go_enter Try.func23, Try.ntmps23
      go_wp2_with (first | ((with_reducible refine gate_dst (N := 1) rfl ?_); (try (refine gate_guard (by rfl) ?_; dsimp only)); refine box_event ?hg (N := 1) ?hd (cs := #[.slice A0_0 l0_0.length c0_0, .slice A0_1 l0_1.length c0_1]) (t := 26) ?hr ?_; (case hd => rfl); (case hg => rfl); (case hr => first | (go_simp; done) | (go_simp; rfl)); intro gb136 hg w62 hbox hb; have n0_ := Aside0.mk (below_step (by repeat (first | (with_reducible first | exact HB.out | apply below_alloc | apply pw_below_drewN | apply below_drew1) | exact HB.out)) hb); have n1_ := Aside0.mk (hbox); have n2_ := Aside0.mk ((by rw [hg]; exact (below_size (by repeat (first | (with_reducible first | exact HB.out | apply below_alloc | apply pw_below_drewN | apply below_drew1) | exact HB.out))) : w.heap.size ≤ gb136)); have n3_ := Aside0.mk ((by rw [hg]; exact (below_size (by repeat (first | (with_reducible first | exact HB.out | apply below_alloc | apply pw_below_drewN | apply below_drew1) | exact HB.out))) : w.heap.size ≤ gb136)); clear HB; have HB := n0_; have BK136 := n1_; have GW136 := n2_; have GE136 := n3_; clear n0_ n1_ n2_ n3_; clear hb hbox hg; have hcz63_0 : w62.cell? ⟨gb136, 0, none⟩ = some (.slice A0_0 l0_0.length c0_0) := (blk_cell BK136.out 0).trans rfl; have hcz63_1 : w62.cell? ⟨gb136, 1, none⟩ = some (.slice A0_1 l0_1.length c0_1) := (blk_cell BK136.out 1).trans rfl; have hfz63_0 := blk_frozen BK136.out 0; have hfz63_1 := blk_frozen BK136.out 1))
      go_ret
      exact ⟨by first | rfl | (simp [errW_none, errW_some] <;> rfl) | (simp [*, errW_none, errW_some] <;> rfl), by repeat (first | (with_reducible first | exact HB.out | apply below_alloc | apply pw_below_drewN | apply below_drew1 | refine below_set ?_ GE136.out) | exact HB.out)⟩

end Go.Proofs.Ytcnabemeadnecaa.PPassPlans
