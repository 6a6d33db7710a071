-- written by prn.py, a program of this session, over the kit's printer
import Derived.Test.YtcgflahchpeakaaPNearMergesx0
import Derived.Test.YtcgflahchpeakaaPNearMergesx1
import Derived.Test.YtcgflahchpeakaaPNearMergesx3
import Derived.Test.YtcgflahchpeakaaPNearMergesx4
import Derived.Test.YtcgflahchpeakaaPNearMergesx5
namespace Go.Proofs.Ytcgflahchpeakaa.PNearMerges
open Go.RowKit Go.Proofs.YtcgflahchpeakaaW.PrintWords Go.Proofs.YtcgflahchpeakaaW.PrintLast Go.Proofs.YtcgflahchpeakaaW.PrintMore Go.Proofs.YtcgflahchpeakaaW.PrintMine
attribute [local go_sem] max2_int min2_int max_two min_two max_three min_three max_four min_four   -- for this text's walks alone
set_option linter.unusedVariables false
set_option linter.unusedSimpArgs false

/-! ### wrackkeep3_NearMerges: function 3 -/
mutual
def wrackkeep3_NearMerges.l0 : Nat → Int → Int → List (List Int) → List (List Int) → Int → Int → Option (Bool)
  | 0, _, _, _, _, _, _ => none
  | k + 1, x1, x2, x7, x21, x22, x23 => if x23 < x22 then (if 0 ≤ x23 then (if x23 < (x21.length : Int) then ((wrackkeep3_letters.f k (rd_L6 x21 x23) 20).bind fun t218 => (if x7.length < 5864062014805 then (wrackkeep3_NearMerges.l0 k x1 x2 (x7 ++ [t218]) x21 x22 (wrap64 (x23 + 1))) else (none))) else (none)) else (none)) else ((wrackmake_Below.f x1 11).bind fun t224 => ((near_Groups.f k x7 t224 10).bind fun bt225 => ((wrackmake_Below.f x2 5).bind fun t229 => ((near_Groups.f k x7 (mn 10 (wrap64 (t224 + t229))) 10).bind fun bt230 => ((wrackkeep3_shingled.f k).bind fun t234 => (if t234 = true then (if bt225.2 = 0 then (wrackkeep3_NearMerges.j1 k x7 bt225.1 bt230.1 (bt230.2 != 0)) else (wrackkeep3_NearMerges.j1 k x7 bt225.1 bt230.1 true)) else (wrackkeep3_NearMerges.j1 k x7 bt225.1 bt230.1 true)))))))
def wrackkeep3_NearMerges.j1 : Nat → List (List Int) → List (List Int) → List (List Int) → Bool → Option (Bool)
  | 0, _, _, _, _ => none
  | k + 1, x7, x10, x12, x60 => if x60 = true then (some false) else ((slices_Concat_int_int.f k x12).bind fun t235 => ((slices_Sort_int_int.f t235).bind fun t238 => (if (t235.length : Int) = (x7.length : Int) then ((slices_Compact_int_int.f t238).bind fun t239 => (wrackkeep3_NearMerges.j2 k x10 x12 ((t239.length : Int) != (x7.length : Int)))) else (wrackkeep3_NearMerges.j2 k x10 x12 true))))
def wrackkeep3_NearMerges.j2 : Nat → List (List Int) → List (List Int) → Bool → Option (Bool)
  | 0, _, _, _ => none
  | k + 1, x10, x12, x77 => if x77 = true then (some false) else (wrackkeep3_NearMerges.l1 k x10 x12 x12 (x12.length : Int) 0)
def wrackkeep3_NearMerges.l1 : Nat → List (List Int) → List (List Int) → List (List Int) → Int → Int → Option (Bool)
  | 0, _, _, _, _, _ => none
  | k + 1, x10, x12, x78, x79, x80 => if x80 < x79 then (if 0 ≤ x80 then (if x80 < (x78.length : Int) then ((slices_ContainsFunc_int_int.f x10 (rd_L6 x78 x80)).bind fun t243 => (if t243 = true then (wrackkeep3_NearMerges.l1 k x10 x12 x78 x79 (wrap64 (x80 + 1))) else (some false))) else (none)) else (none)) else (some (decide ((x12.length : Int) ≥ (x10.length : Int))))
end
def wrackkeep3_NearMerges.f (k : Nat) (l0 : List (List Int)) (a1 : Int) (a2 : Int) : Option (Bool) := if 0 ≤ (mn (l0.length : Int) 8) then (if (mn (l0.length : Int) 8) ≤ (l0.length : Int) then ((some (l0.take ((mn (l0.length : Int) 8) : Int).toNat : List (List Int))).bind fun y213 => (wrackkeep3_NearMerges.l0 k a1 a2 ([] : List (List Int)) y213 (y213.length : Int) 0)) else (none)) else (none)
theorem wrackkeep3_NearMerges.mono_l : ∀ k, (∀ y0 y1 y2 y3 y4 y5, LeO (wrackkeep3_NearMerges.l0 k y0 y1 y2 y3 y4 y5) (wrackkeep3_NearMerges.l0 (k + 1) y0 y1 y2 y3 y4 y5)) ∧ (∀ y0 y1 y2 y3, LeO (wrackkeep3_NearMerges.j1 k y0 y1 y2 y3) (wrackkeep3_NearMerges.j1 (k + 1) y0 y1 y2 y3)) ∧ (∀ y0 y1 y2, LeO (wrackkeep3_NearMerges.j2 k y0 y1 y2) (wrackkeep3_NearMerges.j2 (k + 1) y0 y1 y2)) ∧ (∀ y0 y1 y2 y3 y4, LeO (wrackkeep3_NearMerges.l1 k y0 y1 y2 y3 y4) (wrackkeep3_NearMerges.l1 (k + 1) y0 y1 y2 y3 y4))
  | 0 => ⟨fun _ _ _ _ _ _ r h => by simp [wrackkeep3_NearMerges.l0] at h, fun _ _ _ _ r h => by simp [wrackkeep3_NearMerges.j1] at h, fun _ _ _ r h => by simp [wrackkeep3_NearMerges.j2] at h, fun _ _ _ _ _ r h => by simp [wrackkeep3_NearMerges.l1] at h⟩
  | k + 1 => by
    obtain ⟨ih0, ih1, ih2, ih3⟩ := wrackkeep3_NearMerges.mono_l k
    refine ⟨?_, ?_, ?_, ?_⟩
    · intro y0 y1 y2 y3 y4 y5
      unfold wrackkeep3_NearMerges.l0
      repeat' first
      | (with_reducible exact ih0 _ _ _ _ _ _)
      | (with_reducible exact ih1 _ _ _ _)
      | (with_reducible exact ih2 _ _ _)
      | (with_reducible exact ih3 _ _ _ _ _)
      | (with_reducible exact near_Groups.mono _ _ _ _)
      | (with_reducible exact slices_Concat_int_int.mono _ _)
      | (with_reducible exact wrackkeep3_letters.mono _ _ _)
      | (with_reducible exact wrackkeep3_shingled.mono _)
      | (with_reducible exact LeO.refl _)
      | (with_reducible exact LeO.none _)
      | (with_reducible refine LeO.ite ?_ ?_)
      | (with_reducible refine LeO.bind ?_ (fun _ => ?_))
      | exact ih0 _ _ _ _ _ _
      | exact ih1 _ _ _ _
      | exact ih2 _ _ _
      | exact ih3 _ _ _ _ _
      | exact near_Groups.mono _ _ _ _
      | exact slices_Concat_int_int.mono _ _
      | exact wrackkeep3_letters.mono _ _ _
      | exact wrackkeep3_shingled.mono _
      | exact LeO.none _
      | refine LeO.ite ?_ ?_
      | refine LeO.bind ?_ (fun _ => ?_)
    · intro y0 y1 y2 y3
      unfold wrackkeep3_NearMerges.j1
      repeat' first
      | (with_reducible exact ih0 _ _ _ _ _ _)
      | (with_reducible exact ih1 _ _ _ _)
      | (with_reducible exact ih2 _ _ _)
      | (with_reducible exact ih3 _ _ _ _ _)
      | (with_reducible exact near_Groups.mono _ _ _ _)
      | (with_reducible exact slices_Concat_int_int.mono _ _)
      | (with_reducible exact wrackkeep3_letters.mono _ _ _)
      | (with_reducible exact wrackkeep3_shingled.mono _)
      | (with_reducible exact LeO.refl _)
      | (with_reducible exact LeO.none _)
      | (with_reducible refine LeO.ite ?_ ?_)
      | (with_reducible refine LeO.bind ?_ (fun _ => ?_))
      | exact ih0 _ _ _ _ _ _
      | exact ih1 _ _ _ _
      | exact ih2 _ _ _
      | exact ih3 _ _ _ _ _
      | exact near_Groups.mono _ _ _ _
      | exact slices_Concat_int_int.mono _ _
      | exact wrackkeep3_letters.mono _ _ _
      | exact wrackkeep3_shingled.mono _
      | exact LeO.none _
      | refine LeO.ite ?_ ?_
      | refine LeO.bind ?_ (fun _ => ?_)
    · intro y0 y1 y2
      unfold wrackkeep3_NearMerges.j2
      repeat' first
      | (with_reducible exact ih0 _ _ _ _ _ _)
      | (with_reducible exact ih1 _ _ _ _)
      | (with_reducible exact ih2 _ _ _)
      | (with_reducible exact ih3 _ _ _ _ _)
      | (with_reducible exact near_Groups.mono _ _ _ _)
      | (with_reducible exact slices_Concat_int_int.mono _ _)
      | (with_reducible exact wrackkeep3_letters.mono _ _ _)
      | (with_reducible exact wrackkeep3_shingled.mono _)
      | (with_reducible exact LeO.refl _)
      | (with_reducible exact LeO.none _)
      | (with_reducible refine LeO.ite ?_ ?_)
      | (with_reducible refine LeO.bind ?_ (fun _ => ?_))
      | exact ih0 _ _ _ _ _ _
      | exact ih1 _ _ _ _
      | exact ih2 _ _ _
      | exact ih3 _ _ _ _ _
      | exact near_Groups.mono _ _ _ _
      | exact slices_Concat_int_int.mono _ _
      | exact wrackkeep3_letters.mono _ _ _
      | exact wrackkeep3_shingled.mono _
      | exact LeO.none _
      | refine LeO.ite ?_ ?_
      | refine LeO.bind ?_ (fun _ => ?_)
    · intro y0 y1 y2 y3 y4
      unfold wrackkeep3_NearMerges.l1
      repeat' first
      | (with_reducible exact ih0 _ _ _ _ _ _)
      | (with_reducible exact ih1 _ _ _ _)
      | (with_reducible exact ih2 _ _ _)
      | (with_reducible exact ih3 _ _ _ _ _)
      | (with_reducible exact near_Groups.mono _ _ _ _)
      | (with_reducible exact slices_Concat_int_int.mono _ _)
      | (with_reducible exact wrackkeep3_letters.mono _ _ _)
      | (with_reducible exact wrackkeep3_shingled.mono _)
      | (with_reducible exact LeO.refl _)
      | (with_reducible exact LeO.none _)
      | (with_reducible refine LeO.ite ?_ ?_)
      | (with_reducible refine LeO.bind ?_ (fun _ => ?_))
      | exact ih0 _ _ _ _ _ _
      | exact ih1 _ _ _ _
      | exact ih2 _ _ _
      | exact ih3 _ _ _ _ _
      | exact near_Groups.mono _ _ _ _
      | exact slices_Concat_int_int.mono _ _
      | exact wrackkeep3_letters.mono _ _ _
      | exact wrackkeep3_shingled.mono _
      | exact LeO.none _
      | refine LeO.ite ?_ ?_
      | refine LeO.bind ?_ (fun _ => ?_)
theorem wrackkeep3_NearMerges.mono : ∀ a0 a1 a2 k, LeO (wrackkeep3_NearMerges.f k a0 a1 a2) (wrackkeep3_NearMerges.f (k + 1) a0 a1 a2) := by
  intro a0 a1 a2 k
  obtain ⟨ih0, ih1, ih2, ih3⟩ := wrackkeep3_NearMerges.mono_l k
  unfold wrackkeep3_NearMerges.f
  repeat' first
      | (with_reducible exact ih0 _ _ _ _ _ _)
      | (with_reducible exact ih1 _ _ _ _)
      | (with_reducible exact ih2 _ _ _)
      | (with_reducible exact ih3 _ _ _ _ _)
      | (with_reducible exact near_Groups.mono _ _ _ _)
      | (with_reducible exact slices_Concat_int_int.mono _ _)
      | (with_reducible exact wrackkeep3_letters.mono _ _ _)
      | (with_reducible exact wrackkeep3_shingled.mono _)
      | (with_reducible exact LeO.refl _)
      | (with_reducible exact LeO.none _)
      | (with_reducible refine LeO.ite ?_ ?_)
      | (with_reducible refine LeO.bind ?_ (fun _ => ?_))
      | exact ih0 _ _ _ _ _ _
      | exact ih1 _ _ _ _
      | exact ih2 _ _ _
      | exact ih3 _ _ _ _ _
      | exact near_Groups.mono _ _ _ _
      | exact slices_Concat_int_int.mono _ _
      | exact wrackkeep3_letters.mono _ _ _
      | exact wrackkeep3_shingled.mono _
      | exact LeO.none _
      | refine LeO.ite ?_ ?_
      | refine LeO.bind ?_ (fun _ => ?_)
set_option maxHeartbeats 8000000 in
set_option maxRecDepth 100000 in
theorem wrackkeep3_NearMerges.calls (k : Nat) (A0 : Option Addr) (c0 : Nat) (l0 : List (List Int)) (a1 : Int) (a2 : Int) (r : Bool) (w : World) (hr0 : Kd.C (Kd.slice 3 (Kd.int .i64)) w A0 l0.length l0) (hc0 : l0.length ≤ c0) (hr_ : Aside0 (r = true)) (h : wrackkeep3_NearMerges.f k l0 a1 a2 = some r) :
    Calls Try.prog 3 #[.slice A0 l0.length c0, .int .i64 a1, .int .i64 a2] w fun e w' => e = .returned (.bool r) ∧ Below w.heap.size w w' := by
  have HR0 := Aside0.mk hr0
  have HC0 := Aside0.mk hc0
  clear hr0 hc0
  have HB := Aside0.mk (Below.refl w.heap.size w)
  have H : (if 0 ≤ (mn (l0.length : Int) 8) then (if (mn (l0.length : Int) 8) ≤ (l0.length : Int) then ((some (l0.take ((mn (l0.length : Int) 8) : Int).toNat : List (List Int))).bind fun y213 => (wrackkeep3_NearMerges.l0 k a1 a2 ([] : List (List Int)) y213 (y213.length : Int) 0)) else (none)) else (none)) = some r := h
  clear h
  obtain ⟨ji4, hji4⟩ : ∃ j_ : Int, (mn (l0.length : Int) 8) = j_ := ⟨_, rfl⟩
  replace H : (if 0 ≤ (ji4) then (if (ji4) ≤ (l0.length : Int) then ((some (l0.take ((ji4) : Int).toNat : List (List Int))).bind fun y213 => (wrackkeep3_NearMerges.l0 k a1 a2 ([] : List (List Int)) y213 (y213.length : Int) 0)) else (none)) else (none)) = some r := by first | (rw [hji4] at H; exact H) | (simp only [hji4] at H ⊢; exact H)
  (try (have hji4h : ji4 ≤ 8 := by (rw [← hji4]; unfold mn; (repeat' split) <;> omega)))
  (try (have hji4g : ji4 ≤ 64 := by omega))
  (try (have hji4l : 0 ≤ ji4 := by (rw [← hji4]; unfold mn; (repeat' split) <;> omega)))
  (try (have hji4m : 0 ≤ ji4 := by omega))
  have hji4_ : (if 8 < (l0.length : Int) then 8 else (l0.length : Int)) = ji4 := hji4
  by_cases c5 : 0 ≤ (ji4)
  · rw [if_pos c5] at H
    have c5b0 := eq_true c5
    have c5b1 : decide (0 ≤ (ji4)) = true := decide_eq_true c5
    clear c5
    by_cases c6 : (ji4) ≤ (l0.length : Int)
    · rw [if_pos c6] at H
      have c6b0 := eq_true c6
      have c6b1 : decide ((ji4) ≤ (l0.length : Int)) = true := decide_eq_true c6
      clear c6
      obtain ⟨y213, hy213⟩ : ∃ y_ : List (List Int), y_ = (l0.take ((ji4) : Int).toNat) := ⟨_, rfl⟩
      replace H : (wrackkeep3_NearMerges.l0 k a1 a2 ([] : List (List Int)) y213 (y213.length : Int) 0) = some r := by first | (rw [hy213]; with_reducible exact H) | (have H2_ := (Option.bind_some _ _).symm.trans H; rw [hy213]; with_reducible exact H2_) | (have H2_ := (Option.bind_some _ _).symm.trans H; with_reducible exact H2_) | with_reducible exact H | (rw [hy213]; exact H) | exact H
      have Ny213 := Aside0.mk hy213
      clear hy213
      have H' := Aside0.mk H
      clear H
      have q7 : ((ji4) : Int) ≤ ((l0.length : Int) : Int) := of_decide_eq_true (by first | (with_reducible assumption) | assumption)
      obtain ⟨i07, hi07, _, hsz7, _⟩ := info_parts info24
      have hroom7 : l0.length ≤ c0 := HC0.out
      have hC7 : Kd.C (Kd.slice 3 (Kd.int .i64)) _ A0 l0.length l0 := HR0.out
      have hcut7 := cut_to (P := Try.prog) 22 24 .i64 Try.underlying22 hi07 A0 l0.length c0 (ji4) (of_decide_eq_true (by first | (with_reducible assumption) | assumption)) q7 hroom7
      have hr7 := Kd.C_take (m := ((ji4) : Int).toNat) hC7 (by omega)
      have hy7 : y213.length = ((ji4) : Int).toNat := (by rw [Ny213.out, List.length_take]; omega)
      rw [← Ny213.out] at hr7
      rw [← hy7] at hcut7
      have HR216 := Aside0.mk hr7
      have HC216 := Aside0.mk (show y213.length ≤ c0 from by omega)
      clear hr7 hC7 hroom7 hi07 hsz7
      have KY7 := Aside0.mk hy7
      clear hy7
      replace q7 := eq_true q7
      go_enter Try.func3, Try.ntmps3
      go_wp2
      go_loopg [7, 23] k (fun kq v7 v23 w' => ∃ (x7_1 : List (List Int)) (x23_1 : Int), v23 = .int .i64 x23_1 ∧ Aside0 (wrackkeep3_NearMerges.l0 kq a1 a2 x7_1 y213 (y213.length : Int) x23_1 = some r) ∧ Aside0 (kq ≤ k) ∧ Aside0 (Kd.S (Kd.slice 5 (Kd.int .u8)) 25 w' w.heap.size (fun _ => True) v7 x7_1) ∧ Aside0 (Below w.heap.size w w'))
      case atStart => exact ⟨(([] : List (List Int))), (0), (by first | rfl | (simp; done) | (simp [*]; done)), H', ⟨Nat.le_refl _⟩, ⟨by first | exact Kd.S_nil _ _ _ _ _ | exact Kd.N_nil _ _ _ _ _ | exact Kd.V_nil _ _ _ _ _ | exact Kd.Q_nil _ _ _ _ _ | exact Kd.R_nil _ _ _ _ _⟩, ⟨by repeat (first | (with_reducible first | exact HB.out | apply below_alloc | apply pw_below_drewN | apply below_drew1) | exact HB.out)⟩⟩
      case round =>
        clear H'
        try clear p2
        try clear c3
        try clear p3
        try clear c5
        try clear c5b0
        try clear c5b1
        try clear c6
        try clear c6b0
        try clear c6b1
        try clear q7
        try clear q7
        obtain ⟨x7_1, x23_1, rfl, HA, HK1, HO_7, HB⟩ := hrel
        cases gk with
        | zero => exact absurd HA.out (by simp [wrackkeep3_NearMerges.l0])
        | succ k1 =>
          have H := HA.out
          clear HA
          simp only [wrackkeep3_NearMerges.l0] at H
          by_cases c8 : x23_1 < (y213.length : Int)
          · rw [if_pos c8] at H
            have c8b0 : decide (x23_1 < (y213.length : Int)) = true := decide_eq_true c8
            clear c8
            by_cases c9 : 0 ≤ x23_1
            · rw [if_pos c9] at H
              have c9b0 : decide (0 ≤ x23_1) = true := decide_eq_true c9
              clear c9
              by_cases c10 : x23_1 < (y213.length : Int)
              · rw [if_pos c10] at H
                have c10b0 : decide (x23_1 < (y213.length : Int)) = true := decide_eq_true c10
                clear c10
                replace H := Option.bind_eq_some_iff.mp H
                obtain ⟨t218, A110, H⟩ := H
                replace H : (if x7_1.length < 5864062014805 then (wrackkeep3_NearMerges.l0 k1 a1 a2 (x7_1 ++ [t218]) y213 (y213.length : Int) (wrap64 (x23_1 + 1))) else (none)) = some r := H
                have A11 := Aside0.mk A110
                clear A110
                by_cases c12 : x7_1.length < 5864062014805
                · rw [if_pos c12] at H
                  have LMc12 := Aside0.mk c12
                  clear c12
                  obtain ⟨y221, hy221⟩ : ∃ y_ : List (List Int), y_ = (x7_1 ++ [t218]) := ⟨_, rfl⟩
                  replace H : (wrackkeep3_NearMerges.l0 k1 a1 a2 y221 y213 (y213.length : Int) (wrap64 (x23_1 + 1))) = some r := by first | (rw [hy221]; with_reducible exact H) | (have H2_ := (Option.bind_some _ _).symm.trans H; rw [hy221]; with_reducible exact H2_) | (have H2_ := (Option.bind_some _ _).symm.trans H; with_reducible exact H2_) | with_reducible exact H | (rw [hy221]; exact H) | exact H
                  have Ny221 := Aside0.mk hy221
                  clear hy221
                  have H' := Aside0.mk H
                  clear H
                  have p217 : 0 ≤ (x23_1 : Int) := of_decide_eq_true (by first | (with_reducible assumption) | assumption)
                  have q217 : x23_1 < (y213.length : Int) := of_decide_eq_true (by first | (with_reducible assumption) | assumption)
                  obtain ⟨ad217, A217_0, c217_0, e217, hx217_0, hl217_0, hi217_0⟩ := at_L6 HR216.out x23_1 p217 q217
                  cases e217
                  replace hx217_0 := (HB.out.cell (World.block_lt_of_cell? w _ hx217_0)).trans hx217_0
                  have HR217_0 := Aside0.mk hi217_0
                  have HC217_0 := Aside0.mk hl217_0
                  clear hi217_0 hl217_0
                  replace p217 := eq_true p217
                  replace q217 := eq_true q217
                  go_wp2_with (first | ((with_reducible refine gate_callee (f := 4) rfl ?_); refine goesL_ (some 29) rfl rfl Try.func4 (by kernel_rfl) rfl #[.slice A217_0 (rd_L6 y213 x23_1).length c217_0, .int .i64 20] rfl (by (try simp only [List.map_toArray, List.map_cons, List.map_nil]); first | done | rfl | (simp only [List.length_drop, List.length_take]; rfl)) ?_; (with_reducible refine (wrackkeep3_letters.calls k1 _ _ (rd_L6 y213 x23_1) 20 t218 _ ?side1 ?side2 A11.out).mono ?_); (case side1 => repeat (first | exact (Kd.C_below HR217_0.out HB.out) | (with_reducible refine Kd.C_alloc ?_ _) | (with_reducible refine Kd.C_drewN ?_ _) | (with_reducible refine Kd.C_drew ?_))); (case side2 => exact HC217_0.out); rintro e w13 ⟨v219, rfl, ho0, hb⟩; refine ⟨_, rfl, ?_⟩; have n0_ := Aside0.mk (Kd.S_elder' (by (with_reducible repeat (first | apply Kd.S_alloc | apply Kd.S_drewN | apply Kd.S_drew)); exact HO_7.out) (Kd.R_base ho0) hb); have n1_ := Aside0.mk (Kd.R_lower ho0 (below_size (by repeat (first | (with_reducible first | exact HB.out | apply below_alloc | apply pw_below_drewN | apply below_drew1) | exact HB.out)))); have n2_ := Aside0.mk (below_step (by repeat (first | (with_reducible first | exact HB.out | apply below_alloc | apply pw_below_drewN | apply below_drew1) | exact HB.out)) hb); clear HO_7; clear HB; have HO_7 := n0_; have HO220 := n1_; have HB := n2_; clear n0_ n1_ n2_; (try clear hb); (try clear hb2); (try clear hk); (try clear hi); (try clear ho0); obtain ⟨Ao15, co15, eo15⟩ := Kd.R_slice HO220.out; subst eo15) | ((with_reducible refine gate_builtin (b := .append) (xs := #[.tmp 27, .tmp 30]) rfl ?_); (try (refine gate_guard (by rfl) ?_; dsimp only)); at_builtin; refine Kd.S_append (Kd.slice 5 (Kd.int .u8)) (w0 := w) w.heap.size rfl (.tmp 27) (.tmp 30) 23 25 (.slice none 0 0) 24 rfl Try.underlying23 info25 rfl (by decide) (by omega) u7 x7_1 t218 [.slice Ao15 t218.length co15] (fun _ => True) (fun k_ => some k_ = (.slice Ao15 t218.length co15 : Value).ownBlock) rfl rfl ?aP (fun k_ hk_ => ((Kd.R_mono (ok' := fun k_ => ((fun _ => True)) k_ ∧ some k_ ≠ (u7 : Value).ownBlock) (Kd.R_apart' (HO220.out) (Kd.S_typed HO_7.out) (by decide)) (fun k_ hk => ⟨trivial, hk.2⟩))).1 k_ hk_.symm) ?aF ?aO ?aB ?aS ?aL ?_; (case aP => exact Kd.M_row (Kd.R_mono (Kd.R_tight rfl (Kd.R_mono (ok' := fun k_ => ((fun _ => True)) k_ ∧ some k_ ≠ (u7 : Value).ownBlock) (Kd.R_apart' (HO220.out) (Kd.S_typed HO_7.out) (by decide)) (fun k_ hk => ⟨trivial, hk.2⟩))) (fun _ h_ => h_))); (case aB => exact (by repeat (first | (with_reducible first | exact HB.out | apply below_alloc | apply pw_below_drewN | apply below_drew1) | exact HB.out))); (case aF => exact (fun _ _ => trivial)); (case aO => exact (by (with_reducible repeat (first | apply Kd.S_alloc | apply Kd.S_drewN | apply Kd.S_drew)); exact Kd.S_mono HO_7.out (fun k_ hk => ⟨trivial, fun e_ => hk.2 e_⟩))); (case aS => exact (below_size (by repeat (first | (with_reducible first | exact HB.out | apply below_alloc | apply pw_below_drewN | apply below_drew1) | exact HB.out)))); (case aL => have := LMc12.out; omega); intro v222 w14 ho hb hg hat; rw [← Ny221.out] at ho; have n0_ := Aside0.mk (hb); have n1_ := Aside0.mk (ho); clear HB; clear HO_7; clear HO220; have HB := n0_; have HO223 := n1_; clear n0_ n1_; clear ho hb hg hat))
                  go_roundg k1
                  case measure => have := HK1.out; omega
                  case rel => exact ⟨(y221), (wrap64 (x23_1 + 1)), (by first | rfl | (simp; done) | (simp [*]; done)), H', ⟨by have := HK1.out; omega⟩, ⟨by (with_reducible repeat (first | apply Kd.S_alloc | apply Kd.S_drewN | apply Kd.S_drew)); exact HO223.out⟩, ⟨by repeat (first | (with_reducible first | exact HB.out | apply below_alloc | apply pw_below_drewN | apply below_drew1) | exact HB.out)⟩⟩
                · rw [if_neg c12] at H
                  exact absurd H (by simp)
              · rw [if_neg c10] at H
                exact absurd H (by simp)
            · rw [if_neg c9] at H
              exact absurd H (by simp)
          · rw [if_neg c8] at H
            have c8b0 : decide (x23_1 < (y213.length : Int)) = false := decide_eq_false c8
            clear c8
            replace H := Option.bind_eq_some_iff.mp H
            obtain ⟨t224, A160, H⟩ := H
            replace H : ((near_Groups.f k1 x7_1 t224 10).bind fun bt225 => ((wrackmake_Below.f a2 5).bind fun t229 => ((near_Groups.f k1 x7_1 (mn 10 (wrap64 (t224 + t229))) 10).bind fun bt230 => ((wrackkeep3_shingled.f k1).bind fun t234 => (if t234 = true then (if bt225.2 = 0 then (wrackkeep3_NearMerges.j1 k1 x7_1 bt225.1 bt230.1 (bt230.2 != 0)) else (wrackkeep3_NearMerges.j1 k1 x7_1 bt225.1 bt230.1 true)) else (wrackkeep3_NearMerges.j1 k1 x7_1 bt225.1 bt230.1 true)))))) = some r := H
            have A16 := Aside0.mk A160
            clear A160
            replace H := Option.bind_eq_some_iff.mp H
            obtain ⟨⟨t225, t226⟩, A170, H⟩ := H
            replace H : ((wrackmake_Below.f a2 5).bind fun t229 => ((near_Groups.f k1 x7_1 (mn 10 (wrap64 (t224 + t229))) 10).bind fun bt230 => ((wrackkeep3_shingled.f k1).bind fun t234 => (if t234 = true then (if t226 = 0 then (wrackkeep3_NearMerges.j1 k1 x7_1 t225 bt230.1 (bt230.2 != 0)) else (wrackkeep3_NearMerges.j1 k1 x7_1 t225 bt230.1 true)) else (wrackkeep3_NearMerges.j1 k1 x7_1 t225 bt230.1 true))))) = some r := H
            have A17 := Aside0.mk A170
            clear A170
            replace H := Option.bind_eq_some_iff.mp H
            obtain ⟨t229, A180, H⟩ := H
            replace H : ((near_Groups.f k1 x7_1 (mn 10 (wrap64 (t224 + t229))) 10).bind fun bt230 => ((wrackkeep3_shingled.f k1).bind fun t234 => (if t234 = true then (if t226 = 0 then (wrackkeep3_NearMerges.j1 k1 x7_1 t225 bt230.1 (bt230.2 != 0)) else (wrackkeep3_NearMerges.j1 k1 x7_1 t225 bt230.1 true)) else (wrackkeep3_NearMerges.j1 k1 x7_1 t225 bt230.1 true)))) = some r := H
            have A18 := Aside0.mk A180
            clear A180
            obtain ⟨ji19, hji19⟩ : ∃ j_ : Int, (mn 10 (wrap64 (t224 + t229))) = j_ := ⟨_, rfl⟩
            replace H : ((near_Groups.f k1 x7_1 (ji19) 10).bind fun bt230 => ((wrackkeep3_shingled.f k1).bind fun t234 => (if t234 = true then (if t226 = 0 then (wrackkeep3_NearMerges.j1 k1 x7_1 t225 bt230.1 (bt230.2 != 0)) else (wrackkeep3_NearMerges.j1 k1 x7_1 t225 bt230.1 true)) else (wrackkeep3_NearMerges.j1 k1 x7_1 t225 bt230.1 true)))) = some r := by first | (rw [hji19] at H; exact H) | (simp only [hji19] at H ⊢; exact H)
            (try rw [hji19] at A16)
            (try rw [hji19] at A17)
            (try rw [hji19] at A18)
            (try (have hji19h : ji19 ≤ 10 := by (rw [← hji19]; unfold mn; (repeat' split) <;> omega)))
            (try (have hji19g : ji19 ≤ 64 := by omega))
            have hji19_ : (if (wrap64 (t224 + t229)) < 10 then (wrap64 (t224 + t229)) else 10) = ji19 := hji19
            replace H := Option.bind_eq_some_iff.mp H
            obtain ⟨⟨t230, t231⟩, A200, H⟩ := H
            replace H : ((wrackkeep3_shingled.f k1).bind fun t234 => (if t234 = true then (if t226 = 0 then (wrackkeep3_NearMerges.j1 k1 x7_1 t225 t230 (t231 != 0)) else (wrackkeep3_NearMerges.j1 k1 x7_1 t225 t230 true)) else (wrackkeep3_NearMerges.j1 k1 x7_1 t225 t230 true))) = some r := H
            have A20 := Aside0.mk A200
            clear A200
            have HC21 := Aside0.mk H
            clear H
            go_upto_region 10 with (first | ((with_reducible refine gate_callee (f := 5) rfl ?_); refine goesL_ (some 34) rfl rfl Try.func5 (by kernel_rfl) rfl #[.int .i64 a1, .int .i64 11] rfl (by (try simp only [List.map_toArray, List.map_cons, List.map_nil]); first | done | rfl | (simp only [List.length_drop, List.length_take]; rfl)) ?_; (with_reducible refine (wrackmake_Below.calls a1 11 t224 _ A16.out).mono ?_); rintro e w' ⟨rfl, ⟨nd, rfl⟩⟩; refine ⟨_, rfl, ?_⟩; obtain ⟨Ao22, co22, eo22⟩ := Kd.S_slice HO_7.out; subst eo22) | ((with_reducible refine gate_callee (f := 6) rfl ?_); refine goesL_ (some 38) rfl rfl Try.func6 (by kernel_rfl) rfl #[.slice Ao22 x7_1.length co22, .int .i64 t224, .int .i64 10] rfl (by (try simp only [List.map_toArray, List.map_cons, List.map_nil]); first | done | rfl | (simp only [List.length_drop, List.length_take]; rfl)) ?_; (with_reducible refine (near_Groups.calls k1 _ _ x7_1 t224 10 t225 t226 _ ?side1 ?side2 A17.out).mono ?_); (case side1 => repeat (first | exact (Kd.S_reads' HO_7.out).2.2 | (with_reducible refine Kd.C_alloc ?_ _) | (with_reducible refine Kd.C_drewN ?_ _) | (with_reducible refine Kd.C_drew ?_))); (case side2 => exact (Kd.S_reads' HO_7.out).2.1); rintro e w23 ⟨v227, rfl, ho0, hb⟩; refine ⟨_, rfl, ?_⟩; have n0_ := Aside0.mk (Kd.S_below (by (with_reducible repeat (first | apply Kd.S_alloc | apply Kd.S_drewN | apply Kd.S_drew)); exact HO_7.out) hb); have n1_ := Aside0.mk (Kd.S_lower ho0 (below_size (by repeat (first | (with_reducible first | exact HB.out | apply below_alloc | apply pw_below_drewN | apply below_drew1) | exact HB.out)))); have n2_ := Aside0.mk (below_step (by repeat (first | (with_reducible first | exact HB.out | apply below_alloc | apply pw_below_drewN | apply below_drew1) | exact HB.out)) hb); clear HO_7; clear HB; have HO_7 := n0_; have HO228 := n1_; have HB := n2_; clear n0_ n1_ n2_; (try clear hb); (try clear hb2); (try clear hk); (try clear hi); (try clear ho0)) | ((with_reducible refine gate_callee (f := 5) rfl ?_); refine goesL_ (some 45) rfl rfl Try.func5 (by kernel_rfl) rfl #[.int .i64 a2, .int .i64 5] rfl (by (try simp only [List.map_toArray, List.map_cons, List.map_nil]); first | done | rfl | (simp only [List.length_drop, List.length_take]; rfl)) ?_; (with_reducible refine (wrackmake_Below.calls a2 5 t229 _ A18.out).mono ?_); rintro e w' ⟨rfl, ⟨nd, rfl⟩⟩; refine ⟨_, rfl, ?_⟩) | ((with_reducible refine gate_callee (f := 6) rfl ?_); refine goesL_ (some 48) rfl rfl Try.func6 (by kernel_rfl) rfl #[.slice Ao22 x7_1.length co22, .int .i64 ji19, .int .i64 10] rfl (by (try simp only [List.map_toArray, List.map_cons, List.map_nil]); first | done | (simp only [hji19]; rfl) | rfl | (simp only [List.length_drop, List.length_take]; rfl)) ?_; (with_reducible refine (near_Groups.calls k1 _ _ x7_1 ji19 10 t230 t231 _ ?side1 ?side2 A20.out).mono ?_); (case side1 => repeat (first | exact (Kd.S_reads' HO_7.out).2.2 | (with_reducible refine Kd.C_alloc ?_ _) | (with_reducible refine Kd.C_drewN ?_ _) | (with_reducible refine Kd.C_drew ?_))); (case side2 => exact (Kd.S_reads' HO_7.out).2.1); rintro e w24 ⟨v232, rfl, ho0, hb⟩; refine ⟨_, rfl, ?_⟩; have n0_ := Aside0.mk (Kd.S_below (by (with_reducible repeat (first | apply Kd.S_alloc | apply Kd.S_drewN | apply Kd.S_drew)); exact HO_7.out) hb); have n1_ := Aside0.mk (Kd.S_elder' (by (with_reducible repeat (first | apply Kd.S_alloc | apply Kd.S_drewN | apply Kd.S_drew)); exact HO228.out) (Kd.S_base ho0) hb); have n2_ := Aside0.mk (Kd.S_lower (Kd.S_new' ho0 (Kd.S_lt (by (with_reducible repeat (first | apply Kd.S_alloc | apply Kd.S_drewN | apply Kd.S_drew)); exact HO228.out))) (below_size (by repeat (first | (with_reducible first | exact HB.out | apply below_alloc | apply pw_below_drewN | apply below_drew1) | exact HB.out)))); have n3_ := Aside0.mk (below_step (by repeat (first | (with_reducible first | exact HB.out | apply below_alloc | apply pw_below_drewN | apply below_drew1) | exact HB.out)) hb); clear HO_7; clear HO228; clear HB; have HO_7 := n0_; have HO228 := n1_; have HO233 := n2_; have HB := n3_; clear n0_ n1_ n2_ n3_; (try clear hb); (try clear hb2); (try clear hk); (try clear hi); (try clear ho0)))
            (try simp only [Act.put, List.setIfInBounds_toArray, List.set_cons_zero, List.set_cons_succ])
            go_cut [60] (fun v60 wc => ∃ (kq : Nat) (x60_20 : Bool), v60 = .bool x60_20 ∧ Aside0 (wrackkeep3_NearMerges.j1 kq x7_1 t225 t230 x60_20 = some r) ∧ Aside0 (kq ≤ k1) ∧ Aside0 (Kd.S (Kd.slice 5 (Kd.int .u8)) 25 wc w.heap.size (fun _ => True) (.slice Ao22 x7_1.length co22) x7_1) ∧ Aside0 (Kd.S (Kd.slice 3 (Kd.int .i64)) 24 wc w.heap.size (fun k_ => some k_ ≠ (v232 : Value).ownBlock) v227 t225) ∧ Aside0 (Kd.S (Kd.slice 3 (Kd.int .i64)) 24 wc w.heap.size (fun k_ => some k_ ≠ (v227 : Value).ownBlock) v232 t230) ∧ Aside0 (Below w.heap.size w wc))
            case first =>
              have H := HC21.out
              clear HC21
              replace H := Option.bind_eq_some_iff.mp H
              obtain ⟨t234, A250, H⟩ := H
              replace H : (if t234 = true then (if t226 = 0 then (wrackkeep3_NearMerges.j1 k1 x7_1 t225 t230 (t231 != 0)) else (wrackkeep3_NearMerges.j1 k1 x7_1 t225 t230 true)) else (wrackkeep3_NearMerges.j1 k1 x7_1 t225 t230 true)) = some r := H
              have A25 := Aside0.mk A250
              clear A250
              by_cases c26 : t234 = true
              · subst c26
                have H1 : (if t226 = 0 then (wrackkeep3_NearMerges.j1 k1 x7_1 t225 t230 (t231 != 0)) else (wrackkeep3_NearMerges.j1 k1 x7_1 t225 t230 true)) = some r := by rw [if_pos rfl] at H; exact H
                clear H
                have H := H1
                clear H1
                by_cases c27 : t226 = 0
                · rw [if_pos c27] at H
                  have c27b0 : (t226 == 0) = true := beq_iff_eq.mpr c27
                  have c27b1 : (t226 != 0) = false := bne_eq_false_iff_eq.mpr c27
                  clear c27
                  (first | rw [c27b0] | (simp only [i64_w, i32_w]; rw [c27b0]) | skip)
                  have H' := Aside0.mk H
                  clear H
                  go_wp2_with (first | ((with_reducible refine gate_callee (f := 7) rfl ?_); refine goesL_ (some 51) rfl rfl Try.func7 (by kernel_rfl) rfl #[] rfl (by (try simp only [List.map_toArray, List.map_cons, List.map_nil]); first | done | rfl | (simp only [List.length_drop, List.length_take]; rfl)) ?_; (with_reducible refine (wrackkeep3_shingled.calls k1  true _ A25.out).mono ?_); rintro e w28 ⟨rfl, hb⟩; refine ⟨_, rfl, ?_⟩; have n0_ := Aside0.mk (Kd.S_below (by (with_reducible repeat (first | apply Kd.S_alloc | apply Kd.S_drewN | apply Kd.S_drew)); exact HO_7.out) hb); have n1_ := Aside0.mk (Kd.S_below (by (with_reducible repeat (first | apply Kd.S_alloc | apply Kd.S_drewN | apply Kd.S_drew)); exact HO228.out) hb); have n2_ := Aside0.mk (Kd.S_below (by (with_reducible repeat (first | apply Kd.S_alloc | apply Kd.S_drewN | apply Kd.S_drew)); exact HO233.out) hb); have n3_ := Aside0.mk (below_step (by repeat (first | (with_reducible first | exact HB.out | apply below_alloc | apply pw_below_drewN | apply below_drew1) | exact HB.out)) hb); clear HO_7; clear HO228; clear HO233; clear HB; have HO_7 := n0_; have HO228 := n1_; have HO233 := n2_; have HB := n3_; clear n0_ n1_ n2_ n3_; (try clear hb); (try clear hb2); (try clear hk); (try clear hi)))
                  go_meet
                  case rel => exact ⟨_, ((t231 != 0)), (by first | rfl | (simp; done) | (simp [*]; done)), H', ⟨by have := HK1.out; first | omega | exact Nat.le_refl _⟩, ⟨by (with_reducible repeat (first | apply Kd.S_alloc | apply Kd.S_drewN | apply Kd.S_drew)); exact HO_7.out⟩, ⟨by (with_reducible repeat (first | apply Kd.S_alloc | apply Kd.S_drewN | apply Kd.S_drew)); exact Kd.S_mono HO228.out (fun _ hk => hk.2)⟩, ⟨by (with_reducible repeat (first | apply Kd.S_alloc | apply Kd.S_drewN | apply Kd.S_drew)); exact Kd.S_mono HO233.out (fun _ hk => hk.2)⟩, ⟨by repeat (first | (with_reducible first | exact HB.out | apply below_alloc | apply pw_below_drewN | apply below_drew1) | exact HB.out)⟩⟩
                · rw [if_neg c27] at H
                  have c27b0 : (t226 == 0) = false := beq_eq_false_iff_ne.mpr c27
                  have c27b1 : (t226 != 0) = true := bne_iff_ne.mpr c27
                  (first | rw [c27b0] | (simp only [i64_w, i32_w]; rw [c27b0]) | skip)
                  have H' := Aside0.mk H
                  clear H
                  go_wp2_with (first | ((with_reducible refine gate_callee (f := 7) rfl ?_); refine goesL_ (some 51) rfl rfl Try.func7 (by kernel_rfl) rfl #[] rfl (by (try simp only [List.map_toArray, List.map_cons, List.map_nil]); first | done | rfl | (simp only [List.length_drop, List.length_take]; rfl)) ?_; (with_reducible refine (wrackkeep3_shingled.calls k1  true _ A25.out).mono ?_); rintro e w29 ⟨rfl, hb⟩; refine ⟨_, rfl, ?_⟩; have n0_ := Aside0.mk (Kd.S_below (by (with_reducible repeat (first | apply Kd.S_alloc | apply Kd.S_drewN | apply Kd.S_drew)); exact HO_7.out) hb); have n1_ := Aside0.mk (Kd.S_below (by (with_reducible repeat (first | apply Kd.S_alloc | apply Kd.S_drewN | apply Kd.S_drew)); exact HO228.out) hb); have n2_ := Aside0.mk (Kd.S_below (by (with_reducible repeat (first | apply Kd.S_alloc | apply Kd.S_drewN | apply Kd.S_drew)); exact HO233.out) hb); have n3_ := Aside0.mk (below_step (by repeat (first | (with_reducible first | exact HB.out | apply below_alloc | apply pw_below_drewN | apply below_drew1) | exact HB.out)) hb); clear HO_7; clear HO228; clear HO233; clear HB; have HO_7 := n0_; have HO228 := n1_; have HO233 := n2_; have HB := n3_; clear n0_ n1_ n2_ n3_; (try clear hb); (try clear hb2); (try clear hk); (try clear hi)))
                  go_meet
                  case rel => exact ⟨_, (true), (by first | rfl | (simp; done) | (simp [*]; done)), H', ⟨by have := HK1.out; first | omega | exact Nat.le_refl _⟩, ⟨by (with_reducible repeat (first | apply Kd.S_alloc | apply Kd.S_drewN | apply Kd.S_drew)); exact HO_7.out⟩, ⟨by (with_reducible repeat (first | apply Kd.S_alloc | apply Kd.S_drewN | apply Kd.S_drew)); exact Kd.S_mono HO228.out (fun _ hk => hk.2)⟩, ⟨by (with_reducible repeat (first | apply Kd.S_alloc | apply Kd.S_drewN | apply Kd.S_drew)); exact Kd.S_mono HO233.out (fun _ hk => hk.2)⟩, ⟨by repeat (first | (with_reducible first | exact HB.out | apply below_alloc | apply pw_below_drewN | apply below_drew1) | exact HB.out)⟩⟩
              · replace c26 := Bool.eq_false_iff.mpr c26
                subst c26
                have H1 : (wrackkeep3_NearMerges.j1 k1 x7_1 t225 t230 true) = some r := by rw [if_neg (show ¬ (false = true) by decide)] at H; exact H
                clear H
                have H := H1
                clear H1
                have H' := Aside0.mk H
                clear H
                go_wp2_with (first | ((with_reducible refine gate_callee (f := 7) rfl ?_); refine goesL_ (some 51) rfl rfl Try.func7 (by kernel_rfl) rfl #[] rfl (by (try simp only [List.map_toArray, List.map_cons, List.map_nil]); first | done | rfl | (simp only [List.length_drop, List.length_take]; rfl)) ?_; (with_reducible refine (wrackkeep3_shingled.calls k1  false _ A25.out).mono ?_); rintro e w30 ⟨rfl, hb⟩; refine ⟨_, rfl, ?_⟩; have n0_ := Aside0.mk (Kd.S_below (by (with_reducible repeat (first | apply Kd.S_alloc | apply Kd.S_drewN | apply Kd.S_drew)); exact HO_7.out) hb); have n1_ := Aside0.mk (Kd.S_below (by (with_reducible repeat (first | apply Kd.S_alloc | apply Kd.S_drewN | apply Kd.S_drew)); exact HO228.out) hb); have n2_ := Aside0.mk (Kd.S_below (by (with_reducible repeat (first | apply Kd.S_alloc | apply Kd.S_drewN | apply Kd.S_drew)); exact HO233.out) hb); have n3_ := Aside0.mk (below_step (by repeat (first | (with_reducible first | exact HB.out | apply below_alloc | apply pw_below_drewN | apply below_drew1) | exact HB.out)) hb); clear HO_7; clear HO228; clear HO233; clear HB; have HO_7 := n0_; have HO228 := n1_; have HO233 := n2_; have HB := n3_; clear n0_ n1_ n2_ n3_; (try clear hb); (try clear hb2); (try clear hk); (try clear hi)))
                go_meet
                case rel => exact ⟨_, (true), (by first | rfl | (simp; done) | (simp [*]; done)), H', ⟨by have := HK1.out; first | omega | exact Nat.le_refl _⟩, ⟨by (with_reducible repeat (first | apply Kd.S_alloc | apply Kd.S_drewN | apply Kd.S_drew)); exact HO_7.out⟩, ⟨by (with_reducible repeat (first | apply Kd.S_alloc | apply Kd.S_drewN | apply Kd.S_drew)); exact Kd.S_mono HO228.out (fun _ hk => hk.2)⟩, ⟨by (with_reducible repeat (first | apply Kd.S_alloc | apply Kd.S_drewN | apply Kd.S_drew)); exact Kd.S_mono HO233.out (fun _ hk => hk.2)⟩, ⟨by repeat (first | (with_reducible first | exact HB.out | apply below_alloc | apply pw_below_drewN | apply below_drew1) | exact HB.out)⟩⟩
            case rest =>
              clear HC21
              try clear c1
              try clear c2
              try clear p2
              try clear q2
              try clear hx2
              try clear c3
              try clear p3
              try clear c4
              try clear c5
              try clear c5b0
              try clear c5b1
              try clear c6
              try clear c6b0
              try clear c6b1
              try clear p6
              try clear c7
              try clear q7
              try clear c8
              try clear c8b0
              try clear c9
              try clear c9b0
              try clear c10
              try clear c10b0
              try clear c12
              try clear c21
              try clear p21
              try clear q21
              try clear hx21
              try clear c26
              try clear c27
              try clear c27b0
              try clear c27b1
              try clear hx217_0
              try clear p2
              try clear p217
              try clear p3
              try clear q217
              try clear q7
              obtain ⟨kq, x60_20, rfl, HA, HJ20, HO_7, HO_10, HO_12, HB⟩ := hcut
              cases kq with
              | zero => exact absurd HA.out (by simp [wrackkeep3_NearMerges.j1])
              | succ kj20 =>
                have H := HA.out
                clear HA
                simp only [wrackkeep3_NearMerges.j1] at H
                by_cases c31 : x60_20 = true
                · subst c31
                  have H1 : (some false) = some r := by rw [if_pos rfl] at H; exact H
                  clear H
                  have H := H1
                  clear H1
                  exact absurd ((Option.some.inj H).trans hr_.out) (by decide)
                · replace c31 := Bool.eq_false_iff.mpr c31
                  subst c31
                  have H1 : ((slices_Concat_int_int.f kj20 t230).bind fun t235 => ((slices_Sort_int_int.f t235).bind fun t238 => (if (t235.length : Int) = (x7_1.length : Int) then ((slices_Compact_int_int.f t238).bind fun t239 => (wrackkeep3_NearMerges.j2 kj20 t225 t230 ((t239.length : Int) != (x7_1.length : Int)))) else (wrackkeep3_NearMerges.j2 kj20 t225 t230 true)))) = some r := by rw [if_neg (show ¬ (false = true) by decide)] at H; exact H
                  clear H
                  have H := H1
                  clear H1
                  replace H := Option.bind_eq_some_iff.mp H
                  obtain ⟨t235, A320, H⟩ := H
                  replace H : ((slices_Sort_int_int.f t235).bind fun t238 => (if (t235.length : Int) = (x7_1.length : Int) then ((slices_Compact_int_int.f t238).bind fun t239 => (wrackkeep3_NearMerges.j2 kj20 t225 t230 ((t239.length : Int) != (x7_1.length : Int)))) else (wrackkeep3_NearMerges.j2 kj20 t225 t230 true))) = some r := H
                  have A32 := Aside0.mk A320
                  clear A320
                  replace H := Option.bind_eq_some_iff.mp H
                  obtain ⟨t238, A330, H⟩ := H
                  replace H : (if (t235.length : Int) = (x7_1.length : Int) then ((slices_Compact_int_int.f t238).bind fun t239 => (wrackkeep3_NearMerges.j2 kj20 t225 t230 ((t239.length : Int) != (x7_1.length : Int)))) else (wrackkeep3_NearMerges.j2 kj20 t225 t230 true)) = some r := H
                  have A33 := Aside0.mk A330
                  clear A330
                  have HC34 := Aside0.mk H
                  clear H
                  obtain ⟨Ao35, co35, eo35⟩ := Kd.S_slice HO_12.out
                  subst eo35
                  go_upto_region 14 with (first | ((with_reducible refine gate_callee (f := 8) rfl ?_); refine goesL_ (some 62) rfl rfl Try.func8 (by kernel_rfl) rfl #[.slice Ao35 t230.length co35] rfl (by (try simp only [List.map_toArray, List.map_cons, List.map_nil]); first | done | rfl | (simp only [List.length_drop, List.length_take]; rfl)) ?_; (with_reducible refine (slices_Concat_int_int.calls kj20 _ _ t230 t235 _ ?side1 ?side2 A32.out).mono ?_); (case side1 => repeat (first | exact (Kd.S_reads' HO_12.out).2.2 | (with_reducible refine Kd.C_alloc ?_ _) | (with_reducible refine Kd.C_drewN ?_ _) | (with_reducible refine Kd.C_drew ?_))); (case side2 => exact (Kd.S_reads' HO_12.out).2.1); rintro e w36 ⟨v236, rfl, ho0, hb⟩; refine ⟨_, rfl, ?_⟩; have n0_ := Aside0.mk (Kd.S_below (by (with_reducible repeat (first | apply Kd.S_alloc | apply Kd.S_drewN | apply Kd.S_drew)); exact HO_7.out) hb); have n1_ := Aside0.mk (Kd.S_elder' (by (with_reducible repeat (first | apply Kd.S_alloc | apply Kd.S_drewN | apply Kd.S_drew)); exact HO_10.out) (Kd.R_base ho0) hb); have n2_ := Aside0.mk (Kd.S_elder' (by (with_reducible repeat (first | apply Kd.S_alloc | apply Kd.S_drewN | apply Kd.S_drew)); exact HO_12.out) (Kd.R_base ho0) hb); have n3_ := Aside0.mk (Kd.R_lower ho0 (below_size (by repeat (first | (with_reducible first | exact HB.out | apply below_alloc | apply pw_below_drewN | apply below_drew1) | exact HB.out)))); have n4_ := Aside0.mk (below_step (by repeat (first | (with_reducible first | exact HB.out | apply below_alloc | apply pw_below_drewN | apply below_drew1) | exact HB.out)) hb); clear HO_7; clear HO_10; clear HO_12; clear HB; have HO_7 := n0_; have HO_10 := n1_; have HO_12 := n2_; have HO237 := n3_; have HB := n4_; clear n0_ n1_ n2_ n3_ n4_; (try clear hb); (try clear hb2); (try clear hk); (try clear hi); (try clear ho0); obtain ⟨Ao37, co37, eo37⟩ := Kd.R_slice HO237.out; subst eo37) | ((with_reducible refine gate_callee (f := 9) rfl ?_); refine goesL_ (some 64) rfl rfl Try.func9 (by kernel_rfl) rfl #[.slice Ao37 t235.length co37] rfl (by (try simp only [List.map_toArray, List.map_cons, List.map_nil]); first | done | rfl | (simp only [List.length_drop, List.length_take]; rfl)) ?_; (with_reducible refine (slices_Sort_int_int.calls (fun k_ => some k_ = (.slice Ao37 t235.length co37 : Value).ownBlock) (.slice Ao37 t235.length co37) t235 t238 w _ ?side1 ?side2 A33.out).mono ?_); (case side1 => repeat (first | (with_reducible first | exact HB.out | apply below_alloc | apply pw_below_drewN | apply below_drew1) | exact HB.out)); (case side2 => exact Kd.R_tight rfl HO237.out); rintro e w38 ⟨rfl, hy0, hb, hkp⟩; refine ⟨_, rfl, ?_⟩; have n0_ := Aside0.mk (Kd.S_mono (ok' := fun k_ => True) (Kd.S_keptB ((Kd.S_apart' HO_7.out (Kd.R_typed HO237.out) (by decide))) hkp (fun k_ hk_ hs_ => (hk_.2) hs_)) (fun k_ hk_ => trivial)); have n1_ := Aside0.mk (Kd.S_mono (ok' := fun k_ => some k_ ≠ (.slice Ao35 t230.length co35 : Value).ownBlock ∧ some k_ ≠ (.slice Ao37 t235.length co37 : Value).ownBlock) (Kd.S_keptB (HO_10.out) hkp (fun k_ hk_ hs_ => (hk_.2) hs_)) (fun k_ hk_ => ⟨hk_.1.1, hk_.1.2⟩)); have n2_ := Aside0.mk (Kd.S_mono (ok' := fun k_ => some k_ ≠ (v227 : Value).ownBlock ∧ some k_ ≠ (.slice Ao37 t235.length co37 : Value).ownBlock) (Kd.S_keptB (HO_12.out) hkp (fun k_ hk_ hs_ => (hk_.2) hs_)) (fun k_ hk_ => ⟨hk_.1.1, hk_.1.2⟩)); have n3_ := Aside0.mk (Kd.R_reok rfl hy0 (fun k_ e_ => HO237.out.1 k_ e_)); have n4_ := Aside0.mk (hb); clear HO_7; clear HO_10; clear HO_12; clear HO237; clear HB; have HO_7 := n0_; have HO_10 := n1_; have HO_12 := n2_; have HO237 := n3_; have HB := n4_; clear n0_ n1_ n2_ n3_ n4_; (try clear hb); (try clear hkp); (try clear hy0)))
                  (try simp only [Act.put, List.setIfInBounds_toArray, List.set_cons_zero, List.set_cons_succ])
                  go_cut [77] (fun v77 wc => ∃ (kq : Nat) (x77_33 : Bool), v77 = .bool x77_33 ∧ Aside0 (wrackkeep3_NearMerges.j2 kq t225 t230 x77_33 = some r) ∧ Aside0 (kq ≤ kj20) ∧ Aside0 (Kd.S (Kd.slice 3 (Kd.int .i64)) 24 wc w.heap.size (fun k_ => some k_ ≠ ((.slice Ao35 t230.length co35) : Value).ownBlock) v227 t225) ∧ Aside0 (Kd.S (Kd.slice 3 (Kd.int .i64)) 24 wc w.heap.size (fun k_ => some k_ ≠ (v227 : Value).ownBlock) (.slice Ao35 t230.length co35) t230) ∧ Aside0 (Below w.heap.size w wc))
                  case first =>
                    have H := HC34.out
                    clear HC34
                    by_cases c39 : (t235.length : Int) = (x7_1.length : Int)
                    · rw [if_pos c39] at H
                      have c39b0 : ((t235.length : Int) == (x7_1.length : Int)) = true := beq_iff_eq.mpr c39
                      have c39b1 : ((t235.length : Int) != (x7_1.length : Int)) = false := bne_eq_false_iff_eq.mpr c39
                      have c39b2 : (t235.length == x7_1.length) = true := by first | simpa using c39 | (simp at c39 ⊢; omega)
                      clear c39
                      (first | rw [c39b0] | (simp only [i64_w, i32_w]; rw [c39b0]) | skip)
                      replace H := Option.bind_eq_some_iff.mp H
                      obtain ⟨t239, A400, H⟩ := H
                      replace H : (wrackkeep3_NearMerges.j2 kj20 t225 t230 ((t239.length : Int) != (x7_1.length : Int))) = some r := H
                      have A40 := Aside0.mk A400
                      clear A400
                      have H' := Aside0.mk H
                      clear H
                      go_wp2_with (first | (go_at_call 10; (with_reducible refine (slices_Compact_int_int.calls (fun k_ => some k_ = (.slice Ao37 t235.length co37 : Value).ownBlock) (.slice Ao37 t235.length co37) t238 t239 w _ ?side1 ?side2 A40.out).mono ?_); (case side1 => repeat (first | (with_reducible first | exact HB.out | apply below_alloc | apply pw_below_drewN | apply below_drew1) | exact HB.out)); (case side2 => exact Kd.R_tight rfl HO237.out); rintro e w41 ⟨v240, rfl, ho0, hb, hkp⟩; have n0_ := Aside0.mk (Kd.S_mono (ok' := fun k_ => True) (Kd.S_keptB ((Kd.S_apart' HO_7.out (Kd.R_typed HO237.out) (by decide))) hkp (fun k_ hk_ hs_ => (hk_.2) hs_)) (fun k_ hk_ => trivial)); have n1_ := Aside0.mk (Kd.S_mono (ok' := fun k_ => some k_ ≠ (.slice Ao35 t230.length co35 : Value).ownBlock ∧ some k_ ≠ (v240 : Value).ownBlock) (Kd.S_keptB (HO_10.out) hkp (fun k_ hk_ hs_ => (hk_.2) hs_)) (fun k_ hk_ => ⟨hk_.1.1, fun e_ => Or.elim (ho0.1 k_ e_.symm) (fun hs_ => hk_.2.1 hs_) (fun hn_ => Nat.not_le.2 hk_.2.2 hn_)⟩)); have n2_ := Aside0.mk (Kd.S_mono (ok' := fun k_ => some k_ ≠ (v227 : Value).ownBlock ∧ some k_ ≠ (v240 : Value).ownBlock) (Kd.S_keptB (HO_12.out) hkp (fun k_ hk_ hs_ => (hk_.2) hs_)) (fun k_ hk_ => ⟨hk_.1.1, fun e_ => Or.elim (ho0.1 k_ e_.symm) (fun hs_ => hk_.2.1 hs_) (fun hn_ => Nat.not_le.2 hk_.2.2 hn_)⟩)); have n3_ := Aside0.mk (Kd.R_mono (ok' := fun k_ => True) ho0 (fun k_ hk_ => trivial)); have n4_ := Aside0.mk (hb); clear HO_7; clear HO_10; clear HO_12; clear HB; clear HO237; have HO_7 := n0_; have HO_10 := n1_; have HO_12 := n2_; have HO241 := n3_; have HB := n4_; clear n0_ n1_ n2_ n3_ n4_; (try clear hb); (try clear hkp); (try clear ho0); obtain ⟨Ao42, co42, eo42⟩ := Kd.R_slice HO241.out; subst eo42))
                      go_meet
                      case rel => exact ⟨_, (((t239.length : Int) != (x7_1.length : Int))), (by first | rfl | (simp; done) | (simp [*]; done)), H', ⟨by have := HK1.out; have := HJ20.out; first | omega | exact Nat.le_refl _⟩, ⟨by (with_reducible repeat (first | apply Kd.S_alloc | apply Kd.S_drewN | apply Kd.S_drew)); exact Kd.S_mono HO_10.out (fun _ hk => hk.1)⟩, ⟨by (with_reducible repeat (first | apply Kd.S_alloc | apply Kd.S_drewN | apply Kd.S_drew)); exact Kd.S_mono HO_12.out (fun _ hk => hk.1)⟩, ⟨by repeat (first | (with_reducible first | exact HB.out | apply below_alloc | apply pw_below_drewN | apply below_drew1) | exact HB.out)⟩⟩
                    · rw [if_neg c39] at H
                      have c39b0 : ((t235.length : Int) == (x7_1.length : Int)) = false := beq_eq_false_iff_ne.mpr c39
                      have c39b1 : ((t235.length : Int) != (x7_1.length : Int)) = true := bne_iff_ne.mpr c39
                      have c39b2 : (t235.length == x7_1.length) = false := by first | simpa using c39 | (simp at c39 ⊢; omega)
                      (first | rw [c39b0] | (simp only [i64_w, i32_w]; rw [c39b0]) | skip)
                      have H' := Aside0.mk H
                      clear H
                      go_wp2
                      go_meet
                      case rel => exact ⟨_, (true), (by first | rfl | (simp; done) | (simp [*]; done)), H', ⟨by have := HK1.out; have := HJ20.out; first | omega | exact Nat.le_refl _⟩, ⟨by (with_reducible repeat (first | apply Kd.S_alloc | apply Kd.S_drewN | apply Kd.S_drew)); exact Kd.S_mono HO_10.out (fun _ hk => hk.1)⟩, ⟨by (with_reducible repeat (first | apply Kd.S_alloc | apply Kd.S_drewN | apply Kd.S_drew)); exact Kd.S_mono HO_12.out (fun _ hk => hk.1)⟩, ⟨by repeat (first | (with_reducible first | exact HB.out | apply below_alloc | apply pw_below_drewN | apply below_drew1) | exact HB.out)⟩⟩
                  case rest =>
                    clear HC34
                    try clear c1
                    try clear c2
                    try clear p2
                    try clear q2
                    try clear hx2
                    try clear c3
                    try clear p3
                    try clear c4
                    try clear c5
                    try clear c5b0
                    try clear c5b1
                    try clear c6
                    try clear c6b0
                    try clear c6b1
                    try clear p6
                    try clear c7
                    try clear q7
                    try clear c8
                    try clear c8b0
                    try clear c9
                    try clear c9b0
                    try clear c10
                    try clear c10b0
                    try clear c12
                    try clear c21
                    try clear p21
                    try clear q21
                    try clear hx21
                    try clear c26
                    try clear c27
                    try clear c27b0
                    try clear c27b1
                    try clear c31
                    try clear c39
                    try clear c39b0
                    try clear c39b1
                    try clear c39b2
                    try clear hx217_0
                    try clear p2
                    try clear p21
                    try clear p217
                    try clear p3
                    try clear p6
                    try clear q2
                    try clear q21
                    try clear q217
                    try clear q7
                    obtain ⟨kq, x77_33, rfl, HA, HJ33, HO_10, HO_12, HB⟩ := hcut
                    cases kq with
                    | zero => exact absurd HA.out (by simp [wrackkeep3_NearMerges.j2])
                    | succ kj33 =>
                      have H := HA.out
                      clear HA
                      simp only [wrackkeep3_NearMerges.j2] at H
                      by_cases c43 : x77_33 = true
                      · subst c43
                        have H1 : (some false) = some r := by rw [if_pos rfl] at H; exact H
                        clear H
                        have H := H1
                        clear H1
                        exact absurd ((Option.some.inj H).trans hr_.out) (by decide)
                      · replace c43 := Bool.eq_false_iff.mpr c43
                        subst c43
                        have H1 : (wrackkeep3_NearMerges.l1 kj33 t225 t230 t230 (t230.length : Int) 0) = some r := by rw [if_neg (show ¬ (false = true) by decide)] at H; exact H
                        clear H
                        have H := H1
                        clear H1
                        have H' := Aside0.mk H
                        clear H
                        go_wp2
                        go_loopg [80] kj33 (fun kq v80 w' => ∃ (x80_4 : Int), v80 = .int .i64 x80_4 ∧ Aside0 (wrackkeep3_NearMerges.l1 kq t225 t230 t230 (t230.length : Int) x80_4 = some r) ∧ Aside0 (kq ≤ kj33) ∧ Aside0 (Kd.S (Kd.slice 3 (Kd.int .i64)) 24 w' w.heap.size (fun k_ => some k_ ≠ ((.slice Ao35 t230.length co35) : Value).ownBlock ∧ some k_ ≠ ((.slice Ao35 t230.length co35) : Value).ownBlock) v227 t225) ∧ Aside0 (Kd.S (Kd.slice 3 (Kd.int .i64)) 24 w' w.heap.size (fun k_ => some k_ ≠ (v227 : Value).ownBlock) (.slice Ao35 t230.length co35) t230) ∧ Aside0 (Kd.S (Kd.slice 3 (Kd.int .i64)) 24 w' w.heap.size (fun k_ => some k_ ≠ (v227 : Value).ownBlock) (.slice Ao35 t230.length co35) t230) ∧ Aside0 (Below w.heap.size w w'))
                        case atStart => exact ⟨(0), (by first | rfl | (simp; done) | (simp [*]; done)), H', ⟨Nat.le_refl _⟩, ⟨by (with_reducible repeat (first | apply Kd.S_alloc | apply Kd.S_drewN | apply Kd.S_drew)); exact Kd.S_mono HO_10.out (fun _ hk => ⟨hk, hk⟩)⟩, ⟨by (with_reducible repeat (first | apply Kd.S_alloc | apply Kd.S_drewN | apply Kd.S_drew)); exact HO_12.out⟩, ⟨by (with_reducible repeat (first | apply Kd.S_alloc | apply Kd.S_drewN | apply Kd.S_drew)); exact HO_12.out⟩, ⟨by repeat (first | (with_reducible first | exact HB.out | apply below_alloc | apply pw_below_drewN | apply below_drew1) | exact HB.out)⟩⟩
                        case round =>
                          clear H'
                          try clear c1
                          try clear c2
                          try clear p2
                          try clear q2
                          try clear hx2
                          try clear c3
                          try clear p3
                          try clear c4
                          try clear c5
                          try clear c5b0
                          try clear c5b1
                          try clear c6
                          try clear c6b0
                          try clear c6b1
                          try clear p6
                          try clear c7
                          try clear q7
                          try clear c8
                          try clear c8b0
                          try clear c9
                          try clear c9b0
                          try clear c10
                          try clear c10b0
                          try clear c12
                          try clear c21
                          try clear p21
                          try clear q21
                          try clear hx21
                          try clear c26
                          try clear c27
                          try clear c27b0
                          try clear c27b1
                          try clear c31
                          try clear c39
                          try clear c39b0
                          try clear c39b1
                          try clear c39b2
                          try clear c43
                          try clear hx217_0
                          try clear p2
                          try clear p21
                          try clear p217
                          try clear p3
                          try clear p6
                          try clear q2
                          try clear q21
                          try clear q217
                          try clear q7
                          obtain ⟨x80_4, rfl, HA, HK4, HO_10, HO_12, HO_78, HB⟩ := hrel
                          cases gk with
                          | zero => exact absurd HA.out (by simp [wrackkeep3_NearMerges.l1])
                          | succ k4 =>
                            have H := HA.out
                            clear HA
                            simp only [wrackkeep3_NearMerges.l1] at H
                            by_cases c44 : x80_4 < (t230.length : Int)
                            · rw [if_pos c44] at H
                              have c44b0 : decide (x80_4 < (t230.length : Int)) = true := decide_eq_true c44
                              clear c44
                              by_cases c45 : 0 ≤ x80_4
                              · rw [if_pos c45] at H
                                have c45b0 : decide (0 ≤ x80_4) = true := decide_eq_true c45
                                clear c45
                                by_cases c46 : x80_4 < (t230.length : Int)
                                · rw [if_pos c46] at H
                                  have c46b0 : decide (x80_4 < (t230.length : Int)) = true := decide_eq_true c46
                                  clear c46
                                  replace H := Option.bind_eq_some_iff.mp H
                                  obtain ⟨t243, A470, H⟩ := H
                                  replace H : (if t243 = true then (wrackkeep3_NearMerges.l1 k4 t225 t230 t230 (t230.length : Int) (wrap64 (x80_4 + 1))) else (some false)) = some r := H
                                  have A47 := Aside0.mk A470
                                  clear A470
                                  by_cases c48 : t243 = true
                                  · subst c48
                                    have H1 : (wrackkeep3_NearMerges.l1 k4 t225 t230 t230 (t230.length : Int) (wrap64 (x80_4 + 1))) = some r := by rw [if_pos rfl] at H; exact H
                                    clear H
                                    have H := H1
                                    clear H1
                                    have H' := Aside0.mk H
                                    clear H
                                    have p242 : 0 ≤ (x80_4 : Int) := of_decide_eq_true (by first | (with_reducible assumption) | assumption)
                                    have q242 : x80_4 < (t230.length : Int) := of_decide_eq_true (by first | (with_reducible assumption) | assumption)
                                    obtain ⟨ad242, A242_0, c242_0, e242, hx242_0, hl242_0, hi242_0⟩ := at_L6 (Kd.S_reads' HO_78.out).2.2 x80_4 p242 q242
                                    cases e242
                                    obtain ⟨ce242, hce242, hMe242, hcc242⟩ := Kd.S_get HO_78.out [] x80_4 p242 (by first | exact q242 | exact of_decide_eq_true (by first | (with_reducible assumption) | assumption) | (have e_ := (Kd.S_reads' HO_78.out).1; omega))
                                    obtain ⟨ve242_0, rfl, ge242_0⟩ := hMe242
                                    have hv242_0 := hcc242 0 _ rfl
                                    rw [Nat.add_zero, show ((Kd.slice 3 (Kd.int .i64))).sz = 1 from rfl, Nat.mul_one] at hv242_0
                                    replace hv242_0 := Option.some.inj (hv242_0.symm.trans hx242_0)
                                    rw [hv242_0] at ge242_0
                                    have HL242_0 := Aside0.mk (show Kd.R (Kd.int .i64) 3 _ _ _ _ (rd_L6 t230 x80_4) from ge242_0)
                                    clear hv242_0 ge242_0
                                    clear hcc242 hce242
                                    have HR242_0 := Aside0.mk hi242_0
                                    have HC242_0 := Aside0.mk hl242_0
                                    clear hi242_0 hl242_0
                                    replace p242 := eq_true p242
                                    replace q242 := eq_true q242
                                    obtain ⟨Ao49, co49, eo49⟩ := Kd.S_slice HO_10.out
                                    subst eo49
                                    go_upto_region 19 with (fail)
                                    obtain ⟨W9, hW9⟩ : ∃ W, W = wr.alloc (.cells #[.slice A242_0 (rd_L6 t230 x80_4).length c242_0] 24) := ⟨_, rfl⟩
                                    rw [← hW9]
                                    have b9 : Below wr.heap.size wr W9 := by rw [hW9]; exact below_alloc (Below.refl _ _) _
                                    have x9 : W9.cell? ⟨wr.heap.size, 0, none⟩ = some (.slice A242_0 (rd_L6 t230 x80_4).length c242_0) := by rw [hW9]; exact (blk_cell (blk_new wr (.cells #[.slice A242_0 (rd_L6 t230 x80_4).length c242_0] 24)) 0).trans rfl
                                    clear hW9
                                    replace HO_10 := Aside0.mk (Kd.S_below HO_10.out b9)
                                    replace HO_12 := Aside0.mk (Kd.S_below HO_12.out b9)
                                    replace HO_78 := Aside0.mk (Kd.S_below HO_78.out b9)
                                    replace HL242_0 := Aside0.mk (Kd.R_below HL242_0.out b9)
                                    replace HR242_0 := Aside0.mk (Kd.C_below HR242_0.out b9)
                                    replace HB := Aside0.mk (below_step HB.out b9)
                                    go_wp2_with (go_at_call 11; refine (slices_ContainsFunc_int_int.calls _ _ t225 _ _ _ (rd_L6 t230 x80_4) true _ (Kd.S_reads' HO_10.out).2.2 x9 HR242_0.out A47.out).mono ?_; rintro e w50 ⟨rfl, hb⟩; have n0_ := Aside0.mk (Kd.S_below (by (with_reducible repeat (first | apply Kd.S_alloc | apply Kd.S_drewN | apply Kd.S_drew)); exact HO_10.out) hb); have n1_ := Aside0.mk (Kd.S_below (by (with_reducible repeat (first | apply Kd.S_alloc | apply Kd.S_drewN | apply Kd.S_drew)); exact HO_12.out) hb); have n2_ := Aside0.mk (Kd.S_below (by (with_reducible repeat (first | apply Kd.S_alloc | apply Kd.S_drewN | apply Kd.S_drew)); exact HO_78.out) hb); have n3_ := Aside0.mk (Kd.R_below (by (with_reducible repeat (first | apply Kd.R_alloc | apply Kd.R_drewN | apply Kd.R_drew)); exact HL242_0.out) hb); have n4_ := Aside0.mk (Kd.C_below (by repeat (first | (with_reducible exact HR242_0.out) | (with_reducible refine Kd.C_alloc ?_ _) | (with_reducible refine Kd.C_drewN ?_ _) | (with_reducible refine Kd.C_drew ?_) | exact HR242_0.out)) hb); have n5_ := Aside0.mk (below_step (by repeat (first | (with_reducible first | exact HB.out | apply below_alloc | apply pw_below_drewN | apply below_drew1) | exact HB.out)) hb); clear HO_10; clear HO_12; clear HO_78; clear HL242_0; clear HR242_0; clear HB; have HO_10 := n0_; have HO_12 := n1_; have HO_78 := n2_; have HL242_0 := n3_; have HR242_0 := n4_; have HB := n5_; clear n0_ n1_ n2_ n3_ n4_ n5_; (try clear hb); (try clear hb2); (try clear hk); (try clear hi))
                                    go_roundg k4
                                    case measure => have := HK1.out; have := HJ20.out; have := HJ33.out; have := HK4.out; omega
                                    case rel => exact ⟨(wrap64 (x80_4 + 1)), (by first | rfl | (simp; done) | (simp [*]; done)), H', ⟨by have := HK1.out; have := HJ20.out; have := HJ33.out; have := HK4.out; omega⟩, ⟨by (with_reducible repeat (first | apply Kd.S_alloc | apply Kd.S_drewN | apply Kd.S_drew)); exact HO_10.out⟩, ⟨by (with_reducible repeat (first | apply Kd.S_alloc | apply Kd.S_drewN | apply Kd.S_drew)); exact HO_12.out⟩, ⟨by (with_reducible repeat (first | apply Kd.S_alloc | apply Kd.S_drewN | apply Kd.S_drew)); exact HO_78.out⟩, ⟨by repeat (first | (with_reducible first | exact HB.out | apply below_alloc | apply pw_below_drewN | apply below_drew1) | exact HB.out)⟩⟩
                                  · replace c48 := Bool.eq_false_iff.mpr c48
                                    subst c48
                                    have H1 : (some false) = some r := by rw [if_neg (show ¬ (false = true) by decide)] at H; exact H
                                    clear H
                                    have H := H1
                                    clear H1
                                    exact absurd ((Option.some.inj H).trans hr_.out) (by decide)
                                · rw [if_neg c46] at H
                                  exact absurd H (by simp)
                              · rw [if_neg c45] at H
                                exact absurd H (by simp)
                            · rw [if_neg c44] at H
                              have c44b0 : decide (x80_4 < (t230.length : Int)) = false := decide_eq_false c44
                              clear c44
                              obtain rfl := Option.some.inj H
                              obtain ⟨Ao51, co51, eo51⟩ := Kd.S_slice HO_10.out
                              subst eo51
                              go_wp2
                              go_ret
                              exact ⟨by first | rfl | (simp [errW_none, errW_some] <;> rfl) | (simp only [← hji4, ← hji19]; first | rfl | (simp [errW_none, errW_some] <;> rfl)) | (simp [*, errW_none, errW_some] <;> rfl), by repeat (first | (with_reducible first | exact HB.out | apply below_alloc | apply pw_below_drewN | apply below_drew1) | exact HB.out)⟩
    · rw [if_neg c6] at H
      exact absurd H (by simp)
  · rw [if_neg c5] at H
    exact absurd H (by simp)

end Go.Proofs.Ytcgflahchpeakaa.PNearMerges
