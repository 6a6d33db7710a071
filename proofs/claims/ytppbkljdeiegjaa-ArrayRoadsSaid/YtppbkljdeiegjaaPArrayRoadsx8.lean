-- written by prn.py, a program of this session, over the kit's printer
import Derived.Test.YtppbkljdeiegjaaPArrayRoadsx0
import Derived.Test.YtppbkljdeiegjaaPArrayRoadsx1
import Derived.Test.YtppbkljdeiegjaaPArrayRoadsx3
import Derived.Test.YtppbkljdeiegjaaPArrayRoadsx7
import Derived.Test.YtppbkljdeiegjaaPArrayRoadsx10
namespace Go.Proofs.Ytppbkljdeiegjaa.PArrayRoads
open Go.RowKit Go.Proofs.YtppbkljdeiegjaaW.PrintWords Go.Proofs.YtppbkljdeiegjaaW.PrintLast Go.Proofs.YtppbkljdeiegjaaW.PrintMore Go.Proofs.YtppbkljdeiegjaaW.PrintMine
attribute [local go_sem] max2_int min2_int max_two min_two max_three min_three max_four min_four   -- for this text's walks alone
set_option linter.unusedVariables false
set_option linter.unusedSimpArgs false

attribute [local go_sem high] eqA42
/-! ### wrackkeep1_spans: function 9 -/
def wrackkeep1_spans.f (k : Nat)  : Option (Bool) := (span_Norm.f k (([(⟨5, 3⟩ : S42), (⟨0, 5⟩ : S42)] : List (S42)))).bind fun t182 => (if (t182.length : Int) = 1 then (if 0 < (t182.length : Int) then (some (((rd_T42 t182 0).f0) == 0 && (((rd_T42 t182 0).f1) == 8))) else (none)) else (some false))
theorem wrackkeep1_spans.mono : ∀ k, LeO (wrackkeep1_spans.f k ) (wrackkeep1_spans.f (k + 1) ) := by
  intro  k
  unfold wrackkeep1_spans.f
  repeat' first
      | (with_reducible exact span_Norm.mono _ _)
      | (with_reducible exact LeO.refl _)
      | (with_reducible exact LeO.none _)
      | (with_reducible refine LeO.ite ?_ ?_)
      | (with_reducible refine LeO.bind ?_ (fun _ => ?_))
      | exact span_Norm.mono _ _
      | exact LeO.none _
      | refine LeO.ite ?_ ?_
      | refine LeO.bind ?_ (fun _ => ?_)
set_option maxHeartbeats 8000000 in
set_option maxRecDepth 100000 in
theorem wrackkeep1_spans.calls (k : Nat)  (r : Bool) (w : World) (h : wrackkeep1_spans.f k  = some r) :
    Calls Try.prog 9 #[] w fun e w' => e = .returned (.bool r) ∧ Below w.heap.size w w' := by
  have hu42 := Try.underlying42
  have HB := Aside0.mk (Below.refl w.heap.size w)
  have H : ((span_Norm.f k (([(⟨5, 3⟩ : S42), (⟨0, 5⟩ : S42)] : List (S42)))).bind fun t182 => (if (t182.length : Int) = 1 then (if 0 < (t182.length : Int) then (some (((rd_T42 t182 0).f0) == 0 && (((rd_T42 t182 0).f1) == 8))) else (none)) else (some false))) = some r := h
  clear h
  obtain ⟨y179, hy179⟩ : ∃ y_ : List (S42), y_ = (([(⟨5, 3⟩ : S42), (⟨0, 5⟩ : S42)] : List (S42))) := ⟨_, rfl⟩
  replace H : ((span_Norm.f k y179).bind fun t182 => (if (t182.length : Int) = 1 then (if 0 < (t182.length : Int) then (some (((rd_T42 t182 0).f0) == 0 && (((rd_T42 t182 0).f1) == 8))) else (none)) else (some false))) = some r := by first | (rw [hy179]; with_reducible exact H) | (have H2_ := (Option.bind_some _ _).symm.trans H; rw [hy179]; with_reducible exact H2_) | (have H2_ := (Option.bind_some _ _).symm.trans H; with_reducible exact H2_) | with_reducible exact H | (rw [hy179]; exact H) | exact H
  have Ny179 := Aside0.mk hy179
  clear hy179
  replace H := Option.bind_eq_some_iff.mp H
  obtain ⟨t182, A10, H⟩ := H
  replace H : (if (t182.length : Int) = 1 then (if 0 < (t182.length : Int) then (some (((rd_T42 t182 0).f0) == 0 && (((rd_T42 t182 0).f1) == 8))) else (none)) else (some false)) = some r := H
  have A1 := Aside0.mk A10
  clear A10
  by_cases c2 : (t182.length : Int) = 1
  · rw [if_pos c2] at H
    have c2b0 : ((t182.length : Int) == 1) = true := beq_iff_eq.mpr c2
    have c2b1 : ((t182.length : Int) != 1) = false := bne_eq_false_iff_eq.mpr c2
    clear c2
    by_cases c3 : 0 < (t182.length : Int)
    · rw [if_pos c3] at H
      have c3b0 : decide (0 < (t182.length : Int)) = true := decide_eq_true c3
      have c3b1 : decide (0 < t182.length) = true := decide_eq_true (by omega)
      clear c3
      obtain rfl := Option.some.inj H
      go_enter Try.func9, Try.ntmps9
      go_wp2_with (first | ((with_reducible refine gate_dst (N := 4) rfl ?_); refine Kd.R_lit k42 _ 42 ?hg (N := 4) ?hd (xs := ([(⟨5, 3⟩ : S42), (⟨0, 5⟩ : S42)] : List (S42))) (inner := [.int .i64 5, .int .i64 3, .int .i64 0, .int .i64 5]) (ok := fun _ => True) (okp := fun _ => True) ?hr ?hp (fun _ hk => hk) trivial (Below.refl _ _) (Nat.le_refl _) (by simp) ?_; (case hd => rfl); (case hg => rfl); (case hr => first | (go_simp; done) | (go_simp; rfl)); (case hp => exact (Reps.c2 (show Kd.M k42 _ _ _ (⟨5, 3⟩ : S42) [.int .i64 5, .int .i64 3] from (k42_mkM _ _ _ (⟨5, 3⟩ : S42) )) (Reps.c2 (show Kd.M k42 _ _ _ (⟨0, 5⟩ : S42) [.int .i64 0, .int .i64 5] from (k42_mkM _ _ _ (⟨0, 5⟩ : S42) )) (Reps.none _ _)))); intro v180 w4 ho5 hb hg_ hnew_; clear hg_ hnew_; (first | rw [← Ny179.out] at ho5 | (simp only [Int.reduceToNat] at ho5; rw [← Ny179.out] at ho5)); have n0_ := Aside0.mk (Kd.R_lower ho5 (below_size (by repeat (first | (with_reducible first | exact HB.out | apply below_alloc | apply pw_below_drewN | apply below_drew1) | exact HB.out)))); have n1_ := Aside0.mk (below_step (by repeat (first | (with_reducible first | exact HB.out | apply below_alloc | apply pw_below_drewN | apply below_drew1) | exact HB.out)) hb); clear HB; have HO181 := n0_; have HB := n1_; clear n0_ n1_; clear hb ho5; obtain ⟨Ao6, co6, eo6⟩ := Kd.R_slice HO181.out; subst eo6) | ((with_reducible refine gate_callee (f := 26) rfl ?_); refine goesL_ (some 5) rfl rfl Try.func26 (by kernel_rfl) rfl #[.slice Ao6 y179.length co6] rfl (by (try simp only [List.map_toArray, List.map_cons, List.map_nil]); first | done | rfl | (simp only [List.length_drop, List.length_take]; rfl)) ?_; (with_reducible refine (span_Norm.calls k _ _ y179 t182 _ ?side1 ?side2 A1.out).mono ?_); (case side1 => repeat (first | exact (Kd.R_reads' HO181.out).2.2 | (with_reducible refine Kd.C_alloc ?_ _) | (with_reducible refine Kd.C_drewN ?_ _) | (with_reducible refine Kd.C_drew ?_))); (case side2 => exact (Kd.R_reads' HO181.out).2.1); rintro e w7 ⟨v183, rfl, ho0, hb⟩; refine ⟨_, rfl, ?_⟩; have n0_ := Aside0.mk (Kd.R_elder' (by (with_reducible repeat (first | apply Kd.R_alloc | apply Kd.R_drewN | apply Kd.R_drew)); exact HO181.out) (Kd.R_base ho0) hb); have n1_ := Aside0.mk (Kd.R_lower (Kd.R_new' ho0 (Kd.R_lt (by (with_reducible repeat (first | apply Kd.R_alloc | apply Kd.R_drewN | apply Kd.R_drew)); exact HO181.out))) (below_size (by repeat (first | (with_reducible first | exact HB.out | apply below_alloc | apply pw_below_drewN | apply below_drew1) | exact HB.out)))); have n2_ := Aside0.mk (below_step (by repeat (first | (with_reducible first | exact HB.out | apply below_alloc | apply pw_below_drewN | apply below_drew1) | exact HB.out)) hb); clear HO181; clear HB; have HO181 := n0_; have HO184 := n1_; have HB := n2_; clear n0_ n1_ n2_; (try clear hb); (try clear hb2); (try clear hk); (try clear hi); (try clear ho0); obtain ⟨Ao8, co8, eo8⟩ := Kd.R_slice HO184.out; subst eo8; have p185 : 0 ≤ (0 : Int) := (by omega); have q185 : 0 < (t182.length : Int) := of_decide_eq_true (by first | (with_reducible assumption) | assumption); obtain ⟨ad185, e185, hx185_0, hx185_1⟩ := at_T42 (Kd.R_reads' HO184.out).2.2 0 p185 q185; cases e185; have qi185 : (0 < t182.length) = True := eq_true (by omega); (try rw [show ((0 : Int)).toNat = 0 from rfl] at hx185_0); (try rw [show 0 * 2 = 0 from rfl] at hx185_0); (try rw [Addr.add_zero'] at hx185_0); (try rw [show ((0 : Int)).toNat = 0 from rfl] at hx185_1); (try rw [show 0 * 2 = 0 from rfl] at hx185_1); (try rw [Addr.add_zero'] at hx185_1); replace p185 := eq_true p185; replace q185 := eq_true q185))
      go_ret
      exact ⟨by first | rfl | (simp [errW_none, errW_some] <;> rfl) | (simp [*, errW_none, errW_some] <;> rfl), by repeat (first | (with_reducible first | exact HB.out | apply below_alloc | apply pw_below_drewN | apply below_drew1) | exact HB.out)⟩
    · rw [if_neg c3] at H
      exact absurd H (by simp)
  · rw [if_neg c2] at H
    have c2b0 : ((t182.length : Int) == 1) = false := beq_eq_false_iff_ne.mpr c2
    have c2b1 : ((t182.length : Int) != 1) = true := bne_iff_ne.mpr c2
    obtain rfl := Option.some.inj H
    go_enter Try.func9, Try.ntmps9
    go_wp2_with (first | ((with_reducible refine gate_dst (N := 4) rfl ?_); refine Kd.R_lit k42 _ 42 ?hg (N := 4) ?hd (xs := ([(⟨5, 3⟩ : S42), (⟨0, 5⟩ : S42)] : List (S42))) (inner := [.int .i64 5, .int .i64 3, .int .i64 0, .int .i64 5]) (ok := fun _ => True) (okp := fun _ => True) ?hr ?hp (fun _ hk => hk) trivial (Below.refl _ _) (Nat.le_refl _) (by simp) ?_; (case hd => rfl); (case hg => rfl); (case hr => first | (go_simp; done) | (go_simp; rfl)); (case hp => exact (Reps.c2 (show Kd.M k42 _ _ _ (⟨5, 3⟩ : S42) [.int .i64 5, .int .i64 3] from (k42_mkM _ _ _ (⟨5, 3⟩ : S42) )) (Reps.c2 (show Kd.M k42 _ _ _ (⟨0, 5⟩ : S42) [.int .i64 0, .int .i64 5] from (k42_mkM _ _ _ (⟨0, 5⟩ : S42) )) (Reps.none _ _)))); intro v180 w9 ho10 hb hg_ hnew_; clear hg_ hnew_; (first | rw [← Ny179.out] at ho10 | (simp only [Int.reduceToNat] at ho10; rw [← Ny179.out] at ho10)); have n0_ := Aside0.mk (Kd.R_lower ho10 (below_size (by repeat (first | (with_reducible first | exact HB.out | apply below_alloc | apply pw_below_drewN | apply below_drew1) | exact HB.out)))); have n1_ := Aside0.mk (below_step (by repeat (first | (with_reducible first | exact HB.out | apply below_alloc | apply pw_below_drewN | apply below_drew1) | exact HB.out)) hb); clear HB; have HO181 := n0_; have HB := n1_; clear n0_ n1_; clear hb ho10; obtain ⟨Ao11, co11, eo11⟩ := Kd.R_slice HO181.out; subst eo11) | ((with_reducible refine gate_callee (f := 26) rfl ?_); refine goesL_ (some 5) rfl rfl Try.func26 (by kernel_rfl) rfl #[.slice Ao11 y179.length co11] rfl (by (try simp only [List.map_toArray, List.map_cons, List.map_nil]); first | done | rfl | (simp only [List.length_drop, List.length_take]; rfl)) ?_; (with_reducible refine (span_Norm.calls k _ _ y179 t182 _ ?side1 ?side2 A1.out).mono ?_); (case side1 => repeat (first | exact (Kd.R_reads' HO181.out).2.2 | (with_reducible refine Kd.C_alloc ?_ _) | (with_reducible refine Kd.C_drewN ?_ _) | (with_reducible refine Kd.C_drew ?_))); (case side2 => exact (Kd.R_reads' HO181.out).2.1); rintro e w12 ⟨v183, rfl, ho0, hb⟩; refine ⟨_, rfl, ?_⟩; have n0_ := Aside0.mk (Kd.R_elder' (by (with_reducible repeat (first | apply Kd.R_alloc | apply Kd.R_drewN | apply Kd.R_drew)); exact HO181.out) (Kd.R_base ho0) hb); have n1_ := Aside0.mk (Kd.R_lower (Kd.R_new' ho0 (Kd.R_lt (by (with_reducible repeat (first | apply Kd.R_alloc | apply Kd.R_drewN | apply Kd.R_drew)); exact HO181.out))) (below_size (by repeat (first | (with_reducible first | exact HB.out | apply below_alloc | apply pw_below_drewN | apply below_drew1) | exact HB.out)))); have n2_ := Aside0.mk (below_step (by repeat (first | (with_reducible first | exact HB.out | apply below_alloc | apply pw_below_drewN | apply below_drew1) | exact HB.out)) hb); clear HO181; clear HB; have HO181 := n0_; have HO184 := n1_; have HB := n2_; clear n0_ n1_ n2_; (try clear hb); (try clear hb2); (try clear hk); (try clear hi); (try clear ho0); obtain ⟨Ao13, co13, eo13⟩ := Kd.R_slice HO184.out; subst eo13))
    go_ret
    exact ⟨by first | rfl | (simp [errW_none, errW_some] <;> rfl) | (simp [*, errW_none, errW_some] <;> rfl), by repeat (first | (with_reducible first | exact HB.out | apply below_alloc | apply pw_below_drewN | apply below_drew1) | exact HB.out)⟩

/-! ### array_missing: function 27 -/
def array_missing.l0 : Nat → List Int → Int → List (List Int) → Int → Int → Option (List Int × Int × Bool)
  | 0, _, _, _, _, _ => none
  | k + 1, x5, x6, x9, x10, x11 => if x11 < x10 then (if 0 ≤ x11 then (if x11 < (x9.length : Int) then (if ((rd_L3 x9 x11).length : Int) = 0 then (if x5.length < 17592186044416 then (array_missing.l0 k (x5 ++ [x11]) x6 x9 x10 (wrap64 (x11 + 1))) else (none)) else (if x6 = 0 then (array_missing.l0 k x5 ((rd_L3 x9 x11).length : Int) x9 x10 (wrap64 (x11 + 1))) else (if ((rd_L3 x9 x11).length : Int) = x6 then (array_missing.l0 k x5 x6 x9 x10 (wrap64 (x11 + 1))) else (some (([] : List Int), 0, false))))) else (none)) else (none)) else (some (x5, x6, true))
def array_missing.f (k : Nat) (l0 : List (List Int)) : Option (List Int × Int × Bool) := array_missing.l0 k ([] : List Int) 0 l0 (l0.length : Int) 0
theorem array_missing.mono_l : ∀ k, (∀ y0 y1 y2 y3 y4, LeO (array_missing.l0 k y0 y1 y2 y3 y4) (array_missing.l0 (k + 1) y0 y1 y2 y3 y4))
  | 0 => fun _ _ _ _ _ r h => by simp [array_missing.l0] at h
  | k + 1 => by
    have ih0 := array_missing.mono_l k
    · intro y0 y1 y2 y3 y4
      unfold array_missing.l0
      repeat' first
      | (with_reducible exact ih0 _ _ _ _ _)
      | (with_reducible exact LeO.refl _)
      | (with_reducible exact LeO.none _)
      | (with_reducible refine LeO.ite ?_ ?_)
      | (with_reducible refine LeO.bind ?_ (fun _ => ?_))
      | exact ih0 _ _ _ _ _
      | exact LeO.none _
      | refine LeO.ite ?_ ?_
      | refine LeO.bind ?_ (fun _ => ?_)
theorem array_missing.mono : ∀ a0 k, LeO (array_missing.f k a0) (array_missing.f (k + 1) a0) := by
  intro a0 k
  have ih0 := array_missing.mono_l k
  unfold array_missing.f
  repeat' first
      | (with_reducible exact ih0 _ _ _ _ _)
      | (with_reducible exact LeO.refl _)
      | (with_reducible exact LeO.none _)
      | (with_reducible refine LeO.ite ?_ ?_)
      | (with_reducible refine LeO.bind ?_ (fun _ => ?_))
      | exact ih0 _ _ _ _ _
      | exact LeO.none _
      | refine LeO.ite ?_ ?_
      | refine LeO.bind ?_ (fun _ => ?_)
set_option maxHeartbeats 8000000 in
set_option maxRecDepth 100000 in
theorem array_missing.calls (k : Nat) (A0 : Option Addr) (c0 : Nat) (l0 : List (List Int)) (r1 : List Int) (r2 : Int) (r3 : Bool) (w : World) (hr0 : Kd.C (Kd.slice 5 (Kd.int .u8)) w A0 l0.length l0) (hc0 : l0.length ≤ c0) (h : array_missing.f k l0 = some (r1, r2, r3)) :
    Calls Try.prog 27 #[.slice A0 l0.length c0] w fun e w' => ∃ v0_ : Value, e = .returned (.tuple #[v0_, .int .i64 r2, .bool r3]) ∧ Kd.R (Kd.int .i64) 3 w' w.heap.size (fun _ => True) v0_ r1 ∧ Below w.heap.size w w' := by
  have HR0 := Aside0.mk hr0
  have HC0 := Aside0.mk hc0
  clear hr0 hc0
  have HB := Aside0.mk (Below.refl w.heap.size w)
  have H : (array_missing.l0 k ([] : List Int) 0 l0 (l0.length : Int) 0) = some (r1, r2, r3) := h
  clear h
  have H' := Aside0.mk H
  clear H
  go_enter Try.func27, Try.ntmps27
  go_wp2
  go_loopg [5, 6, 11] k (fun kq v5 v6 v11 w' => ∃ (x5_1 : List Int) (x6_1 : Int) (x11_1 : Int), v6 = .int .i64 x6_1 ∧ v11 = .int .i64 x11_1 ∧ Aside0 (array_missing.l0 kq x5_1 x6_1 l0 (l0.length : Int) x11_1 = some (r1, r2, r3)) ∧ Aside0 (kq ≤ k) ∧ Aside0 (Kd.R (Kd.int .i64) 3 w' w.heap.size (fun _ => True) v5 x5_1) ∧ Aside0 (Below w.heap.size w w'))
  case atStart => exact ⟨(([] : List Int)), (0), (0), (by first | rfl | (simp; done) | (simp [*]; done)), (by first | rfl | (simp; done) | (simp [*]; done)), H', ⟨Nat.le_refl _⟩, ⟨by first | exact Kd.R_nil _ _ _ _ _ | exact Kd.N_nil _ _ _ _ _ | exact Kd.V_nil _ _ _ _ _ | exact Kd.Q_nil _ _ _ _ _ | exact Kd.S_nil _ _ _ _ _⟩, ⟨by repeat (first | (with_reducible first | exact HB.out | apply below_alloc | apply pw_below_drewN | apply below_drew1) | exact HB.out)⟩⟩
  case round =>
    clear H'
    obtain ⟨x5_1, x6_1, x11_1, rfl, rfl, HA, HK1, HO_5, HB⟩ := hrel
    cases gk with
    | zero => exact absurd HA.out (by simp [array_missing.l0])
    | succ k1 =>
      have H := HA.out
      clear HA
      simp only [array_missing.l0] at H
      by_cases c2 : x11_1 < (l0.length : Int)
      · rw [if_pos c2] at H
        have c2b0 : decide (x11_1 < (l0.length : Int)) = true := decide_eq_true c2
        clear c2
        by_cases c3 : 0 ≤ x11_1
        · rw [if_pos c3] at H
          have c3b0 : decide (0 ≤ x11_1) = true := decide_eq_true c3
          clear c3
          by_cases c4 : x11_1 < (l0.length : Int)
          · rw [if_pos c4] at H
            have c4b0 : decide (x11_1 < (l0.length : Int)) = true := decide_eq_true c4
            clear c4
            by_cases c5 : ((rd_L3 l0 x11_1).length : Int) = 0
            · rw [if_pos c5] at H
              have c5b0 : (((rd_L3 l0 x11_1).length : Int) == 0) = true := beq_iff_eq.mpr c5
              have c5b1 : (((rd_L3 l0 x11_1).length : Int) != 0) = false := bne_eq_false_iff_eq.mpr c5
              clear c5
              by_cases c6 : x5_1.length < 17592186044416
              · rw [if_pos c6] at H
                have LMc6 := Aside0.mk c6
                clear c6
                obtain ⟨y187, hy187⟩ : ∃ y_ : List Int, y_ = (x5_1 ++ [x11_1]) := ⟨_, rfl⟩
                replace H : (array_missing.l0 k1 y187 x6_1 l0 (l0.length : Int) (wrap64 (x11_1 + 1))) = some (r1, r2, r3) := by first | (rw [hy187]; with_reducible exact H) | (have H2_ := (Option.bind_some _ _).symm.trans H; rw [hy187]; with_reducible exact H2_) | (have H2_ := (Option.bind_some _ _).symm.trans H; with_reducible exact H2_) | with_reducible exact H | (rw [hy187]; exact H) | exact H
                have Ny187 := Aside0.mk hy187
                clear hy187
                have H' := Aside0.mk H
                clear H
                have p186 : 0 ≤ (x11_1 : Int) := of_decide_eq_true (by first | (with_reducible assumption) | assumption)
                have q186 : x11_1 < (l0.length : Int) := of_decide_eq_true (by first | (with_reducible assumption) | assumption)
                obtain ⟨ad186, A186_0, c186_0, e186, hx186_0, hl186_0, hi186_0⟩ := at_L3 HR0.out x11_1 p186 q186
                cases e186
                replace hx186_0 := (HB.out.cell (World.block_lt_of_cell? w _ hx186_0)).trans hx186_0
                have HR186_0 := Aside0.mk hi186_0
                have HC186_0 := Aside0.mk hl186_0
                clear hi186_0 hl186_0
                replace p186 := eq_true p186
                replace q186 := eq_true q186
                go_wp2_with (first | ((with_reducible refine gate_builtin (b := .append) (xs := #[.tmp 20, .tmp 22]) rfl ?_); at_builtin; refine Kd.R_append (Kd.int .i64) (w0 := w) w.heap.size rfl (.tmp 20) (.tmp 22) 22 3 (.int .i64 0) 8 rfl Try.underlying22 info3 rfl (by decide) (by omega) u5 x5_1 x11_1 [.int .i64 x11_1] (fun _ => True) (fun _ => False) rfl rfl ?aP (fun _ hk => hk.elim) ?aF ?aO ?aB ?aS ?aL ?_; (case aP => exact rfl); (case aB => exact (by repeat (first | (with_reducible first | exact HB.out | apply below_alloc | apply pw_below_drewN | apply below_drew1) | exact HB.out))); (case aF => exact (fun _ _ => trivial)); (case aO => exact (by (with_reducible repeat (first | apply Kd.R_alloc | apply Kd.R_drewN | apply Kd.R_drew)); exact HO_5.out)); (case aS => exact (below_size (by repeat (first | (with_reducible first | exact HB.out | apply below_alloc | apply pw_below_drewN | apply below_drew1) | exact HB.out)))); (case aL => have := LMc6.out; omega); intro v188 w7 ho hb hg hat; rw [← Ny187.out] at ho; have n0_ := Aside0.mk (hb); have n1_ := Aside0.mk (ho); clear HB; clear HO_5; have HB := n0_; have HO189 := n1_; clear n0_ n1_; clear ho hb hg hat))
                go_roundg k1
                case measure => have := HK1.out; omega
                case rel => exact ⟨(y187), (x6_1), (wrap64 (x11_1 + 1)), (by first | rfl | (simp; done) | (simp [*]; done)), (by first | rfl | (simp; done) | (simp [*]; done)), H', ⟨by have := HK1.out; omega⟩, ⟨by (with_reducible repeat (first | apply Kd.R_alloc | apply Kd.R_drewN | apply Kd.R_drew)); exact HO189.out⟩, ⟨by repeat (first | (with_reducible first | exact HB.out | apply below_alloc | apply pw_below_drewN | apply below_drew1) | exact HB.out)⟩⟩
              · rw [if_neg c6] at H
                exact absurd H (by simp)
            · rw [if_neg c5] at H
              have c5b0 : (((rd_L3 l0 x11_1).length : Int) == 0) = false := beq_eq_false_iff_ne.mpr c5
              have c5b1 : (((rd_L3 l0 x11_1).length : Int) != 0) = true := bne_iff_ne.mpr c5
              have c5b2 : ¬ ((rd_L3 l0 x11_1) = []) := fun h_ => c5 (by rw [h_]; rfl)
              by_cases c8 : x6_1 = 0
              · rw [if_pos c8] at H
                have c8b0 : (x6_1 == 0) = true := beq_iff_eq.mpr c8
                have c8b1 : (x6_1 != 0) = false := bne_eq_false_iff_eq.mpr c8
                clear c8
                have H' := Aside0.mk H
                clear H
                have p186 : 0 ≤ (x11_1 : Int) := of_decide_eq_true (by first | (with_reducible assumption) | assumption)
                have q186 : x11_1 < (l0.length : Int) := of_decide_eq_true (by first | (with_reducible assumption) | assumption)
                obtain ⟨ad186, A186_0, c186_0, e186, hx186_0, hl186_0, hi186_0⟩ := at_L3 HR0.out x11_1 p186 q186
                cases e186
                replace hx186_0 := (HB.out.cell (World.block_lt_of_cell? w _ hx186_0)).trans hx186_0
                have HR186_0 := Aside0.mk hi186_0
                have HC186_0 := Aside0.mk hl186_0
                clear hi186_0 hl186_0
                replace p186 := eq_true p186
                replace q186 := eq_true q186
                go_wp2
                go_roundg k1
                case measure => have := HK1.out; omega
                case rel => exact ⟨(x5_1), (((rd_L3 l0 x11_1).length : Int)), (wrap64 (x11_1 + 1)), (by first | rfl | (simp; done) | (simp [*]; done)), (by first | rfl | (simp; done) | (simp [*]; done)), H', ⟨by have := HK1.out; omega⟩, ⟨by (with_reducible repeat (first | apply Kd.R_alloc | apply Kd.R_drewN | apply Kd.R_drew)); exact HO_5.out⟩, ⟨by repeat (first | (with_reducible first | exact HB.out | apply below_alloc | apply pw_below_drewN | apply below_drew1) | exact HB.out)⟩⟩
              · rw [if_neg c8] at H
                have c8b0 : (x6_1 == 0) = false := beq_eq_false_iff_ne.mpr c8
                have c8b1 : (x6_1 != 0) = true := bne_iff_ne.mpr c8
                by_cases c9 : ((rd_L3 l0 x11_1).length : Int) = x6_1
                · rw [if_pos c9] at H
                  have c9b0 : (((rd_L3 l0 x11_1).length : Int) == x6_1) = true := beq_iff_eq.mpr c9
                  have c9b1 : (((rd_L3 l0 x11_1).length : Int) != x6_1) = false := bne_eq_false_iff_eq.mpr c9
                  clear c9
                  have H' := Aside0.mk H
                  clear H
                  have p186 : 0 ≤ (x11_1 : Int) := of_decide_eq_true (by first | (with_reducible assumption) | assumption)
                  have q186 : x11_1 < (l0.length : Int) := of_decide_eq_true (by first | (with_reducible assumption) | assumption)
                  obtain ⟨ad186, A186_0, c186_0, e186, hx186_0, hl186_0, hi186_0⟩ := at_L3 HR0.out x11_1 p186 q186
                  cases e186
                  replace hx186_0 := (HB.out.cell (World.block_lt_of_cell? w _ hx186_0)).trans hx186_0
                  have HR186_0 := Aside0.mk hi186_0
                  have HC186_0 := Aside0.mk hl186_0
                  clear hi186_0 hl186_0
                  replace p186 := eq_true p186
                  replace q186 := eq_true q186
                  go_wp2
                  go_roundg k1
                  case measure => have := HK1.out; omega
                  case rel => exact ⟨(x5_1), (x6_1), (wrap64 (x11_1 + 1)), (by first | rfl | (simp; done) | (simp [*]; done)), (by first | rfl | (simp; done) | (simp [*]; done)), H', ⟨by have := HK1.out; omega⟩, ⟨by (with_reducible repeat (first | apply Kd.R_alloc | apply Kd.R_drewN | apply Kd.R_drew)); exact HO_5.out⟩, ⟨by repeat (first | (with_reducible first | exact HB.out | apply below_alloc | apply pw_below_drewN | apply below_drew1) | exact HB.out)⟩⟩
                · rw [if_neg c9] at H
                  have c9b0 : (((rd_L3 l0 x11_1).length : Int) == x6_1) = false := beq_eq_false_iff_ne.mpr c9
                  have c9b1 : (((rd_L3 l0 x11_1).length : Int) != x6_1) = true := bne_iff_ne.mpr c9
                  simp only [Option.some.injEq, Prod.mk.injEq] at H
                  obtain ⟨rfl, rfl, rfl⟩ := H
                  have p186 : 0 ≤ (x11_1 : Int) := of_decide_eq_true (by first | (with_reducible assumption) | assumption)
                  have q186 : x11_1 < (l0.length : Int) := of_decide_eq_true (by first | (with_reducible assumption) | assumption)
                  obtain ⟨ad186, A186_0, c186_0, e186, hx186_0, hl186_0, hi186_0⟩ := at_L3 HR0.out x11_1 p186 q186
                  cases e186
                  replace hx186_0 := (HB.out.cell (World.block_lt_of_cell? w _ hx186_0)).trans hx186_0
                  have HR186_0 := Aside0.mk hi186_0
                  have HC186_0 := Aside0.mk hl186_0
                  clear hi186_0 hl186_0
                  replace p186 := eq_true p186
                  replace q186 := eq_true q186
                  go_wp2
                  go_ret3
                  exact ⟨_, by first | rfl | (simp [errW_none, errW_some] <;> rfl) | (simp [*, errW_none, errW_some] <;> rfl), by first | exact Kd.R_nil _ _ _ _ _ | exact Kd.N_nil _ _ _ _ _ | exact Kd.V_nil _ _ _ _ _ | exact Kd.Q_nil _ _ _ _ _ | exact Kd.S_nil _ _ _ _ _, by repeat (first | (with_reducible first | exact HB.out | apply below_alloc | apply pw_below_drewN | apply below_drew1) | exact HB.out)⟩
          · rw [if_neg c4] at H
            exact absurd H (by simp)
        · rw [if_neg c3] at H
          exact absurd H (by simp)
      · rw [if_neg c2] at H
        have c2b0 : decide (x11_1 < (l0.length : Int)) = false := decide_eq_false c2
        clear c2
        simp only [Option.some.injEq, Prod.mk.injEq] at H
        obtain ⟨rfl, rfl, rfl⟩ := H
        go_wp2
        go_ret3
        exact ⟨_, by first | rfl | (simp [errW_none, errW_some] <;> rfl) | (simp [*, errW_none, errW_some] <;> rfl), by (with_reducible repeat (first | apply Kd.R_alloc | apply Kd.R_drewN | apply Kd.R_drew)); exact HO_5.out, by repeat (first | (with_reducible first | exact HB.out | apply below_alloc | apply pw_below_drewN | apply below_drew1) | exact HB.out)⟩

/-! ### slices_Clone_byte_byte: function 28 -/
def slices_Clone_byte_byte.f (l0 : List Int) : Option (List Int) := if l0.length ≤ 140737488355328 then (some l0) else (none)
set_option maxHeartbeats 8000000 in
set_option maxRecDepth 100000 in
theorem slices_Clone_byte_byte.calls (A0 : Option Addr) (c0 : Nat) (l0 : List Int) (r : List Int) (w : World) (hr0 : Kd.C (Kd.int .u8) w A0 l0.length l0) (hc0 : l0.length ≤ c0) (h : slices_Clone_byte_byte.f l0 = some r) :
    Calls Try.prog 28 #[.slice A0 l0.length c0] w fun e w' => ∃ v0_ : Value, e = .returned (v0_) ∧ Kd.R (Kd.int .u8) 5 w' w.heap.size (fun _ => True) v0_ r ∧ Below w.heap.size w w' := by
  have H : (if l0.length ≤ 140737488355328 then (some l0) else (none)) = some r := h
  clear h
  by_cases c1 : l0.length ≤ 140737488355328
  · rw [if_pos c1] at H
    obtain rfl := Option.some.inj H
    clear H
    have q1 : ∀ (w : World) (a : Option Addr) (n c n' c' : Nat), (binOp .eql 26 (.slice a n c) (.slice none n' c')).run Try.prog w = .ok (.bool a.isNone) w := fun w a n c n' c' => Go.Lib.run_eql_slice_nil w _ _ a n c n' c' Try.underlying26
    cases A0 with
    | none =>
      have h0 : l0.length = 0 := by
        rcases Nat.eq_zero_or_pos l0.length with h0 | h0
        · exact h0
        · obtain ⟨ad, h, _⟩ := hr0.2.2 h0
          cases h
      obtain rfl := List.eq_nil_of_length_eq_zero h0
      clear hr0 hc0 c1 h0
      go_enter Try.func28, Try.ntmps28
      go_wp2
      go_ret
      exact ⟨_, rfl, Kd.R_nil _ _ _ _ _, Below.refl _ _⟩
    | some ad =>
      have HR := Aside0.mk hr0
      have C1 := Aside0.mk (show (([] : List Int).length + l0.length) * 1 ≤ 140737488355328 from by simp only [List.length_nil]; omega)
      clear hr0 hc0 c1
      go_enter Try.func28, Try.ntmps28
      go_wp2_with (first | (at_builtin; refine Kd.R_append_rows (Kd.int .u8) (w0 := w) w.heap.size rfl (.tmp 5) (.tmp 6) 26 5 (.int .u8 0) 1 rfl Try.underlying26 info5 rfl (by decide) (by omega) (.slice (some ⟨w.heap.size, 0, none⟩) 0 0) [] l0 (some ad) _ _ (fun _ => True) (fun _ => False) rfl rfl ⟨fun _ _ => trivial, [], World.ownsRow_made w #[] 0 (Nat.le_refl _) (Nat.zero_le _) (by simp), Reps.none _ _⟩ (Kd.C_below HR.out (below_alloc (Below.refl _ _) _)) (fun _ _ h => h) (fun _ h => h.elim) (fun _ _ => trivial) (below_alloc (Below.refl _ _) _) (by simp) C1.out ?_; intro v1 w1 ho hb hg hat; clear hg hat; rw [List.nil_append] at ho; have HO := Aside0.mk ho; have HB := Aside0.mk hb; clear ho hb))
      go_ret
      exact ⟨_, rfl, HO.out, HB.out⟩
  · rw [if_neg c1] at H
    exact absurd H (by simp)

/-! ### array_Join: function 11 -/
def joinGone (a : Ar) (lost : List Int) : Int := if a.k = 2 ∧ lost.length = 1 then lost.getD 0 0 else -1
def joinMost (a : Ar) : Nat := if a.k = 0 then 0 else if a.k = 1 then a.m - 1 else 1
set_option maxHeartbeats 4000000 in
set_option maxRecDepth 100000 in
theorem array_Join.calls (k : Nat) (a : Ar) (ha : a.Ok) (A1 : Option Addr) (c1 : Nat) (mem : List (List Int)) (S : Nat) (lost : List Int) (w : World) (hr : Kd.C (Kd.slice 5 (Kd.int .u8)) w A1 mem.length mem) (hc : mem.length ≤ c1) (hm : mem.length = a.m) (hM : array_missing.f k mem = some (lost, (S : Int), true)) (hS : S % a.c = 0) (hS5 : S ≤ 512) (hl : lost.length ≤ joinMost a) (hml : ∀ x ∈ mem, x.length ≤ 512) :
    Calls Try.prog 11 #[.slice A1 a.m c1, .agg a.cs] w fun e w' => ∃ g : Nat, e = .returned (.tuple #[.iface 65 (.pointer (some ⟨g, 0, none⟩)), .int .i64 0]) ∧ IsWh w' g a mem S (joinGone a lost) ∧ Below w.heap.size w w' := by
  have HR := Aside0.mk hr
  have HC := Aside0.mk hc
  have HA := Aside0.mk ha
  have HM := Aside0.mk hM
  have HML := Aside0.mk hml
  have HMM := Aside0.mk hm
  obtain ⟨m1, m2⟩ := ha.m
  obtain ⟨c1', c2'⟩ := ha.c_le
  have hk3 := ha.k
  have HCK : Aside0 (∀ W, Calls Try.prog 20 #[.agg #[.int .i64 a.k, .int .i64 a.m, .int .i64 a.ch, .bool a.lf]] W fun e w' => e = .returned (.int .i64 0) ∧ Below W.heap.size W w') := ⟨fun W => Ar.check_calls ha W⟩
  have HCH : Aside0 (∀ W, Calls Try.prog 21 #[.agg #[.int .i64 a.k, .int .i64 a.m, .int .i64 a.ch, .bool a.lf]] W fun e w' => e = .returned (.int .i64 a.c) ∧ Below W.heap.size W w') := ⟨fun W => Ar.chunk_calls ha W⟩
  have HMI : Aside0 (∀ W, Below w.heap.size w W → Calls Try.prog 27 #[.slice A1 a.m c1] W fun e w' => ∃ v0_ : Value, e = .returned (.tuple #[v0_, .int .i64 S, .bool true]) ∧ Kd.R (Kd.int .i64) 3 w' W.heap.size (fun _ => True) v0_ lost ∧ Below W.heap.size W w') := ⟨fun W hb => by
    have h := array_missing.calls k A1 c1 mem lost (S : Int) true W (Kd.C_below HR.out hb) HC.out HM.out
    rwa [HMM.out] at h⟩
  have hcz : (1 : Int) ≤ (a.c : Int) := by omega
  have hcN : ¬ a.c = 0 := by omega
  have hcn : ¬ (a.c : Int) = 0 := by omega
  have E1 : Aside0 (Int.tmod (S : Int) (a.c : Int) = 0) := ⟨by rw [tmod_nat, hS]; rfl⟩
  have E2 : Aside0 ((S : Int) % (a.c : Int) = 0) := ⟨by have := E1.out; rwa [Int.tmod_eq_emod_of_nonneg (by omega)] at this⟩
  obtain ⟨Q, hQ⟩ : ∃ z, 65536 / a.m = z := ⟨_, rfl⟩
  have hQm : 4 * 512 ≤ 65536 := by decide
  have hSQ : S ≤ Q := by
    rw [← hQ]
    refine (Nat.le_div_iff_mul_le (by omega)).2 ?_
    have : S * a.m ≤ 512 * 4 := Nat.mul_le_mul hS5 m2
    omega
  have E3 : Aside0 (Int.tdiv 65536 (a.m : Int) = (Q : Int)) := ⟨by have := tdiv_nat 65536 a.m; rw [hQ] at this; exact this⟩
  have E4 : Aside0 ((65536 : Int) / (a.m : Int) = (Q : Int)) := ⟨by have := E3.out; rwa [Int.tdiv_eq_ediv_of_nonneg (by omega)] at this⟩
  have hmz : (1 : Int) ≤ (a.m : Int) := by omega
  have hmN : ¬ a.m = 0 := by omega
  have hmn : ¬ (a.m : Int) = 0 := by omega
  have hSQz : (S : Int) ≤ (Q : Int) := by omega
  have hQb : (Q : Int) ≤ 65536 := by have := Nat.div_le_self 65536 a.m; omega
  have hQ0 : (0 : Int) ≤ (Q : Int) := by omega
  have e5 : wrap64 (Q : Int) = (Q : Int) := wrap_nat (by omega)
  have hlit : [Value.int .i64 0, Value.int .i64 ((a.m : Int) - 1), Value.int .i64 1][a.k]? = some (Value.int .i64 (joinMost a : Int)) := by
    unfold joinMost
    rcases (show a.k = 0 ∨ a.k = 1 ∨ a.k = 2 by omega) with e | e | e
    · rw [e]; rfl
    · rw [e]
      simp
      omega
    · rw [e]; rfl
  have hk3z : (a.k : Int) < 3 := by omega
  have hk0z : (0 : Int) ≤ (a.k : Int) := by omega
  have hlz : (lost.length : Int) ≤ (joinMost a : Int) := by omega
  have hgone : joinGone a lost = if a.k = 2 ∧ lost.length = 1 then lost.getD 0 0 else -1 := rfl
  have HGO := Aside0.mk hgone
  have HLIT := Aside0.mk hlit
  have hmm := print_make_of (P := Try.prog) 28 26 (.slice none 0 0) 24 Try.underlying28 info26b rfl (by decide) a.m (by omega)
  generalize hMM : madeCells #[.slice none 0 0] a.m = MM at hmm
  have HMC := Aside0.mk hMM
  clear hr hc ha hM hml hm hS hgone hMM hlit
  generalize joinMost a = LM at *
  generalize joinGone a lost = gone at *
  unfold Ar.cs
  go_enter Try.func11, Try.ntmps11
  go_upto_region 1 with (fail)
  obtain ⟨W0, hW0⟩ : ∃ W, W = w.alloc (.cells #[.int .i64 a.k, .int .i64 a.m, .int .i64 a.ch, .bool a.lf] 24) := ⟨_, rfl⟩
  obtain ⟨gx, hgx⟩ : ∃ g, g = w.heap.size := ⟨_, rfl⟩
  have BKX : Aside0 (W0.heap[gx]? = some (.cells #[.int .i64 a.k, .int .i64 a.m, .int .i64 a.ch, .bool a.lf] 24 (0, 0))) := ⟨by rw [hW0, hgx]; exact blk_new w _⟩
  have HB0 : Aside0 (Below w.heap.size w W0) := ⟨by rw [hW0]; exact below_alloc (Below.refl _ _) _⟩
  rw [← hW0, ← hgx]
  clear hW0 hgx
  obtain ⟨x0, x1, x2, x3⟩ := boxc BKX.out
  have e1 := E1.out
  have e2 := E2.out
  have e3 := E3.out
  have e4 := E4.out
  have hlit := HLIT.out
  go_upto_region 5 with (first | (go_at_call 20; (with_reducible refine (HCK.out _).mono ?_); rintro e w1 ⟨rfl, hb1⟩; have BK1 := Aside0.mk (blk_below BKX.out hb1); obtain ⟨y0, y1, y2, y3⟩ := boxc BK1.out; have HB1 := Aside0.mk (below_step HB0.out hb1); clear hb1) | (go_at_call 27; (with_reducible refine (HMI.out _ HB1.out).mono ?_); rintro e w2 ⟨v2, rfl, hr2, hb2⟩; obtain ⟨AL, cL, eL⟩ := Kd.R_slice hr2; subst eL; have HRL := Aside0.mk hr2; have BK2 := Aside0.mk (blk_below BK1.out hb2); obtain ⟨z0, z1, z2, z3⟩ := boxc BK2.out; have HB2 := Aside0.mk (below_step HB1.out hb2); clear hr2 hb2) | (go_at_call 21; (with_reducible refine (HCH.out _).mono ?_); rintro e w3 ⟨rfl, hb3⟩; have HRL3 := Aside0.mk (Kd.R_below HRL.out hb3); have BK3 := Aside0.mk (blk_below BK2.out hb3); obtain ⟨u0, u1, u2, u3⟩ := boxc BK3.out; have HB3 := Aside0.mk (below_step HB2.out hb3); clear hb3))
  go_upto_region 7 with (go_at_call 21; (with_reducible refine (HCH.out _).mono ?_); rintro e w3 ⟨rfl, hb3⟩; have HRL3 := Aside0.mk (Kd.R_below HRL.out hb3); have BK3 := Aside0.mk (blk_below BK2.out hb3); obtain ⟨u0, u1, u2, u3⟩ := boxc BK3.out; have HB3 := Aside0.mk (below_step HB2.out hb3); clear hb3)
  go_upto_region 9 with (fail)
  obtain ⟨t0, t1, t2, t3⟩ := boxc (blk_below BK3.out (below_alloc (Below.refl w3.heap.size w3) (.cells #[.int .i64 0, .int .i64 ((a.m : Int) - 1), .int .i64 1] 3)))
  have hq4 : (w3.alloc (.cells #[.int .i64 0, .int .i64 ((a.m : Int) - 1), .int .i64 1] 3)).heap[gx]? = some (.cells #[.int .i64 a.k, .int .i64 a.m, .int .i64 a.ch, .bool a.lf] 24 (0, 0)) := blk_below BK3.out (below_alloc (Below.refl _ _) _)
  have BK4 := Aside0.mk hq4
  have HRL4 := Aside0.mk (Kd.R_below HRL3.out (below_alloc (Below.refl w3.heap.size w3) (.cells #[.int .i64 0, .int .i64 ((a.m : Int) - 1), .int .i64 1] 3)))
  have HB4 : Aside0 (Below w.heap.size w (w3.alloc (.cells #[.int .i64 0, .int .i64 ((a.m : Int) - 1), .int .i64 1] 3))) := ⟨below_alloc HB3.out _⟩
  clear hq4
  go_upto_region 11 with (fail)
  clear t0 t1 t2 t3 u0 u1 u2 u3 z0 z1 z2 z3 y0 y1 y2 y3 x0 x1 x2 x3 e1 e2 e3 e4 e5 hlit
  generalize w3.alloc (.cells #[.int .i64 0, .int .i64 ((a.m : Int) - 1), .int .i64 1] 3) = W4 at *
  obtain ⟨u0, u1, u2, u3⟩ := boxc BK4.out
  have u4 : ∀ (X : Obj), (W4.alloc X).cell? ⟨gx, 0, none⟩ = some (.int .i64 a.k) ∧ (W4.alloc X).cell? ⟨gx, 1, none⟩ = some (.int .i64 a.m) ∧ (W4.alloc X).cell? ⟨gx, 2, none⟩ = some (.int .i64 a.ch) ∧ (W4.alloc X).cell? ⟨gx, 3, none⟩ = some (.bool a.lf) := fun X => boxc (blk_below BK4.out (below_alloc (Below.refl _ _) _))
  obtain ⟨t0, t1, t2, t3⟩ := u4 (.cells MM 26)
  clear u4
  generalize decide (Q < S) = bq1
  generalize decide (LM < lost.length) = bq2
  go_cut [10] (fun v10 wx => ∃ g gm : Nat, v10 = .pointer (some ⟨g, 0, none⟩) ∧ Aside0 (wx.heap[g]? = some (.cells #[.int .i64 a.k, .int .i64 a.m, .int .i64 a.ch, .bool a.lf, .slice (some ⟨gm, 0, none⟩) a.m a.m, .int .i64 S, .int .i64 (-1)] 67 (0, 0))) ∧ Aside0 (Mems w.heap.size wx gm (List.replicate a.m (.slice none 0 0)) (List.replicate a.m [])) ∧ Aside0 (Below W4.heap.size W4 wx) ∧ Aside0 (w.heap.size ≤ g ∧ W4.heap.size ≤ g ∧ W4.heap.size ≤ gm))
  case first =>
    go_region_with (fail)
    all_goals
      go_wp2_with fail
      go_meet
      case rel =>
        have hsz : (W4.alloc (.cells MM 26)).heap.size = W4.heap.size + 1 := by simp
        have hG := blk_new (W4.alloc (.cells MM 26)) (.cells #[.int .i64 a.k, .int .i64 a.m, .int .i64 a.ch, .bool a.lf, .slice (some ⟨W4.heap.size, 0, none⟩) a.m a.m, .int .i64 S, .int .i64 (-1)] 67 (0, 0))
        rw [hsz] at hG
        have hM := Mems.made W4 w.heap.size a.m HB4.out.size
        rw [HMC.out] at hM
        exact ⟨W4.heap.size + 1, W4.heap.size, rfl, ⟨hG⟩, ⟨hM.below (below_drew1 (below_alloc (Below.refl _ _) _))⟩, ⟨below_drew1 (below_alloc (below_alloc (Below.refl _ _) _) _)⟩, ⟨by have := HB4.out.size; omega, by omega, Nat.le_refl _⟩⟩
  case rest =>
    obtain ⟨g, gm, rfl, BKG, MEM, HB5, HGE⟩ := hcut
    have HBc : Aside0 (Below w.heap.size w wc) := ⟨below_step HB4.out HB5.out⟩
    have HRL5 := Aside0.mk (Kd.R_below HRL4.out HB5.out)
    have BK5 := Aside0.mk (blk_below BK4.out HB5.out)
    have MEM0 : Aside0 (Mems w.heap.size wc gm (List.replicate a.m (.slice none 0 0)) ((mem.take 0) ++ List.replicate (a.m - 0) [])) := ⟨by simpa using MEM.out⟩
    clear t0 t1 t2 t3 u0 u1 u2 u3 hmm HMC MEM HB4 HB5 HRL4 BK4 HCK HCH HMI E1 E2 E3 E4 HLIT
    obtain ⟨W5, hW5⟩ : ∃ W, W = wc := ⟨_, rfl⟩
    subst hW5
    go_wp2
    go_loopg [68] a.m (fun gg s68 wr => ∃ (kk : Nat) (vs : List Value), kk ≤ a.m ∧ a.m - kk ≤ gg ∧ s68 = .int .i64 kk ∧ Aside0 (Mems w.heap.size wr gm vs (mem.take kk ++ List.replicate (a.m - kk) [])) ∧ Aside0 (wr.heap[g]? = some (.cells #[.int .i64 a.k, .int .i64 a.m, .int .i64 a.ch, .bool a.lf, .slice (some ⟨gm, 0, none⟩) a.m a.m, .int .i64 S, .int .i64 (-1)] 67 (0, 0))) ∧ Aside0 (wr.heap[gx]? = some (.cells #[.int .i64 a.k, .int .i64 a.m, .int .i64 a.ch, .bool a.lf] 24 (0, 0))) ∧ Aside0 (Kd.R (Kd.int .i64) 3 wr w.heap.size (fun _ => True) (.slice AL lost.length cL) lost) ∧ Aside0 (Below w.heap.size w wr))
    case atStart => exact ⟨0, _, Nat.zero_le _, by omega, rfl, MEM0, BKG, BK5, ⟨Kd.R_lower HRL5.out (by have := HB1.out.size; omega)⟩, HBc⟩
    case round =>
      obtain ⟨kk, vs, hkk, hg, rfl, MEM, BKG, BKX, HRL, HBW⟩ := hrel
      clear MEM0
      obtain ⟨y0, y1, y2, y3, y4, y5, y6⟩ := whc BKG.out
      by_cases hlt : kk < a.m
      · have hltz : (kk : Int) < (a.m : Int) := by omega
        have h0 : (0 : Int) ≤ (kk : Int) := by omega
        have hkm : kk < mem.length := by rw [HMM.out]; exact hlt
        obtain ⟨ad, cs, e0, hcl1, ⟨A2, c2, rfl, hl2, hC2⟩, hcell⟩ := ReadsRow.get_ HR.out [] (kk : Int) h0 (by omega)
        subst e0
        have hx0 := hcell 0 _ rfl
        rw [show ((kk : Int)).toNat = kk from Int.toNat_natCast kk, Nat.add_zero, show (Kd.slice 5 (Kd.int .u8)).sz = 1 from rfl, Nat.mul_one] at hx0
        rw [show ((kk : Int)).toNat = kk from Int.toNat_natCast kk] at hl2 hC2
        replace hx0 := (HBW.out.cell (World.block_lt_of_cell? w _ hx0)).trans hx0
        have hgd : mem.getD kk [] = mem[kk] := by rw [List.getD_eq_getElem?_getD, List.getElem?_eq_getElem hkm]; rfl
        have hxl := HML.out _ (List.getElem_mem hkm)
        rw [← hgd] at hxl
        have hil : kk < (mem.take kk ++ List.replicate (a.m - kk) ([] : List Int)).length := by rw [List.length_append, List.length_take, List.length_replicate, HMM.out]; omega
        have hset : (mem.take kk ++ List.replicate (a.m - kk) ([] : List Int)).set kk (mem.getD kk []) = mem.take (kk + 1) ++ List.replicate (a.m - (kk + 1)) [] := by
          have hl : (mem.take kk).length = kk := by rw [List.length_take]; omega
          rw [List.set_append_right _ _ (by rw [hl]; exact Nat.le_refl _), hl, Nat.sub_self, show a.m - kk = (a.m - (kk + 1)) + 1 by omega, List.replicate_succ, List.set_cons_zero, List.take_add_one, List.getElem?_eq_getElem hkm, List.append_assoc, hgd]
          rfl
        obtain ⟨cc, ff⟩ := MEM.out.cell hil
        have HCC := Aside0.mk (Kd.C_below hC2 HBW.out)
        have HCL2 := Aside0.mk hl2
        have HCF : Aside0 (slices_Clone_byte_byte.f (mem.getD kk []) = some (mem.getD kk [])) := ⟨by unfold slices_Clone_byte_byte.f; rw [if_pos (by omega)]⟩
        have HIL := Aside0.mk hil
        have HSE := Aside0.mk hset
        have HST : Aside0 (∀ W v, Below wr.heap.size wr W → Kd.R (Kd.int .u8) 5 W wr.heap.size (fun _ => True) v (mem.getD kk []) → W.cell? ⟨gm, kk, none⟩ = some (vs.getD kk (.bool false)) ∧ W.frozen? ⟨gm, kk, none⟩ = false ∧ Mems w.heap.size (W.setCell ⟨gm, kk, none⟩ v) gm (vs.set kk v) (mem.take (kk + 1) ++ List.replicate (a.m - (kk + 1)) []) ∧ (W.setCell ⟨gm, kk, none⟩ v).heap[g]? = some (.cells #[.int .i64 a.k, .int .i64 a.m, .int .i64 a.ch, .bool a.lf, .slice (some ⟨gm, 0, none⟩) a.m a.m, .int .i64 S, .int .i64 (-1)] 67 (0, 0)) ∧ (W.setCell ⟨gm, kk, none⟩ v).heap[gx]? = some (.cells #[.int .i64 a.k, .int .i64 a.m, .int .i64 a.ch, .bool a.lf] 24 (0, 0)) ∧ Kd.R (Kd.int .i64) 3 (W.setCell ⟨gm, kk, none⟩ v) w.heap.size (fun _ => True) (.slice AL lost.length cL) lost ∧ Below w.heap.size w (W.setCell ⟨gm, kk, none⟩ v) ∧ W.cell? ⟨g, 4, none⟩ = some (.slice (some ⟨gm, 0, none⟩) a.m a.m)) := ⟨fun W v hb hv => by
          have hM := MEM.out.below hb
          obtain ⟨q1, q2⟩ := hM.cell HIL.out
          have hP := hM.put HIL.out (Kd.R_lower hv HBW.out.size) (fun j k hj hne e e' => by
            have h1 := ((Kd.R_bound (MEM.out.2.2.2.1 j hj)).1 k e).2.2.1
            have h2 := Kd.R_base hv k e'
            omega)
          rw [HSE.out] at hP
          have hgG := blk_below BKG.out hb
          have hgX := blk_below BKX.out hb
          have hng : g ≠ gm := fun e => by have h1 := hM.1; rw [← e, hgG] at h1; simp at h1
          have hnx : gx ≠ gm := fun e => by have h1 := hM.1; rw [← e, hgX] at h1; simp at h1
          refine ⟨q1, q2, hP, (blk_far hgG hng _).trans rfl, (blk_far hgX hnx _).trans rfl, Kd.R_set (Kd.R_below HRL.out hb) hM.1 (fun q hq => by have e2 : q = 3 := (by simpa [Kd.int, Kd.scalar] using hq); rw [e2]; decide) kk v, (below_step HBW.out hb).setCell (by exact hM.2.1) _, (blk_cell hgG 4).trans rfl⟩⟩
        clear hgd hxl hset hil hcell hcl1 hC2 hl2
        generalize mem.getD kk [] = xs at *
        go_upto_region 15 with (fail)
        have HCLN : Aside0 (∀ W, Below wr.heap.size wr W → Calls Try.prog 28 #[.slice A2 xs.length c2] W fun e w' => ∃ v0_ : Value, e = .returned (v0_) ∧ Kd.R (Kd.int .u8) 5 w' wr.heap.size (fun _ => True) v0_ xs ∧ Below W.heap.size W w') := ⟨fun W hb => (slices_Clone_byte_byte.calls A2 c2 xs xs W (Kd.C_below HCC.out hb) HCL2.out HCF.out).mono fun e w' ⟨v, h1, h2, h3⟩ => ⟨v, h1, Kd.R_lower h2 hb.size, h3⟩⟩
        go_region_with (first | (go_at_call 28; (with_reducible refine (HCLN.out _ ?hbq).mono ?_); (case hbq => (repeat (first | assumption | exact Below.refl _ _ | apply below_drew1))); rintro e wz ⟨vz, rfl, hz, hbz⟩; have hbz2 : Below wr.heap.size wr wz := below_step (by (repeat (first | assumption | exact Below.refl _ _ | apply below_drew1))) hbz; obtain ⟨Az, cz, ez⟩ := Kd.R_slice hz; subst ez; obtain ⟨q1, q2, q3, q4, q5, q6, q7, q8⟩ := HST.out wz _ hbz2 hz; have HQ3 := Aside0.mk q3; have HQ4 := Aside0.mk q4; have HQ5 := Aside0.mk q5; have HQ6 := Aside0.mk q6; have HQ7 := Aside0.mk q7; clear q3 q4 q5 q6 q7 hz hbz))
        all_goals
          clear y0 y1 y2 y3 y4 y5 y6 cc ff hx0
          generalize wz.setCell ⟨gm, kk, none⟩ (.slice Az xs.length cz) = wy at *
          go_wp2
          go_roundg (a.m - (kk + 1))
          case measure => omega
          case rel => exact ⟨kk + 1, _, by omega, by omega, by go_num, HQ3, HQ4, HQ5, HQ6, HQ7⟩
      · have hltz : ¬ (kk : Int) < (a.m : Int) := by omega
        have hk : kk = a.m := by omega
        have MEMF : Aside0 (Mems w.heap.size wr gm vs mem) := ⟨by have h := MEM.out; rw [hk, Nat.sub_self, List.replicate_zero, List.append_nil, List.take_of_length_le (by rw [HMM.out]; exact Nat.le_refl _)] at h; exact h⟩
        have HMC2 : Aside0 (∀ W, Mems w.heap.size W gm vs mem → Kd.C (Kd.slice 5 (Kd.int .u8)) W (some ⟨gm, 0, none⟩) mem.length mem) := ⟨fun W h => h.C (by rw [HMM.out]; omega)⟩
        clear hk hlt MEM
        obtain ⟨x0, x1, x2, x3⟩ := boxc BKX.out
        by_cases hk2 : a.k = 2
        · have hkz : ((a.k : Int) == 2) = true := by rw [hk2]; rfl
          by_cases hl1 : lost.length = 1
          · have hlb : ((lost.length : Int) == 1) = true := by rw [hl1]; rfl
            have hlN : 0 < lost.length := by omega
            have hlI : (0 : Int) < (lost.length : Int) := by omega
            obtain ⟨al, hal, z0⟩ := Kd.at_int (Kd.R_reads' HRL.out).2.2 0 (by decide) hlI
            have hrd : rd lost 0 = lost.getD 0 0 := rfl
            have HGV : Aside0 (gone = lost.getD 0 0) := ⟨by rw [HGO.out, if_pos ⟨hk2, hl1⟩]⟩
            rw [hrd] at z0
            generalize lost.getD 0 0 = gv at *
            subst hal
            have zz : wr.cell? al = some (.int .i64 gv) := by simpa [Addr.add] using z0
            have z1 : wr.cell? (al.add 0) = some (.int .i64 gv) := by simpa [Addr.add] using z0
            have fz := blk_frozen BKG.out 6
            have HW7 : Aside0 (IsWh (wr.setCell ⟨g, 6, none⟩ (.int .i64 gv)) g a mem S gone ∧ Below w.heap.size w (wr.setCell ⟨g, 6, none⟩ (.int .i64 gv))) := ⟨by
              have hng : gm ≠ g := fun e => by have h1 := MEMF.out.1; rw [e, BKG.out] at h1; simp at h1
              refine ⟨⟨gm, a.m, (blk_set BKG.out 6 _).trans (by rw [HGV.out]; rfl), ?_, HMM.out, Nat.le_refl _⟩, HBW.out.setCell (by exact HGE.out.1) _⟩
              obtain ⟨n1, n2, n3, n4, n5⟩ := MEMF.out
              refine HMC2.out _ ⟨(blk_far n1 hng _).trans rfl, n2, n3, fun i hi => ?_, n5⟩
              exact Kd.R_set (n4 i hi) BKG.out (fun q hq => by have e2 : q = 5 := (by simpa [Kd.int, Kd.scalar] using hq); rw [e2]; decide) 6 _⟩
            clear hk2 hl1 z0
            go_wp2
            go_ret2
            first | exact ⟨g, rfl, HW7.out.1, HW7.out.2⟩
          · have hlb : ((lost.length : Int) == 1) = false := by simp; omega
            have HW7 : Aside0 (IsWh wr g a mem S gone) := ⟨⟨gm, a.m, by rw [HGO.out, if_neg (fun h => hl1 h.2)]; exact BKG.out, HMC2.out _ MEMF.out, HMM.out, Nat.le_refl _⟩⟩
            clear hk2 hl1
            go_wp2
            go_ret2
            exact ⟨g, rfl, HW7.out, HBW.out⟩
        · have hkz : ((a.k : Int) == 2) = false := by simp; omega
          have HW7 : Aside0 (IsWh wr g a mem S gone) := ⟨⟨gm, a.m, by rw [HGO.out, if_neg (fun h => hk2 h.1)]; exact BKG.out, HMC2.out _ MEMF.out, HMM.out, Nat.le_refl _⟩⟩
          clear hk2
          go_wp2
          go_ret2
          exact ⟨g, rfl, HW7.out, HBW.out⟩

end Go.Proofs.Ytppbkljdeiegjaa.PArrayRoads
