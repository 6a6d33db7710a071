-- written by prn.py, a program of this session, over the kit's printer
import Derived.Test.YtoanpgeijokgpaaPSourceRoadsx0
import Derived.Test.YtoanpgeijokgpaaPSourceRoadsx1
import Derived.Test.YtoanpgeijokgpaaPSourceRoadsx3
import Derived.Test.YtoanpgeijokgpaaPSourceRoadsx4
import Derived.Test.YtoanpgeijokgpaaPSourceRoadsx5
import Derived.Test.YtoanpgeijokgpaaPSourceRoadsx6
namespace Go.Proofs.Ytoanpgeijokgpaa.PSourceRoads
open Go.RowKit Go.Proofs.YtoanpgeijokgpaaW.PrintWords Go.Proofs.YtoanpgeijokgpaaW.PrintLast Go.Proofs.YtoanpgeijokgpaaW.PrintMore Go.Proofs.YtoanpgeijokgpaaW.PrintMine
attribute [local go_sem] max2_int min2_int max_two min_two max_three min_three max_four min_four   -- for this text's walks alone
set_option linter.unusedVariables false
set_option linter.unusedSimpArgs false

attribute [local go_sem high] eqA53
/-! ### source_image_Read: function 67 -/
def source_image_Read.f (k : Nat) (b : List Int) (l : List S53) (off n : Int) : Option (List Int × Int) := if 0 ≤ off ∧ 0 ≤ n ∧ n ≤ (b.length : Int) ∧ off ≤ (b.length : Int) - n ∧ b.length ≤ 65536 then
  (span_Meet.f k l [⟨off, n⟩]).bind fun m => if m.length = 0 then some ((b.drop off.toNat).take n.toNat, 0) else some ([], 19) else none
set_option maxHeartbeats 2000000 in
set_option maxRecDepth 100000 in
theorem source_image_Read.calls (k : Nat) (g : Nat) (b : List Int) (l : List S53) (off n : Int) (r1 : List Int) (r2 : Int) (w : World) (hI : IsImg w g b l) (h : source_image_Read.f k b l off n = some (r1, r2)) :
    Calls Try.prog 67 #[.pointer (some ⟨g, 0, none⟩), .int .i64 off, .int .i64 n] w fun e w' => ∃ v0_ : Value, e = .returned (.tuple #[v0_, .int .i64 r2]) ∧ Kd.R (Kd.int .u8) 5 w' w.heap.size (fun _ => True) v0_ r1 ∧ Below w.heap.size w w' := by
  unfold source_image_Read.f at h
  split at h
  case isFalse => exact absurd h (by simp)
  case isTrue hh =>
  obtain ⟨q1, q2, q3, q4, q5⟩ := hh
  obtain ⟨m, hm, h⟩ := Option.bind_eq_some_iff.mp h
  obtain ⟨A, c, B, d, h1, h2, h3, h4, h5⟩ := hI
  have HI := Aside0.mk h1
  have HA := Aside0.mk h2
  have HC := Aside0.mk h3
  have HB := Aside0.mk h4
  have HD := Aside0.mk h5
  have HM := Aside0.mk hm
  have hwi : source_within.f off n (b.length : Int) = some true := by
    have e : wrap64 ((b.length : Int) - n) = (b.length : Int) - n := by unfold wrap64; omega
    unfold source_within.f
    rw [if_pos (by omega), if_pos (by omega), if_pos (by omega), e]
    simp; omega
  have HW := Aside0.mk hwi
  have x0 : w.cell? ⟨g, 0, none⟩ = some (.slice A b.length c) := (blk_cell h1 0).trans rfl
  have x1 : w.cell? ⟨g, 1, none⟩ = some (.slice B l.length d) := (blk_cell h1 1).trans rfl
  clear h1 h2 h3 h4 h5 hm hwi
  by_cases hl : m.length = 0
  · rw [if_pos hl] at h
    obtain ⟨rfl, rfl⟩ := Prod.mk.inj (Option.some.inj h)
    clear h
    obtain ⟨i0, hi0, _, hsz, _⟩ := info_parts info5
    have hc1 := cut_mid (P := Try.prog) 23 5 .i64 .i64 Try.underlying23 hi0 1 hsz A b.length c off (off + n) q1 (by omega) (by omega) HC.out
    obtain ⟨r1, hr⟩ : ∃ r, r = (b.drop off.toNat).take n.toNat := ⟨_, rfl⟩
    rw [← hr]
    have hlen : (off + n).toNat - off.toNat = r1.length := by rw [hr, List.length_take, List.length_drop]; omega
    rw [hlen] at hc1
    have HR1 := Aside0.mk hr
    have HLEN := Aside0.mk (show r1.length ≤ 65536 from by rw [hr, List.length_take, List.length_drop]; omega)
    have HCC := Aside0.mk (show r1.length ≤ c - off.toNat from by have := HC.out; rw [hr, List.length_take, List.length_drop]; omega)
    have HROW := Aside0.mk (show Kd.C (Kd.int .u8) w (if c = off.toNat then A else A.map (·.add (off.toNat * 1))) r1.length r1 from by
      have h1 := Kd.C_drop HA.out (m := off.toNat) (c := c) (by omega) HC.out
      have h2 := Kd.C_take (m := n.toNat) h1 (by rw [List.length_drop]; omega)
      rw [← hr] at h2
      exact h2)
    generalize (if c = off.toNat then A else A.map (·.add (off.toNat * 1))) = AC at hc1 HROW
    have HF := Aside0.mk (show slices_Clone_byte_byte.f r1 = some r1 from by unfold slices_Clone_byte_byte.f; rw [if_pos (by have := HLEN.out; omega)])
    clear hr hlen hi0 hsz
    go_enter Try.func67, Try.ntmps67
    go_upto_region 3 with (go_at_call 26; refine (source_within.calls off n _ true _ HW.out).mono ?_; rintro e w1 ⟨rfl, nd, rfl⟩)
    have HB1 : Aside0 (Below w.heap.size w (w.drewN nd)) := ⟨pw_below_drewN (Below.refl _ _) _⟩
    generalize w.drewN nd = W at HB1 ⊢
    have HBB := Aside0.mk (Kd.C_below HB.out HB1.out)
    have y1 : W.cell? ⟨g, 1, none⟩ = some (.slice B l.length d) := (HB1.out.cell (World.block_lt_of_cell? w _ x1)).trans x1
    have y0 : W.cell? ⟨g, 0, none⟩ = some (.slice A b.length c) := (HB1.out.cell (World.block_lt_of_cell? w _ x0)).trans x0
    have X0 := Aside0.mk x0
    clear x0 x1
    have t1 : decide ((m.length : Int) > 0) = false := decide_eq_false (by omega)
    have t2 : decide (0 < m.length) = false := decide_eq_false (by omega)
    go_upto_region 5 with (go_at_call 70; refine (span_Meet.calls k B d l (some ⟨W.heap.size, 0, none⟩) 1 [⟨off, n⟩] m _ (Kd.C_below HBB.out (below_alloc (Below.refl _ _) _)) HD.out (one53 W off n _) (Nat.le_refl 1) HM.out).mono ?_; rintro e w2 ⟨v2, rfl, hR, hb⟩; have HR2 := Aside0.mk hR; have HB2 := Aside0.mk (below_step (below_alloc HB1.out _) hb); clear hR hb; obtain ⟨Am, cm, em⟩ := Kd.R_slice HR2.out; subst em)
    have z0 : w2.cell? ⟨g, 0, none⟩ = some (.slice A b.length c) := (HB2.out.cell (World.block_lt_of_cell? w _ X0.out)).trans X0.out
    have HROW2 := Aside0.mk (Kd.C_below HROW.out HB2.out)
    clear y0 y1 t1 t2
    go_wp2_with (go_at_call 14; refine (slices_Clone_byte_byte.calls _ _ r1 r1 _ HROW2.out HCC.out HF.out).mono ?_; rintro e w3 ⟨v3, rfl, hR, hb⟩; have HR3 := Aside0.mk hR; have HB3 := Aside0.mk (below_step HB2.out hb); have HS3 := Aside0.mk hb; clear hR hb; obtain ⟨Ar, cr, er⟩ := Kd.R_slice HR3.out; subst er)
    go_ret2
    exact ⟨_, rfl, Kd.R_lower HR3.out (below_size HB2.out), HB3.out⟩
  · rw [if_neg hl] at h
    obtain ⟨rfl, rfl⟩ := Prod.mk.inj (Option.some.inj h)
    clear h
    go_enter Try.func67, Try.ntmps67
    go_upto_region 3 with (go_at_call 26; refine (source_within.calls off n _ true _ HW.out).mono ?_; rintro e w1 ⟨rfl, nd, rfl⟩)
    have HB1 : Aside0 (Below w.heap.size w (w.drewN nd)) := ⟨pw_below_drewN (Below.refl _ _) _⟩
    generalize w.drewN nd = W at HB1 ⊢
    have HBB := Aside0.mk (Kd.C_below HB.out HB1.out)
    have y1 : W.cell? ⟨g, 1, none⟩ = some (.slice B l.length d) := (HB1.out.cell (World.block_lt_of_cell? w _ x1)).trans x1
    have y0 : W.cell? ⟨g, 0, none⟩ = some (.slice A b.length c) := (HB1.out.cell (World.block_lt_of_cell? w _ x0)).trans x0
    clear x0 x1
    have t1 : decide ((m.length : Int) > 0) = true := decide_eq_true (by omega)
    have t2 : decide (0 < m.length) = true := decide_eq_true (by omega)
    go_upto_region 4 with (go_at_call 70; refine (span_Meet.calls k B d l (some ⟨W.heap.size, 0, none⟩) 1 [⟨off, n⟩] m _ (Kd.C_below HBB.out (below_alloc (Below.refl _ _) _)) HD.out (one53 W off n _) (Nat.le_refl 1) HM.out).mono ?_; rintro e w2 ⟨v2, rfl, hR, hb⟩; have HR2 := Aside0.mk hR; have HB2 := Aside0.mk (below_step (below_alloc HB1.out _) hb); clear hR hb; obtain ⟨Am, cm, em⟩ := Kd.R_slice HR2.out; subst em)
    go_wp2
    go_ret2
    exact ⟨_, rfl, Kd.R_nil _ _ _ _ _, HB2.out⟩

/-! ### wrackkeep1_sources: function 9 -/
def wrackkeep1_sources.f (k : Nat) : Option Bool := (source_Of.f k [97, 98, 99, 100, 101, 102]).bind fun r => (source_image_Read.f k [97, 98, 99, 100, 101, 102] r 1 2).bind fun x => if x.1 = [98, 99] ∧ x.2 = 0 then some true else none
set_option maxHeartbeats 2000000 in
set_option maxRecDepth 100000 in
theorem wrackkeep1_sources.calls (k : Nat) (r : Bool) (w : World) (h : wrackkeep1_sources.f k = some r) :
    Calls Try.prog 9 #[] w fun e w' => e = .returned (.bool r) ∧ Below w.heap.size w w' := by
  unfold wrackkeep1_sources.f at h
  obtain ⟨l, h1, h⟩ := Option.bind_eq_some_iff.mp h
  obtain ⟨⟨x, y⟩, h2, h⟩ := Option.bind_eq_some_iff.mp h
  simp only at h
  split at h
  case isFalse => exact absurd h (by simp)
  case isTrue hh =>
  obtain rfl := Option.some.inj h
  obtain ⟨rfl, rfl⟩ := hh
  have H1 := Aside0.mk h1
  have H2 := Aside0.mk h2
  clear h1 h2 h
  go_enter Try.func9, Try.ntmps9
  go_upto_region 4 with (first | ((with_reducible refine gate_dst (N := 7) rfl ?_); refine bytelit ?hg (N := 7) ?hd 23 5 (.tmp 6) ?ho ([97, 98, 99, 100, 101, 102] : List Int) _ ?hC ?hm ?hx Try.underlying23 Try.underlying5 ?_; (case hd => rfl); (case hg => rfl); (case ho => rfl); (case hC => rfl); (case hm => simp); (case hx => first | rfl | (simp; done) | (go_simp; done)); intro v1 w1 ho hb hg_ hnew_; clear hg_ hnew_; have HB1 := Aside0.mk hb; have HO1 := Aside0.mk ho; clear ho hb; obtain ⟨Ao1, co1, eo1⟩ := Kd.V_slice HO1.out; subst eo1) | (go_at_call 13; refine (source_Of.calls k Ao1 co1 [97, 98, 99, 100, 101, 102] l _ (Kd.V_reads' HO1.out).2.2 (Kd.V_reads' HO1.out).2.1 H1.out).mono ?_; rintro e w2 ⟨g, rfl, hI, hb⟩; have HI := Aside0.mk hI.img; have HB2 := Aside0.mk (below_step HB1.out hb); clear hI hb))
  have m2 := img_read ⟨g, 0, none⟩
  go_upto_region 5 with (go_at_call 67; refine (source_image_Read.calls k g [97, 98, 99, 100, 101, 102] l 1 2 [98, 99] 0 _ HI.out H2.out).mono ?_; rintro e w3 ⟨v, rfl, hR, hb⟩; have HR := Aside0.mk hR; have HB3 := Aside0.mk (below_step HB2.out hb); clear hR hb; obtain ⟨A, c, e3⟩ := Kd.R_slice HR.out; subst e3)
  have hcv := Kd.C_string (P := Try.prog) (A := A) (c := c) Try.underlying23 Try.underlying5 Try.underlying9 (Kd.R_reads' HR.out).2.2
  rw [show strOfNums [98, 99] = (⟨#[98, 99]⟩ : ByteArray) from by rfl] at hcv
  simp only [List.length_cons, List.length_nil, Nat.zero_add, Nat.reduceAdd] at hcv
  go_wp2
  go_ret
  exact ⟨by first | rfl | simp, HB3.out⟩

/-! ### wrackkeep1_spans: function 10 -/
def wrackkeep1_spans.f (k : Nat)  : Option (Bool) := (span_Norm.f k (([(⟨5, 3⟩ : S53), (⟨0, 5⟩ : S53)] : List (S53)))).bind fun t195 => (if (t195.length : Int) = 1 then (if 0 < (t195.length : Int) then (some (((rd_T53 t195 0).f0) == 0 && (((rd_T53 t195 0).f1) == 8))) else (none)) else (some false))
theorem wrackkeep1_spans.mono : ∀ k, LeO (wrackkeep1_spans.f k ) (wrackkeep1_spans.f (k + 1) ) := by
  intro  k
  unfold wrackkeep1_spans.f
  repeat' first
      | (with_reducible exact span_Norm.mono _ _)
      | (with_reducible exact LeO.refl _)
      | (with_reducible exact LeO.none _)
      | (with_reducible refine LeO.ite ?_ ?_)
      | (with_reducible refine LeO.bind ?_ (fun _ => ?_))
      | exact span_Norm.mono _ _
      | exact LeO.none _
      | refine LeO.ite ?_ ?_
      | refine LeO.bind ?_ (fun _ => ?_)
set_option maxHeartbeats 8000000 in
set_option maxRecDepth 100000 in
theorem wrackkeep1_spans.calls (k : Nat)  (r : Bool) (w : World) (h : wrackkeep1_spans.f k  = some r) :
    Calls Try.prog 10 #[] w fun e w' => e = .returned (.bool r) ∧ Below w.heap.size w w' := by
  have hu53 := Try.underlying53
  have HB := Aside0.mk (Below.refl w.heap.size w)
  have H : ((span_Norm.f k (([(⟨5, 3⟩ : S53), (⟨0, 5⟩ : S53)] : List (S53)))).bind fun t195 => (if (t195.length : Int) = 1 then (if 0 < (t195.length : Int) then (some (((rd_T53 t195 0).f0) == 0 && (((rd_T53 t195 0).f1) == 8))) else (none)) else (some false))) = some r := h
  clear h
  obtain ⟨y192, hy192⟩ : ∃ y_ : List (S53), y_ = (([(⟨5, 3⟩ : S53), (⟨0, 5⟩ : S53)] : List (S53))) := ⟨_, rfl⟩
  replace H : ((span_Norm.f k y192).bind fun t195 => (if (t195.length : Int) = 1 then (if 0 < (t195.length : Int) then (some (((rd_T53 t195 0).f0) == 0 && (((rd_T53 t195 0).f1) == 8))) else (none)) else (some false))) = some r := by first | (rw [hy192]; with_reducible exact H) | (have H2_ := (Option.bind_some _ _).symm.trans H; rw [hy192]; with_reducible exact H2_) | (have H2_ := (Option.bind_some _ _).symm.trans H; with_reducible exact H2_) | with_reducible exact H | (rw [hy192]; exact H) | exact H
  have Ny192 := Aside0.mk hy192
  clear hy192
  replace H := Option.bind_eq_some_iff.mp H
  obtain ⟨t195, A10, H⟩ := H
  replace H : (if (t195.length : Int) = 1 then (if 0 < (t195.length : Int) then (some (((rd_T53 t195 0).f0) == 0 && (((rd_T53 t195 0).f1) == 8))) else (none)) else (some false)) = some r := H
  have A1 := Aside0.mk A10
  clear A10
  by_cases c2 : (t195.length : Int) = 1
  · rw [if_pos c2] at H
    have c2b0 : ((t195.length : Int) == 1) = true := beq_iff_eq.mpr c2
    have c2b1 : ((t195.length : Int) != 1) = false := bne_eq_false_iff_eq.mpr c2
    clear c2
    by_cases c3 : 0 < (t195.length : Int)
    · rw [if_pos c3] at H
      have c3b0 : decide (0 < (t195.length : Int)) = true := decide_eq_true c3
      have c3b1 : decide (0 < t195.length) = true := decide_eq_true (by omega)
      clear c3
      obtain rfl := Option.some.inj H
      go_enter Try.func10, Try.ntmps10
      go_wp2_with (first | ((with_reducible refine gate_dst (N := 4) rfl ?_); refine Kd.R_lit k53 _ 53 ?hg (N := 4) ?hd (xs := ([(⟨5, 3⟩ : S53), (⟨0, 5⟩ : S53)] : List (S53))) (inner := [.int .i64 5, .int .i64 3, .int .i64 0, .int .i64 5]) (ok := fun _ => True) (okp := fun _ => True) ?hr ?hp (fun _ hk => hk) trivial (Below.refl _ _) (Nat.le_refl _) (by simp) ?_; (case hd => rfl); (case hg => rfl); (case hr => first | (go_simp; done) | (go_simp; rfl)); (case hp => exact (Reps.c2 (show Kd.M k53 _ _ _ (⟨5, 3⟩ : S53) [.int .i64 5, .int .i64 3] from (k53_mkM _ _ _ (⟨5, 3⟩ : S53) )) (Reps.c2 (show Kd.M k53 _ _ _ (⟨0, 5⟩ : S53) [.int .i64 0, .int .i64 5] from (k53_mkM _ _ _ (⟨0, 5⟩ : S53) )) (Reps.none _ _)))); intro v193 w4 ho5 hb hg_ hnew_; clear hg_ hnew_; (first | rw [← Ny192.out] at ho5 | (simp only [Int.reduceToNat] at ho5; rw [← Ny192.out] at ho5)); have n0_ := Aside0.mk (Kd.R_lower ho5 (below_size (by repeat (first | (with_reducible first | exact HB.out | apply below_alloc | apply pw_below_drewN | apply below_drew1) | exact HB.out)))); have n1_ := Aside0.mk (below_step (by repeat (first | (with_reducible first | exact HB.out | apply below_alloc | apply pw_below_drewN | apply below_drew1) | exact HB.out)) hb); clear HB; have HO194 := n0_; have HB := n1_; clear n0_ n1_; clear hb ho5; obtain ⟨Ao6, co6, eo6⟩ := Kd.R_slice HO194.out; subst eo6) | ((with_reducible refine gate_callee (f := 21) rfl ?_); refine goesL_ (some 5) rfl rfl Try.func21 (by kernel_rfl) rfl #[.slice Ao6 y192.length co6] rfl (by (try simp only [List.map_toArray, List.map_cons, List.map_nil]); first | done | rfl | (simp only [List.length_drop, List.length_take]; rfl)) ?_; (with_reducible refine (span_Norm.calls k _ _ y192 t195 _ ?side1 ?side2 A1.out).mono ?_); (case side1 => repeat (first | exact (Kd.R_reads' HO194.out).2.2 | (with_reducible refine Kd.C_alloc ?_ _) | (with_reducible refine Kd.C_drewN ?_ _) | (with_reducible refine Kd.C_drew ?_))); (case side2 => exact (Kd.R_reads' HO194.out).2.1); rintro e w7 ⟨v196, rfl, ho0, hb⟩; refine ⟨_, rfl, ?_⟩; have n0_ := Aside0.mk (Kd.R_elder' (by (with_reducible repeat (first | apply Kd.R_alloc | apply Kd.R_drewN | apply Kd.R_drew)); exact HO194.out) (Kd.R_base ho0) hb); have n1_ := Aside0.mk (Kd.R_lower (Kd.R_new' ho0 (Kd.R_lt (by (with_reducible repeat (first | apply Kd.R_alloc | apply Kd.R_drewN | apply Kd.R_drew)); exact HO194.out))) (below_size (by repeat (first | (with_reducible first | exact HB.out | apply below_alloc | apply pw_below_drewN | apply below_drew1) | exact HB.out)))); have n2_ := Aside0.mk (below_step (by repeat (first | (with_reducible first | exact HB.out | apply below_alloc | apply pw_below_drewN | apply below_drew1) | exact HB.out)) hb); clear HO194; clear HB; have HO194 := n0_; have HO197 := n1_; have HB := n2_; clear n0_ n1_ n2_; (try clear hb); (try clear hb2); (try clear hk); (try clear hi); (try clear ho0); obtain ⟨Ao8, co8, eo8⟩ := Kd.R_slice HO197.out; subst eo8; have p198 : 0 ≤ (0 : Int) := (by omega); have q198 : 0 < (t195.length : Int) := of_decide_eq_true (by first | (with_reducible assumption) | assumption); obtain ⟨ad198, e198, hx198_0, hx198_1⟩ := at_T53 (Kd.R_reads' HO197.out).2.2 0 p198 q198; cases e198; have qi198 : (0 < t195.length) = True := eq_true (by omega); (try rw [show ((0 : Int)).toNat = 0 from rfl] at hx198_0); (try rw [show 0 * 2 = 0 from rfl] at hx198_0); (try rw [Addr.add_zero'] at hx198_0); (try rw [show ((0 : Int)).toNat = 0 from rfl] at hx198_1); (try rw [show 0 * 2 = 0 from rfl] at hx198_1); (try rw [Addr.add_zero'] at hx198_1); replace p198 := eq_true p198; replace q198 := eq_true q198))
      go_ret
      exact ⟨by first | rfl | (simp [errW_none, errW_some] <;> rfl) | (simp [*, errW_none, errW_some] <;> rfl), by repeat (first | (with_reducible first | exact HB.out | apply below_alloc | apply pw_below_drewN | apply below_drew1) | exact HB.out)⟩
    · rw [if_neg c3] at H
      exact absurd H (by simp)
  · rw [if_neg c2] at H
    have c2b0 : ((t195.length : Int) == 1) = false := beq_eq_false_iff_ne.mpr c2
    have c2b1 : ((t195.length : Int) != 1) = true := bne_iff_ne.mpr c2
    obtain rfl := Option.some.inj H
    go_enter Try.func10, Try.ntmps10
    go_wp2_with (first | ((with_reducible refine gate_dst (N := 4) rfl ?_); refine Kd.R_lit k53 _ 53 ?hg (N := 4) ?hd (xs := ([(⟨5, 3⟩ : S53), (⟨0, 5⟩ : S53)] : List (S53))) (inner := [.int .i64 5, .int .i64 3, .int .i64 0, .int .i64 5]) (ok := fun _ => True) (okp := fun _ => True) ?hr ?hp (fun _ hk => hk) trivial (Below.refl _ _) (Nat.le_refl _) (by simp) ?_; (case hd => rfl); (case hg => rfl); (case hr => first | (go_simp; done) | (go_simp; rfl)); (case hp => exact (Reps.c2 (show Kd.M k53 _ _ _ (⟨5, 3⟩ : S53) [.int .i64 5, .int .i64 3] from (k53_mkM _ _ _ (⟨5, 3⟩ : S53) )) (Reps.c2 (show Kd.M k53 _ _ _ (⟨0, 5⟩ : S53) [.int .i64 0, .int .i64 5] from (k53_mkM _ _ _ (⟨0, 5⟩ : S53) )) (Reps.none _ _)))); intro v193 w9 ho10 hb hg_ hnew_; clear hg_ hnew_; (first | rw [← Ny192.out] at ho10 | (simp only [Int.reduceToNat] at ho10; rw [← Ny192.out] at ho10)); have n0_ := Aside0.mk (Kd.R_lower ho10 (below_size (by repeat (first | (with_reducible first | exact HB.out | apply below_alloc | apply pw_below_drewN | apply below_drew1) | exact HB.out)))); have n1_ := Aside0.mk (below_step (by repeat (first | (with_reducible first | exact HB.out | apply below_alloc | apply pw_below_drewN | apply below_drew1) | exact HB.out)) hb); clear HB; have HO194 := n0_; have HB := n1_; clear n0_ n1_; clear hb ho10; obtain ⟨Ao11, co11, eo11⟩ := Kd.R_slice HO194.out; subst eo11) | ((with_reducible refine gate_callee (f := 21) rfl ?_); refine goesL_ (some 5) rfl rfl Try.func21 (by kernel_rfl) rfl #[.slice Ao11 y192.length co11] rfl (by (try simp only [List.map_toArray, List.map_cons, List.map_nil]); first | done | rfl | (simp only [List.length_drop, List.length_take]; rfl)) ?_; (with_reducible refine (span_Norm.calls k _ _ y192 t195 _ ?side1 ?side2 A1.out).mono ?_); (case side1 => repeat (first | exact (Kd.R_reads' HO194.out).2.2 | (with_reducible refine Kd.C_alloc ?_ _) | (with_reducible refine Kd.C_drewN ?_ _) | (with_reducible refine Kd.C_drew ?_))); (case side2 => exact (Kd.R_reads' HO194.out).2.1); rintro e w12 ⟨v196, rfl, ho0, hb⟩; refine ⟨_, rfl, ?_⟩; have n0_ := Aside0.mk (Kd.R_elder' (by (with_reducible repeat (first | apply Kd.R_alloc | apply Kd.R_drewN | apply Kd.R_drew)); exact HO194.out) (Kd.R_base ho0) hb); have n1_ := Aside0.mk (Kd.R_lower (Kd.R_new' ho0 (Kd.R_lt (by (with_reducible repeat (first | apply Kd.R_alloc | apply Kd.R_drewN | apply Kd.R_drew)); exact HO194.out))) (below_size (by repeat (first | (with_reducible first | exact HB.out | apply below_alloc | apply pw_below_drewN | apply below_drew1) | exact HB.out)))); have n2_ := Aside0.mk (below_step (by repeat (first | (with_reducible first | exact HB.out | apply below_alloc | apply pw_below_drewN | apply below_drew1) | exact HB.out)) hb); clear HO194; clear HB; have HO194 := n0_; have HO197 := n1_; have HB := n2_; clear n0_ n1_ n2_; (try clear hb); (try clear hb2); (try clear hk); (try clear hi); (try clear ho0); obtain ⟨Ao13, co13, eo13⟩ := Kd.R_slice HO197.out; subst eo13))
    go_ret
    exact ⟨by first | rfl | (simp [errW_none, errW_some] <;> rfl) | (simp [*, errW_none, errW_some] <;> rfl), by repeat (first | (with_reducible first | exact HB.out | apply below_alloc | apply pw_below_drewN | apply below_drew1) | exact HB.out)⟩

/-! ### slices_Equal_byte_byte: function 16 -/
def slices_Equal_byte_byte.l0 : Nat → List Int → List Int → Int → Int → Option (Bool)
  | 0, _, _, _, _ => none
  | k + 1, x0, x1, x12, x13 => if x13 < x12 then (if 0 ≤ x13 then (if x13 < (x0.length : Int) then (if x13 < (x1.length : Int) then (if (rd x0 x13) = (rd x1 x13) then (slices_Equal_byte_byte.l0 k x0 x1 x12 (wrap64 (x13 + 1))) else (some false)) else (none)) else (none)) else (none)) else (some true)
def slices_Equal_byte_byte.f (k : Nat) (l0 : List Int) (l1 : List Int) : Option (Bool) := if (l0.length : Int) = (l1.length : Int) then (slices_Equal_byte_byte.l0 k l0 l1 (l0.length : Int) 0) else (some false)
theorem slices_Equal_byte_byte.mono_l : ∀ k, (∀ y0 y1 y2 y3, LeO (slices_Equal_byte_byte.l0 k y0 y1 y2 y3) (slices_Equal_byte_byte.l0 (k + 1) y0 y1 y2 y3))
  | 0 => fun _ _ _ _ r h => by simp [slices_Equal_byte_byte.l0] at h
  | k + 1 => by
    have ih0 := slices_Equal_byte_byte.mono_l k
    · intro y0 y1 y2 y3
      unfold slices_Equal_byte_byte.l0
      repeat' first
      | (with_reducible exact ih0 _ _ _ _)
      | (with_reducible exact LeO.refl _)
      | (with_reducible exact LeO.none _)
      | (with_reducible refine LeO.ite ?_ ?_)
      | (with_reducible refine LeO.bind ?_ (fun _ => ?_))
      | exact ih0 _ _ _ _
      | exact LeO.none _
      | refine LeO.ite ?_ ?_
      | refine LeO.bind ?_ (fun _ => ?_)
theorem slices_Equal_byte_byte.mono : ∀ a0 a1 k, LeO (slices_Equal_byte_byte.f k a0 a1) (slices_Equal_byte_byte.f (k + 1) a0 a1) := by
  intro a0 a1 k
  have ih0 := slices_Equal_byte_byte.mono_l k
  unfold slices_Equal_byte_byte.f
  repeat' first
      | (with_reducible exact ih0 _ _ _ _)
      | (with_reducible exact LeO.refl _)
      | (with_reducible exact LeO.none _)
      | (with_reducible refine LeO.ite ?_ ?_)
      | (with_reducible refine LeO.bind ?_ (fun _ => ?_))
      | exact ih0 _ _ _ _
      | exact LeO.none _
      | refine LeO.ite ?_ ?_
      | refine LeO.bind ?_ (fun _ => ?_)
set_option maxHeartbeats 8000000 in
set_option maxRecDepth 100000 in
theorem slices_Equal_byte_byte.calls (k : Nat) (A0 : Option Addr) (c0 : Nat) (l0 : List Int) (A1 : Option Addr) (c1 : Nat) (l1 : List Int) (r : Bool) (w : World) (hr0 : Kd.C (Kd.int .u8) w A0 l0.length l0) (hc0 : l0.length ≤ c0) (hr1 : Kd.C (Kd.int .u8) w A1 l1.length l1) (hc1 : l1.length ≤ c1) (h : slices_Equal_byte_byte.f k l0 l1 = some r) :
    Calls Try.prog 16 #[.slice A0 l0.length c0, .slice A1 l1.length c1] w fun e w' => e = .returned (.bool r) ∧ Drawn0 w w' := by
  have HR0 := Aside0.mk hr0
  have HC0 := Aside0.mk hc0
  clear hr0 hc0
  have HR1 := Aside0.mk hr1
  have HC1 := Aside0.mk hc1
  clear hr1 hc1
  have H : (if (l0.length : Int) = (l1.length : Int) then (slices_Equal_byte_byte.l0 k l0 l1 (l0.length : Int) 0) else (some false)) = some r := h
  clear h
  by_cases c3 : (l0.length : Int) = (l1.length : Int)
  · rw [if_pos c3] at H
    have c3b0 : ((l0.length : Int) == (l1.length : Int)) = true := beq_iff_eq.mpr c3
    have c3b1 : ((l0.length : Int) != (l1.length : Int)) = false := bne_eq_false_iff_eq.mpr c3
    have c3b2 : (l0.length == l1.length) = true := by first | simpa using c3 | (simp at c3 ⊢; omega)
    clear c3
    have H' := Aside0.mk H
    clear H
    go_enter Try.func16, Try.ntmps16
    go_wp2
    repeat (go_quiet (fail); try go_wp2)
    go_loopg [13] k (fun kq v13 w' => ∃ (x13_1 : Int), v13 = .int .i64 x13_1 ∧ Aside0 (slices_Equal_byte_byte.l0 kq l0 l1 (l0.length : Int) x13_1 = some r) ∧ Aside0 (kq ≤ k) ∧ Drawn0 w w')
    case atStart => exact ⟨(0), (by first | rfl | (simp; done) | (simp [*]; done)), H', ⟨Nat.le_refl _⟩, by repeat (first | exact Drawn0.refl _ | apply Drawn0.step)⟩
    case round =>
      clear H'
      try clear c1
      try clear p2
      try clear c3
      try clear c3b0
      try clear c3b1
      try clear c3b2
      obtain ⟨x13_1, rfl, HA, HK1, ⟨m1, rfl⟩⟩ := hrel
      cases gk with
      | zero => exact absurd HA.out (by simp [slices_Equal_byte_byte.l0])
      | succ k1 =>
        have H := HA.out
        clear HA
        simp only [slices_Equal_byte_byte.l0] at H
        by_cases c4 : x13_1 < (l0.length : Int)
        · rw [if_pos c4] at H
          have c4b0 : decide (x13_1 < (l0.length : Int)) = true := decide_eq_true c4
          clear c4
          by_cases c5 : 0 ≤ x13_1
          · rw [if_pos c5] at H
            have c5b0 : decide (0 ≤ x13_1) = true := decide_eq_true c5
            clear c5
            by_cases c6 : x13_1 < (l0.length : Int)
            · rw [if_pos c6] at H
              have c6b0 : decide (x13_1 < (l0.length : Int)) = true := decide_eq_true c6
              clear c6
              by_cases c7 : x13_1 < (l1.length : Int)
              · rw [if_pos c7] at H
                have c7b0 : decide (x13_1 < (l1.length : Int)) = true := decide_eq_true c7
                clear c7
                by_cases c8 : (rd l0 x13_1) = (rd l1 x13_1)
                · rw [if_pos c8] at H
                  have c8b0 : ((rd l0 x13_1) == (rd l1 x13_1)) = true := beq_iff_eq.mpr c8
                  have c8b1 : ((rd l0 x13_1) != (rd l1 x13_1)) = false := bne_eq_false_iff_eq.mpr c8
                  clear c8
                  have H' := Aside0.mk H
                  clear H
                  have p199 : 0 ≤ (x13_1 : Int) := of_decide_eq_true (by first | (with_reducible assumption) | assumption)
                  have q199 : x13_1 < (l0.length : Int) := of_decide_eq_true (by first | (with_reducible assumption) | assumption)
                  obtain ⟨ad199, e199, hx199_0⟩ := Kd.at_int HR0.out x13_1 p199 q199
                  cases e199
                  replace p199 := eq_true p199
                  replace q199 := eq_true q199
                  have p200 : 0 ≤ (x13_1 : Int) := of_decide_eq_true (by first | (with_reducible assumption) | assumption)
                  have q200 : x13_1 < (l1.length : Int) := of_decide_eq_true (by first | (with_reducible assumption) | assumption)
                  obtain ⟨ad200, e200, hx200_0⟩ := Kd.at_int HR1.out x13_1 p200 q200
                  cases e200
                  replace p200 := eq_true p200
                  replace q200 := eq_true q200
                  go_wp2
                  repeat (go_quiet (fail); try go_wp2)
                  go_roundg k1
                  case measure => have := HK1.out; omega
                  case rel => exact ⟨(wrap64 (x13_1 + 1)), (by first | rfl | (simp; done) | (simp [*]; done)), H', ⟨by have := HK1.out; omega⟩, by repeat (first | exact Drawn0.refl _ | apply Drawn0.step)⟩
                · rw [if_neg c8] at H
                  have c8b0 : ((rd l0 x13_1) == (rd l1 x13_1)) = false := beq_eq_false_iff_ne.mpr c8
                  have c8b1 : ((rd l0 x13_1) != (rd l1 x13_1)) = true := bne_iff_ne.mpr c8
                  obtain rfl := Option.some.inj H
                  have p199 : 0 ≤ (x13_1 : Int) := of_decide_eq_true (by first | (with_reducible assumption) | assumption)
                  have q199 : x13_1 < (l0.length : Int) := of_decide_eq_true (by first | (with_reducible assumption) | assumption)
                  obtain ⟨ad199, e199, hx199_0⟩ := Kd.at_int HR0.out x13_1 p199 q199
                  cases e199
                  replace p199 := eq_true p199
                  replace q199 := eq_true q199
                  have p200 : 0 ≤ (x13_1 : Int) := of_decide_eq_true (by first | (with_reducible assumption) | assumption)
                  have q200 : x13_1 < (l1.length : Int) := of_decide_eq_true (by first | (with_reducible assumption) | assumption)
                  obtain ⟨ad200, e200, hx200_0⟩ := Kd.at_int HR1.out x13_1 p200 q200
                  cases e200
                  replace p200 := eq_true p200
                  replace q200 := eq_true q200
                  go_wp2
                  repeat (go_quiet (fail); try go_wp2)
                  go_ret
                  exact ⟨by first | rfl | (simp; done) | (simp [*]; done), by repeat (first | exact Drawn0.refl _ | apply Drawn0.step)⟩
              · rw [if_neg c7] at H
                exact absurd H (by simp)
            · rw [if_neg c6] at H
              exact absurd H (by simp)
          · rw [if_neg c5] at H
            exact absurd H (by simp)
        · rw [if_neg c4] at H
          have c4b0 : decide (x13_1 < (l0.length : Int)) = false := decide_eq_false c4
          clear c4
          obtain rfl := Option.some.inj H
          go_wp2
          repeat (go_quiet (fail); try go_wp2)
          go_ret
          exact ⟨by first | rfl | (simp; done) | (simp [*]; done), by repeat (first | exact Drawn0.refl _ | apply Drawn0.step)⟩
  · rw [if_neg c3] at H
    have c3b0 : ((l0.length : Int) == (l1.length : Int)) = false := beq_eq_false_iff_ne.mpr c3
    have c3b1 : ((l0.length : Int) != (l1.length : Int)) = true := bne_iff_ne.mpr c3
    have c3b2 : (l0.length == l1.length) = false := by first | simpa using c3 | (simp at c3 ⊢; omega)
    obtain rfl := Option.some.inj H
    go_enter Try.func16, Try.ntmps16
    go_wp2
    repeat (go_quiet (fail); try go_wp2)
    go_ret
    exact ⟨by first | rfl | (simp; done) | (simp [*]; done), by repeat (first | exact Drawn0.refl _ | apply Drawn0.step)⟩

/-! ### api_Span_27: function 27 -/
def api_Span_27.f (l0 : List S53) : Option (List S53) := if l0.length ≤ 65536 then some l0 else none
set_option maxHeartbeats 2000000 in
set_option maxRecDepth 100000 in
theorem api_Span_27.calls (A0 : Option Addr) (c0 : Nat) (l0 : List S53) (r : List S53) (w : World) (hr0 : Kd.C k53 w A0 l0.length l0) (hc0 : l0.length ≤ c0) (h : api_Span_27.f l0 = some r) :
    Calls Try.prog 27 #[.slice A0 l0.length c0] w fun e w' => ∃ v0_ : Value, e = .returned (v0_) ∧ Kd.R k53 53 w' w.heap.size (fun _ => True) v0_ r ∧ Below w.heap.size w w' := by
  unfold api_Span_27.f at h
  split at h
  case isFalse => exact absurd h (by simp)
  case isTrue c1 =>
  obtain rfl := Option.some.inj h
  clear h
  have q1 : ∀ (w : World) (a : Option Addr) (n c n' c' : Nat), (binOp .eql 25 (.slice a n c) (.slice none n' c')).run Try.prog w = .ok (.bool a.isNone) w := fun w a n c n' c' => Go.Lib.run_eql_slice_nil w _ _ a n c n' c' Try.underlying25
  cases A0 with
  | none =>
    have h0 : l0.length = 0 := by
      rcases Nat.eq_zero_or_pos l0.length with h0 | h0
      · exact h0
      · obtain ⟨ad, h, _⟩ := hr0.2.2 h0
        cases h
    obtain rfl := List.eq_nil_of_length_eq_zero h0
    clear hr0 hc0 c1 h0
    go_enter Try.func27, Try.ntmps27
    go_wp2
    go_ret
    exact ⟨_, rfl, Kd.R_nil _ _ _ _ _, Below.refl _ _⟩
  | some ad =>
    have HR := Aside0.mk hr0
    have C1 := Aside0.mk (show (([] : List S53).length + l0.length) * 16 ≤ 140737488355328 from by simp only [List.length_nil]; omega)
    clear hr0 hc0 c1
    go_enter Try.func27, Try.ntmps27
    go_wp2_with (first | (at_builtin; refine Kd.R_append_rows k53 (w0 := w) w.heap.size rfl (.tmp 5) (.tmp 6) 25 53 (.agg #[(.int .i64 0), (.int .i64 0)]) 16 rfl Try.underlying25 info53 rfl (by decide) (by omega) (.slice (some ⟨w.heap.size, 0, none⟩) 0 0) [] l0 (some ad) _ _ (fun _ => True) (fun _ => False) rfl rfl ⟨fun _ _ => trivial, [], World.ownsRow_made w #[] 0 (Nat.le_refl _) (Nat.zero_le _) (by simp), Reps.none _ _⟩ (Kd.C_below HR.out (below_alloc (Below.refl _ _) _)) (fun _ _ h => h) (fun _ h => h.elim) (fun _ _ => trivial) (below_alloc (Below.refl _ _) _) (by simp) C1.out ?_; intro v1 w1 ho hb hg hat; clear hg hat; rw [List.nil_append] at ho; have HO := Aside0.mk ho; have HB := Aside0.mk hb; clear ho hb))
    go_ret
    exact ⟨_, rfl, HO.out, HB.out⟩

/-! ### source_image_Size: function 69 -/
def source_image_Size.f (b : List Int) : Option Int := some (b.length : Int)
theorem source_image_Size.calls (g : Nat) (b : List Int) (l : List S53) (w : World) (hI : IsImg w g b l) :
    Calls Try.prog 69 #[.pointer (some ⟨g, 0, none⟩)] w fun e w' => e = .returned (.int .i64 (b.length : Int)) ∧ w = w' := by
  obtain ⟨A, c, B, d, h1, h2, h3, h4, h5⟩ := hI
  have x0 : w.cell? ⟨g, 0, none⟩ = some (.slice A b.length c) := (blk_cell h1 0).trans rfl
  clear h1 h2 h3 h4 h5
  go_enter Try.func69, Try.ntmps69
  go_wp2
  go_ret
  exact ⟨rfl, rfl⟩

/-! ### source_pieces_Size: function 75 -/
theorem source_pieces_Size.calls (g : Nat) (u v : Value) (n : Int) (w : World) (h1 : w.heap[g]? = some (.cells #[u, v, .int .i64 n] 65 (0, 0))) :
    Calls Try.prog 75 #[.pointer (some ⟨g, 0, none⟩)] w fun e w' => e = .returned (.int .i64 n) ∧ w = w' := by
  have x0 : w.cell? ⟨g, 2, none⟩ = some (.int .i64 n) := (blk_cell h1 2).trans rfl
  clear h1
  go_enter Try.func75, Try.ntmps75
  go_wp2
  go_ret
  exact ⟨rfl, rfl⟩
theorem src_size : ∀ (s : Src) (g : Nat) (w : World), SrcAt w g s → Calls Try.prog s.fsize #[.pointer (some ⟨g, 0, none⟩)] w fun e w' => e = .returned (.int .i64 s.size) ∧ w = w'
  | .img b l, g, w, h => source_image_Size.calls g b l w h
  | .pcs s l n, g, w, ⟨g', B, d, h1, _, _, _⟩ => source_pieces_Size.calls g _ _ n w h1

/-! ### source_Pieces: function 17 -/
def source_Pieces.ok (n : Int) (l : List S53) : Bool := l.all fun s => decide (0 ≤ s.f0) && decide (0 ≤ s.f1) && decide (s.f0 + s.f1 ≤ n)
def lenS : List S53 → Int
  | [] => 0
  | x :: t => x.f1 + lenS t
/-- A source over parts of another one. -/
def source_Pieces.f (s : Src) (l : List S53) : Option Src := if l.length ≤ 4096 ∧ s.size ≤ 65536 ∧ source_Pieces.ok s.size l = true ∧ lenS l ≤ 65536 then some (.pcs s l (lenS l)) else none
theorem lenS_drop : ∀ (l : List S53) (j : Nat) (h : j < l.length), lenS (l.drop j) = l[j].f1 + lenS (l.drop (j + 1)) := fun l j h => by rw [List.drop_eq_getElem_cons h]; rfl
theorem lenS_pos (n : Int) : ∀ l : List S53, source_Pieces.ok n l = true → 0 ≤ lenS l
  | [], _ => Int.le_refl _
  | x :: t, h => by
    have h0 := List.all_eq_true.1 h
    have h1 := h0 x List.mem_cons_self
    simp only [Bool.and_eq_true, decide_eq_true_eq] at h1
    have h2 := lenS_pos n t (List.all_eq_true.2 fun y hy => h0 y (List.mem_cons_of_mem _ hy))
    show 0 ≤ x.f1 + lenS t
    omega
theorem lenS_app : ∀ a b : List S53, lenS (a ++ b) = lenS a + lenS b
  | [], b => by rw [List.nil_append]; show lenS b = 0 + lenS b; omega
  | x :: t, b => by
    show x.f1 + lenS (t ++ b) = x.f1 + lenS t + lenS b
    rw [lenS_app t b]; omega
theorem lenS_le (n : Int) (l : List S53) (h : source_Pieces.ok n l = true) (j : Nat) : lenS (l.drop j) ≤ lenS l := by
  have h1 := lenS_app (l.take j) (l.drop j)
  rw [List.take_append_drop] at h1
  have h2 := lenS_pos n (l.take j) (List.all_eq_true.2 fun y hy => List.all_eq_true.1 h y (List.mem_of_mem_take hy))
  omega
set_option maxHeartbeats 4000000 in
set_option maxRecDepth 100000 in
theorem source_Pieces.calls (s : Src) (g : Nat) (A1 : Option Addr) (c1 : Nat) (l : List S53) (r : Src) (w : World) (hI : SrcAt w g s) (hr1 : Kd.C k53 w A1 l.length l) (hc1 : l.length ≤ c1) (h : source_Pieces.f s l = some r) :
    Calls Try.prog 17 #[.iface s.ty (.pointer (some ⟨g, 0, none⟩)), .slice A1 l.length c1] w fun e w' => ∃ g', e = .returned (.tuple #[.iface 63 (.pointer (some ⟨g', 0, none⟩)), .int .i64 0]) ∧ SrcAt w' g' r ∧ Below w.heap.size w w' := by
  unfold source_Pieces.f at h
  split at h
  case isFalse => exact absurd h (by simp)
  case isTrue hh =>
  obtain ⟨q1, q2, q3, q4⟩ := hh
  obtain rfl := Option.some.inj h
  clear h
  have HI := Aside0.mk hI
  have H3 := Aside0.mk q3
  have HR1 := Aside0.mk hr1
  have HC1 := Aside0.mk hc1
  have HF := Aside0.mk (show api_Span_27.f l = some l from by unfold api_Span_27.f; rw [if_pos (by omega)])
  have HB : Aside0 (Below w.heap.size w w) := ⟨Below.refl _ _⟩
  have HT := Aside0.mk (lenS_pos s.size l q3)
  have HTD := Aside0.mk (fun j : Nat => lenS_pos s.size (l.drop j) (List.all_eq_true.2 fun y hy => List.all_eq_true.1 q3 y (List.mem_of_mem_drop hy)))
  have H4 := Aside0.mk q4
  have HLE := Aside0.mk (lenS_le s.size l q3)
  clear hI q3 hr1 hc1
  obtain ⟨z, hz⟩ : ∃ z, s.size = z := ⟨_, rfl⟩
  have HZ := Aside0.mk hz
  rw [hz] at H3 q2
  clear hz
  cases s with
  | img sb sl =>
    replace HI : Aside0 (SrcAt w g (.img sb sl)) := ⟨HI.out⟩
    show Calls Try.prog 17 #[.iface 55 (.pointer (some ⟨g, 0, none⟩)), .slice A1 l.length c1] _ _
    go_enter Try.func17, Try.ntmps17
    go_wp2
    go_loopw [14, 6] (fun i v6 wr => ∃ j : Nat, j ≤ l.length ∧ i = .int .i64 j ∧ v6 = .int .i64 (lenS l - lenS (l.drop j)) ∧ Aside0 (Below w.heap.size w wr)) (fun i _ _ => l.length - (intOf i).toNat)
    case atStart => exact ⟨0, Nat.zero_le _, rfl, by rw [List.drop_zero, Int.sub_self], HB⟩
    case round =>
      clear HB
      obtain ⟨j, hj, rfl, rfl, HBr⟩ := hrel
      by_cases hlt : j < l.length
      · obtain ⟨x, hxe⟩ : ∃ x, x = l[j] := ⟨_, rfl⟩
        obtain ⟨ad, e1, y0, y1⟩ := at_T53 HR1.out (j : Int) (by omega) (by omega)
        have hrd : rd_T53 l (j : Int) = x := by
          unfold rd_T53
          rw [Int.toNat_natCast, List.getD_eq_getElem?_getD, List.getElem?_eq_getElem hlt, hxe]
          rfl
        rw [hrd, Int.toNat_natCast] at y0 y1
        have hok := List.all_eq_true.1 H3.out x (by rw [hxe]; exact List.getElem_mem _)
        simp only [Bool.and_eq_true, decide_eq_true_eq] at hok
        obtain ⟨⟨o1, o2⟩, o3⟩ := hok
        have hs1 := lenS_drop l j hlt
        rw [← hxe] at hs1
        have hp1 := HTD.out (j + 1)
        have hp2 := HTD.out j
        have h4 := H4.out
        have h6 := HLE.out j
        have h5 := HT.out
        cases e1
        replace y0 := (HBr.out.cell (World.block_lt_of_cell? w _ y0)).trans y0
        replace y1 := (HBr.out.cell (World.block_lt_of_cell? w _ y1)).trans y1
        clear hxe hrd
        generalize x.f0 = f0 at *
        generalize x.f1 = f1 at *
        have hsum : lenS l - lenS (l.drop (j + 1)) = lenS l - lenS (l.drop j) + f1 := by omega
        rw [hs1] at hp2
        have HSUM := Aside0.mk hsum
        have hwi : source_within.f f0 f1 z = some true := by
          have e : wrap64 (z - f1) = z - f1 := by unfold wrap64; omega
          unfold source_within.f
          rw [if_pos (by omega), if_pos (by omega), if_pos (by omega), e]
          simp; omega
        have HW := Aside0.mk hwi
        have b1 : 0 ≤ lenS l - lenS (l.drop j) := by omega
        have b2 : lenS l - lenS (l.drop j) + f1 ≤ 65536 := by omega
        clear hwi hsum hs1 hp1 hp2 h4 h5 h6
        generalize lenS l - lenS (l.drop j) = S0 at *
        have HSr := Aside0.mk (SrcAt.below HBr.out HI.out)
        go_upto_region 7 with (first | ((with_reducible refine gate_dst (N := 8) rfl ?_); refine box_event ?hg (N := 8) ?hd (cs := #[.int .i64 0, .int .i64 0]) (t := 53) ?hr ?_; (case hd => rfl); (case hg => rfl); (case hr => first | (go_simp; done) | (go_simp; rfl)); intro gb hg w7 hbox hb; have BK7 := Aside0.mk hbox; have GE7 := Aside0.mk (show wr.heap.size ≤ gb from by rw [hg]; exact Nat.le_refl _); have HS7 := Aside0.mk hb; clear hb hbox hg; have z0 : w7.cell? ⟨gb, 0, none⟩ = some (.int .i64 0) := (blk_cell BK7.out 0).trans rfl; have z1 : w7.cell? ⟨gb, 1, none⟩ = some (.int .i64 0) := (blk_cell BK7.out 1).trans rfl; have fz0 := blk_frozen BK7.out 0; have fz1 := blk_frozen BK7.out 1))
        have BK8 : ((w7.setCell ⟨gb, 0, none⟩ (.int .i64 f0)).setCell ⟨gb, 1, none⟩ (.int .i64 f1)).heap[gb]? = some (.cells #[.int .i64 f0, .int .i64 f1] 53 (0, 0)) := blk_put (cs := #[.int .i64 f0, .int .i64 0]) (blk_put (cs := #[.int .i64 0, .int .i64 0]) BK7.out 0 _ rfl) 1 _ rfl
        have HS8 : Below wr.heap.size wr ((w7.setCell ⟨gb, 0, none⟩ (.int .i64 f0)).setCell ⟨gb, 1, none⟩ (.int .i64 f1)) := below_set (below_set HS7.out GE7.out) GE7.out
        clear z0 z1 fz0 fz1 BK7 GE7 HS7 y0 y1
        generalize (w7.setCell ⟨gb, 0, none⟩ (.int .i64 f0)).setCell ⟨gb, 1, none⟩ (.int .i64 f1) = W8 at BK8 HS8 ⊢
        have y0 : W8.cell? ⟨gb, 0, none⟩ = some (.int .i64 f0) := (blk_cell BK8 0).trans rfl
        have y1 : W8.cell? ⟨gb, 1, none⟩ = some (.int .i64 f1) := (blk_cell BK8 1).trans rfl
        have HB8 := Aside0.mk (below_step HBr.out HS8)
        have HS8' := Aside0.mk HS8
        clear BK8 HS8
        have m1 := img_size ⟨g, 0, none⟩
        have SZ : Aside0 (∀ m : Nat, Calls Try.prog 69 #[.pointer (some ⟨g, 0, none⟩)] (W8.drewN m) fun e w' => e = .returned (.int .i64 z) ∧ w' = W8.drewN m) := ⟨fun m => (src_size (.img sb sl) g _ (SrcAt.below (pw_below_drewN HS8'.out m) HSr.out)).mono fun _ _ ⟨h1, h2⟩ => ⟨by rw [← HZ.out]; exact h1, h2.symm⟩⟩
        clear HSr
        go_quiet ((first | (go_at_call 69; exact Calls.quiet_of_same (SZ.out _)) | (go_at_call 26; exact Calls.quiet_of ((source_within.calls f0 f1 z true _ HW.out).mono fun _ _ ⟨h1, n, h2⟩ => ⟨h1, n, by first | exact h2 | exact h2.symm⟩))))
        replace y1 : (W8.drewN nq).cell? ⟨gb, 1, none⟩ = some (.int .i64 f1) := y1
        go_wp2
        go_roundw
        case rel => exact ⟨j + 1, by omega, by go_num, by rw [HSUM.out], ⟨by repeat (first | (with_reducible first | exact HB8.out | apply below_alloc | apply pw_below_drewN | apply below_drew1) | exact HB8.out)⟩⟩
        case measure => simp [intOf]; omega
      · have e0 : lenS (l.drop j) = 0 := by rw [List.drop_of_length_le (by omega)]; rfl
        have e1 : lenS l - lenS (l.drop j) = lenS l := by rw [e0]; omega
        rw [e1]
        have hp := HT.out
        clear e0 e1
        generalize hN : lenS l = N0 at *
        have HN := Aside0.mk hN
        clear hN
        have t1 : decide (N0 > 65536) = false := decide_eq_false (by omega)
        have t2 : decide (65536 < N0) = false := decide_eq_false (by omega)
        go_wp2_with (first | (go_at_call 27; refine (api_Span_27.calls A1 c1 l l _ (Kd.C_below HR1.out HBr.out) HC1.out HF.out).mono ?_; rintro e w2 ⟨v2, rfl, hR, hb⟩; have HR2 := Aside0.mk hR; have HS2 := Aside0.mk hb; have HB2 := Aside0.mk (below_step HBr.out hb); clear hR hb; obtain ⟨A2, c2, e2⟩ := Kd.R_slice HR2.out; subst e2) | ((with_reducible refine gate_dst (N := 38) rfl ?_); refine box_event ?hg (N := 38) ?hd (cs := #[.iface 55 (.pointer (some ⟨g, 0, none⟩)), .slice A2 l.length c2, .int .i64 N0]) (t := 65) ?hr ?_; (case hd => rfl); (case hg => rfl); (case hr => first | (go_simp; done) | (go_simp; rfl)); intro gb hg w7 hbox hb; have HB7 := Aside0.mk (below_step HB2.out hb); have HS7 := Aside0.mk hb; have BK7 := Aside0.mk hbox; clear hb hbox hg))
        go_ret2
        exact ⟨gb, rfl, ⟨g, A2, c2, (by rw [HN.out]; exact BK7.out), Kd.C_below (Kd.R_reads' HR2.out).2.2 HS7.out, (Kd.R_reads' HR2.out).2.1, SrcAt.below HS7.out (SrcAt.below HS2.out (SrcAt.below HBr.out HI.out))⟩, HB7.out⟩
  | pcs s2 l2 n2 =>
    replace HI : Aside0 (SrcAt w g (.pcs s2 l2 n2)) := ⟨HI.out⟩
    show Calls Try.prog 17 #[.iface 63 (.pointer (some ⟨g, 0, none⟩)), .slice A1 l.length c1] _ _
    go_enter Try.func17, Try.ntmps17
    go_wp2
    go_loopw [14, 6] (fun i v6 wr => ∃ j : Nat, j ≤ l.length ∧ i = .int .i64 j ∧ v6 = .int .i64 (lenS l - lenS (l.drop j)) ∧ Aside0 (Below w.heap.size w wr)) (fun i _ _ => l.length - (intOf i).toNat)
    case atStart => exact ⟨0, Nat.zero_le _, rfl, by rw [List.drop_zero, Int.sub_self], HB⟩
    case round =>
      clear HB
      obtain ⟨j, hj, rfl, rfl, HBr⟩ := hrel
      by_cases hlt : j < l.length
      · obtain ⟨x, hxe⟩ : ∃ x, x = l[j] := ⟨_, rfl⟩
        obtain ⟨ad, e1, y0, y1⟩ := at_T53 HR1.out (j : Int) (by omega) (by omega)
        have hrd : rd_T53 l (j : Int) = x := by
          unfold rd_T53
          rw [Int.toNat_natCast, List.getD_eq_getElem?_getD, List.getElem?_eq_getElem hlt, hxe]
          rfl
        rw [hrd, Int.toNat_natCast] at y0 y1
        have hok := List.all_eq_true.1 H3.out x (by rw [hxe]; exact List.getElem_mem _)
        simp only [Bool.and_eq_true, decide_eq_true_eq] at hok
        obtain ⟨⟨o1, o2⟩, o3⟩ := hok
        have hs1 := lenS_drop l j hlt
        rw [← hxe] at hs1
        have hp1 := HTD.out (j + 1)
        have hp2 := HTD.out j
        have h4 := H4.out
        have h6 := HLE.out j
        have h5 := HT.out
        cases e1
        replace y0 := (HBr.out.cell (World.block_lt_of_cell? w _ y0)).trans y0
        replace y1 := (HBr.out.cell (World.block_lt_of_cell? w _ y1)).trans y1
        clear hxe hrd
        generalize x.f0 = f0 at *
        generalize x.f1 = f1 at *
        have hsum : lenS l - lenS (l.drop (j + 1)) = lenS l - lenS (l.drop j) + f1 := by omega
        rw [hs1] at hp2
        have HSUM := Aside0.mk hsum
        have hwi : source_within.f f0 f1 z = some true := by
          have e : wrap64 (z - f1) = z - f1 := by unfold wrap64; omega
          unfold source_within.f
          rw [if_pos (by omega), if_pos (by omega), if_pos (by omega), e]
          simp; omega
        have HW := Aside0.mk hwi
        have b1 : 0 ≤ lenS l - lenS (l.drop j) := by omega
        have b2 : lenS l - lenS (l.drop j) + f1 ≤ 65536 := by omega
        clear hwi hsum hs1 hp1 hp2 h4 h5 h6
        generalize lenS l - lenS (l.drop j) = S0 at *
        have HSr := Aside0.mk (SrcAt.below HBr.out HI.out)
        go_upto_region 7 with (first | ((with_reducible refine gate_dst (N := 8) rfl ?_); refine box_event ?hg (N := 8) ?hd (cs := #[.int .i64 0, .int .i64 0]) (t := 53) ?hr ?_; (case hd => rfl); (case hg => rfl); (case hr => first | (go_simp; done) | (go_simp; rfl)); intro gb hg w7 hbox hb; have BK7 := Aside0.mk hbox; have GE7 := Aside0.mk (show wr.heap.size ≤ gb from by rw [hg]; exact Nat.le_refl _); have HS7 := Aside0.mk hb; clear hb hbox hg; have z0 : w7.cell? ⟨gb, 0, none⟩ = some (.int .i64 0) := (blk_cell BK7.out 0).trans rfl; have z1 : w7.cell? ⟨gb, 1, none⟩ = some (.int .i64 0) := (blk_cell BK7.out 1).trans rfl; have fz0 := blk_frozen BK7.out 0; have fz1 := blk_frozen BK7.out 1))
        have BK8 : ((w7.setCell ⟨gb, 0, none⟩ (.int .i64 f0)).setCell ⟨gb, 1, none⟩ (.int .i64 f1)).heap[gb]? = some (.cells #[.int .i64 f0, .int .i64 f1] 53 (0, 0)) := blk_put (cs := #[.int .i64 f0, .int .i64 0]) (blk_put (cs := #[.int .i64 0, .int .i64 0]) BK7.out 0 _ rfl) 1 _ rfl
        have HS8 : Below wr.heap.size wr ((w7.setCell ⟨gb, 0, none⟩ (.int .i64 f0)).setCell ⟨gb, 1, none⟩ (.int .i64 f1)) := below_set (below_set HS7.out GE7.out) GE7.out
        clear z0 z1 fz0 fz1 BK7 GE7 HS7 y0 y1
        generalize (w7.setCell ⟨gb, 0, none⟩ (.int .i64 f0)).setCell ⟨gb, 1, none⟩ (.int .i64 f1) = W8 at BK8 HS8 ⊢
        have y0 : W8.cell? ⟨gb, 0, none⟩ = some (.int .i64 f0) := (blk_cell BK8 0).trans rfl
        have y1 : W8.cell? ⟨gb, 1, none⟩ = some (.int .i64 f1) := (blk_cell BK8 1).trans rfl
        have HB8 := Aside0.mk (below_step HBr.out HS8)
        have HS8' := Aside0.mk HS8
        clear BK8 HS8
        have m1 := pcs_size ⟨g, 0, none⟩
        have SZ : Aside0 (∀ m : Nat, Calls Try.prog 75 #[.pointer (some ⟨g, 0, none⟩)] (W8.drewN m) fun e w' => e = .returned (.int .i64 z) ∧ w' = W8.drewN m) := ⟨fun m => (src_size (.pcs s2 l2 n2) g _ (SrcAt.below (pw_below_drewN HS8'.out m) HSr.out)).mono fun _ _ ⟨h1, h2⟩ => ⟨by rw [← HZ.out]; exact h1, h2.symm⟩⟩
        clear HSr
        go_quiet ((first | (go_at_call 75; exact Calls.quiet_of_same (SZ.out _)) | (go_at_call 26; exact Calls.quiet_of ((source_within.calls f0 f1 z true _ HW.out).mono fun _ _ ⟨h1, n, h2⟩ => ⟨h1, n, by first | exact h2 | exact h2.symm⟩))))
        replace y1 : (W8.drewN nq).cell? ⟨gb, 1, none⟩ = some (.int .i64 f1) := y1
        go_wp2
        go_roundw
        case rel => exact ⟨j + 1, by omega, by go_num, by rw [HSUM.out], ⟨by repeat (first | (with_reducible first | exact HB8.out | apply below_alloc | apply pw_below_drewN | apply below_drew1) | exact HB8.out)⟩⟩
        case measure => simp [intOf]; omega
      · have e0 : lenS (l.drop j) = 0 := by rw [List.drop_of_length_le (by omega)]; rfl
        have e1 : lenS l - lenS (l.drop j) = lenS l := by rw [e0]; omega
        rw [e1]
        have hp := HT.out
        clear e0 e1
        generalize hN : lenS l = N0 at *
        have HN := Aside0.mk hN
        clear hN
        have t1 : decide (N0 > 65536) = false := decide_eq_false (by omega)
        have t2 : decide (65536 < N0) = false := decide_eq_false (by omega)
        go_wp2_with (first | (go_at_call 27; refine (api_Span_27.calls A1 c1 l l _ (Kd.C_below HR1.out HBr.out) HC1.out HF.out).mono ?_; rintro e w2 ⟨v2, rfl, hR, hb⟩; have HR2 := Aside0.mk hR; have HS2 := Aside0.mk hb; have HB2 := Aside0.mk (below_step HBr.out hb); clear hR hb; obtain ⟨A2, c2, e2⟩ := Kd.R_slice HR2.out; subst e2) | ((with_reducible refine gate_dst (N := 38) rfl ?_); refine box_event ?hg (N := 38) ?hd (cs := #[.iface 63 (.pointer (some ⟨g, 0, none⟩)), .slice A2 l.length c2, .int .i64 N0]) (t := 65) ?hr ?_; (case hd => rfl); (case hg => rfl); (case hr => first | (go_simp; done) | (go_simp; rfl)); intro gb hg w7 hbox hb; have HB7 := Aside0.mk (below_step HB2.out hb); have HS7 := Aside0.mk hb; have BK7 := Aside0.mk hbox; clear hb hbox hg))
        go_ret2
        exact ⟨gb, rfl, ⟨g, A2, c2, (by rw [HN.out]; exact BK7.out), Kd.C_below (Kd.R_reads' HR2.out).2.2 HS7.out, (Kd.R_reads' HR2.out).2.1, SrcAt.below HS7.out (SrcAt.below HS2.out (SrcAt.below HBr.out HI.out))⟩, HB7.out⟩

/-! ### source_image_Plain: function 66 -/
theorem source_image_Plain.calls (g : Nat) (w : World) : Calls Try.prog 66 #[.pointer (some ⟨g, 0, none⟩)] w fun e w' => e = .returned (.bool true) ∧ w = w' := by
  go_enter Try.func66, Try.ntmps66
  go_wp2
  go_ret
  exact ⟨rfl, rfl⟩

/-! ### source_pieces_Plain: function 72 -/
theorem src_plain : ∀ (s : Src) (g : Nat) (w : World), SrcAt w g s → Calls Try.prog s.fplain #[.pointer (some ⟨g, 0, none⟩)] w fun e w' => e = .returned (.bool true) ∧ w = w' := by
  intro s
  induction s with
  | img b l => exact fun g w _ => source_image_Plain.calls g w
  | pcs s l n ih =>
    intro g w ⟨g', B, d, h1, _, _, h4⟩
    show Calls Try.prog 72 _ _ _
    have IH := Aside0.mk (ih g' w h4)
    have x0 : w.cell? ⟨g, 0, none⟩ = some (.iface s.ty (.pointer (some ⟨g', 0, none⟩))) := (blk_cell h1 0).trans rfl
    clear h1 h4 ih
    cases s with
    | img b l =>
      have IH' : Aside0 (Calls Try.prog 66 #[.pointer (some ⟨g', 0, none⟩)] w fun e w' => e = .returned (.bool true) ∧ w = w') := ⟨IH.out⟩
      replace x0 : w.cell? ⟨g, 0, none⟩ = some (.iface 55 (.pointer (some ⟨g', 0, none⟩))) := x0
      have m1 := img_plain ⟨g', 0, none⟩
      clear IH
      go_enter Try.func72, Try.ntmps72
      go_wp2_with (go_at_call 66; refine IH'.out.mono ?_; rintro e w1 ⟨rfl, rfl⟩)
      go_ret
      exact ⟨rfl, rfl⟩
    | pcs s l n =>
      have IH' : Aside0 (Calls Try.prog 72 #[.pointer (some ⟨g', 0, none⟩)] w fun e w' => e = .returned (.bool true) ∧ w = w') := ⟨IH.out⟩
      replace x0 : w.cell? ⟨g, 0, none⟩ = some (.iface 63 (.pointer (some ⟨g', 0, none⟩))) := x0
      have m1 := pcs_plain ⟨g', 0, none⟩
      clear IH
      go_enter Try.func72, Try.ntmps72
      go_wp2_with (go_at_call 72; refine IH'.out.mono ?_; rintro e w1 ⟨rfl, rfl⟩)
      go_ret
      exact ⟨rfl, rfl⟩

end Go.Proofs.Ytoanpgeijokgpaa.PSourceRoads
