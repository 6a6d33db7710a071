-- written by prn.py, a program of this session, over the kit's printer
import Derived.Test.YtoanpgeijokgpaaPSourceBadx0
import Derived.Test.YtoanpgeijokgpaaPSourceBadx1
import Derived.Test.YtoanpgeijokgpaaPSourceBadx2
import Derived.Test.YtoanpgeijokgpaaPSourceBadx3
import Derived.Test.YtoanpgeijokgpaaPSourceBadx4
import Derived.Test.YtoanpgeijokgpaaPSourceBadx5
import Derived.Test.YtoanpgeijokgpaaPSourceBadx6
namespace Go.Proofs.Ytoanpgeijokgpaa.PSourceBad
open Go.RowKit Go.Proofs.YtoanpgeijokgpaaW.PrintWords Go.Proofs.YtoanpgeijokgpaaW.PrintLast Go.Proofs.YtoanpgeijokgpaaW.PrintMore Go.Proofs.YtoanpgeijokgpaaW.PrintMine
attribute [local go_sem] max2_int min2_int max_two min_two max_three min_three max_four min_four   -- for this text's walks alone
set_option linter.unusedVariables false
set_option linter.unusedSimpArgs false

attribute [local go_sem high] eqA53
/-! ### source_image_Read: function 67 -/
def source_image_Read.f (k : Nat) (b : List Int) (l : List S53) (off n : Int) : Option (List Int × Int) := if 0 ≤ off ∧ 0 ≤ n ∧ n ≤ (b.length : Int) ∧ off ≤ (b.length : Int) - n ∧ b.length ≤ 65536 then
  (span_Meet.f k l [⟨off, n⟩]).bind fun m => if m.length = 0 then some ((b.drop off.toNat).take n.toNat, 0) else some ([], 19) else none
set_option maxHeartbeats 2000000 in
set_option maxRecDepth 100000 in
theorem source_image_Read.calls (k : Nat) (g : Nat) (b : List Int) (l : List S53) (off n : Int) (r1 : List Int) (r2 : Int) (w : World) (hI : IsImg w g b l) (h : source_image_Read.f k b l off n = some (r1, r2)) :
    Calls Try.prog 67 #[.pointer (some ⟨g, 0, none⟩), .int .i64 off, .int .i64 n] w fun e w' => ∃ v0_ : Value, e = .returned (.tuple #[v0_, .int .i64 r2]) ∧ Kd.R (Kd.int .u8) 5 w' w.heap.size (fun _ => True) v0_ r1 ∧ Below w.heap.size w w' := by
  unfold source_image_Read.f at h
  split at h
  case isFalse => exact absurd h (by simp)
  case isTrue hh =>
  obtain ⟨q1, q2, q3, q4, q5⟩ := hh
  obtain ⟨m, hm, h⟩ := Option.bind_eq_some_iff.mp h
  obtain ⟨A, c, B, d, h1, h2, h3, h4, h5⟩ := hI
  have HI := Aside0.mk h1
  have HA := Aside0.mk h2
  have HC := Aside0.mk h3
  have HB := Aside0.mk h4
  have HD := Aside0.mk h5
  have HM := Aside0.mk hm
  have hwi : source_within.f off n (b.length : Int) = some true := by
    have e : wrap64 ((b.length : Int) - n) = (b.length : Int) - n := by unfold wrap64; omega
    unfold source_within.f
    rw [if_pos (by omega), if_pos (by omega), if_pos (by omega), e]
    simp; omega
  have HW := Aside0.mk hwi
  have x0 : w.cell? ⟨g, 0, none⟩ = some (.slice A b.length c) := (blk_cell h1 0).trans rfl
  have x1 : w.cell? ⟨g, 1, none⟩ = some (.slice B l.length d) := (blk_cell h1 1).trans rfl
  clear h1 h2 h3 h4 h5 hm hwi
  by_cases hl : m.length = 0
  · rw [if_pos hl] at h
    obtain ⟨rfl, rfl⟩ := Prod.mk.inj (Option.some.inj h)
    clear h
    obtain ⟨i0, hi0, _, hsz, _⟩ := info_parts info5
    have hc1 := cut_mid (P := Try.prog) 23 5 .i64 .i64 Try.underlying23 hi0 1 hsz A b.length c off (off + n) q1 (by omega) (by omega) HC.out
    obtain ⟨r1, hr⟩ : ∃ r, r = (b.drop off.toNat).take n.toNat := ⟨_, rfl⟩
    rw [← hr]
    have hlen : (off + n).toNat - off.toNat = r1.length := by rw [hr, List.length_take, List.length_drop]; omega
    rw [hlen] at hc1
    have HR1 := Aside0.mk hr
    have HLEN := Aside0.mk (show r1.length ≤ 65536 from by rw [hr, List.length_take, List.length_drop]; omega)
    have HCC := Aside0.mk (show r1.length ≤ c - off.toNat from by have := HC.out; rw [hr, List.length_take, List.length_drop]; omega)
    have HROW := Aside0.mk (show Kd.C (Kd.int .u8) w (if c = off.toNat then A else A.map (·.add (off.toNat * 1))) r1.length r1 from by
      have h1 := Kd.C_drop HA.out (m := off.toNat) (c := c) (by omega) HC.out
      have h2 := Kd.C_take (m := n.toNat) h1 (by rw [List.length_drop]; omega)
      rw [← hr] at h2
      exact h2)
    generalize (if c = off.toNat then A else A.map (·.add (off.toNat * 1))) = AC at hc1 HROW
    have HF := Aside0.mk (show slices_Clone_byte_byte.f r1 = some r1 from by unfold slices_Clone_byte_byte.f; rw [if_pos (by have := HLEN.out; omega)])
    clear hr hlen hi0 hsz
    go_enter Try.func67, Try.ntmps67
    go_upto_region 3 with (go_at_call 26; refine (source_within.calls off n _ true _ HW.out).mono ?_; rintro e w1 ⟨rfl, nd, rfl⟩)
    have HB1 : Aside0 (Below w.heap.size w (w.drewN nd)) := ⟨pw_below_drewN (Below.refl _ _) _⟩
    generalize w.drewN nd = W at HB1 ⊢
    have HBB := Aside0.mk (Kd.C_below HB.out HB1.out)
    have y1 : W.cell? ⟨g, 1, none⟩ = some (.slice B l.length d) := (HB1.out.cell (World.block_lt_of_cell? w _ x1)).trans x1
    have y0 : W.cell? ⟨g, 0, none⟩ = some (.slice A b.length c) := (HB1.out.cell (World.block_lt_of_cell? w _ x0)).trans x0
    have X0 := Aside0.mk x0
    clear x0 x1
    have t1 : decide ((m.length : Int) > 0) = false := decide_eq_false (by omega)
    have t2 : decide (0 < m.length) = false := decide_eq_false (by omega)
    go_upto_region 5 with (go_at_call 70; refine (span_Meet.calls k B d l (some ⟨W.heap.size, 0, none⟩) 1 [⟨off, n⟩] m _ (Kd.C_below HBB.out (below_alloc (Below.refl _ _) _)) HD.out (one53 W off n _) (Nat.le_refl 1) HM.out).mono ?_; rintro e w2 ⟨v2, rfl, hR, hb⟩; have HR2 := Aside0.mk hR; have HB2 := Aside0.mk (below_step (below_alloc HB1.out _) hb); clear hR hb; obtain ⟨Am, cm, em⟩ := Kd.R_slice HR2.out; subst em)
    have z0 : w2.cell? ⟨g, 0, none⟩ = some (.slice A b.length c) := (HB2.out.cell (World.block_lt_of_cell? w _ X0.out)).trans X0.out
    have HROW2 := Aside0.mk (Kd.C_below HROW.out HB2.out)
    clear y0 y1 t1 t2
    go_wp2_with (go_at_call 14; refine (slices_Clone_byte_byte.calls _ _ r1 r1 _ HROW2.out HCC.out HF.out).mono ?_; rintro e w3 ⟨v3, rfl, hR, hb⟩; have HR3 := Aside0.mk hR; have HB3 := Aside0.mk (below_step HB2.out hb); have HS3 := Aside0.mk hb; clear hR hb; obtain ⟨Ar, cr, er⟩ := Kd.R_slice HR3.out; subst er)
    go_ret2
    exact ⟨_, rfl, Kd.R_lower HR3.out (below_size HB2.out), HB3.out⟩
  · rw [if_neg hl] at h
    obtain ⟨rfl, rfl⟩ := Prod.mk.inj (Option.some.inj h)
    clear h
    go_enter Try.func67, Try.ntmps67
    go_upto_region 3 with (go_at_call 26; refine (source_within.calls off n _ true _ HW.out).mono ?_; rintro e w1 ⟨rfl, nd, rfl⟩)
    have HB1 : Aside0 (Below w.heap.size w (w.drewN nd)) := ⟨pw_below_drewN (Below.refl _ _) _⟩
    generalize w.drewN nd = W at HB1 ⊢
    have HBB := Aside0.mk (Kd.C_below HB.out HB1.out)
    have y1 : W.cell? ⟨g, 1, none⟩ = some (.slice B l.length d) := (HB1.out.cell (World.block_lt_of_cell? w _ x1)).trans x1
    have y0 : W.cell? ⟨g, 0, none⟩ = some (.slice A b.length c) := (HB1.out.cell (World.block_lt_of_cell? w _ x0)).trans x0
    clear x0 x1
    have t1 : decide ((m.length : Int) > 0) = true := decide_eq_true (by omega)
    have t2 : decide (0 < m.length) = true := decide_eq_true (by omega)
    go_upto_region 4 with (go_at_call 70; refine (span_Meet.calls k B d l (some ⟨W.heap.size, 0, none⟩) 1 [⟨off, n⟩] m _ (Kd.C_below HBB.out (below_alloc (Below.refl _ _) _)) HD.out (one53 W off n _) (Nat.le_refl 1) HM.out).mono ?_; rintro e w2 ⟨v2, rfl, hR, hb⟩; have HR2 := Aside0.mk hR; have HB2 := Aside0.mk (below_step (below_alloc HB1.out _) hb); clear hR hb; obtain ⟨Am, cm, em⟩ := Kd.R_slice HR2.out; subst em)
    go_wp2
    go_ret2
    exact ⟨_, rfl, Kd.R_nil _ _ _ _ _, HB2.out⟩

/-! ### wrackkeep1_sources: function 9 -/
def wrackkeep1_sources.f (k : Nat) : Option Bool := (source_Of.f k [97, 98, 99, 100, 101, 102]).bind fun r => (source_image_Read.f k [97, 98, 99, 100, 101, 102] r 1 2).bind fun x => if x.1 = [98, 99] ∧ x.2 = 0 then some true else none
set_option maxHeartbeats 2000000 in
set_option maxRecDepth 100000 in
theorem wrackkeep1_sources.calls (k : Nat) (r : Bool) (w : World) (h : wrackkeep1_sources.f k = some r) :
    Calls Try.prog 9 #[] w fun e w' => e = .returned (.bool r) ∧ Below w.heap.size w w' := by
  unfold wrackkeep1_sources.f at h
  obtain ⟨l, h1, h⟩ := Option.bind_eq_some_iff.mp h
  obtain ⟨⟨x, y⟩, h2, h⟩ := Option.bind_eq_some_iff.mp h
  simp only at h
  split at h
  case isFalse => exact absurd h (by simp)
  case isTrue hh =>
  obtain rfl := Option.some.inj h
  obtain ⟨rfl, rfl⟩ := hh
  have H1 := Aside0.mk h1
  have H2 := Aside0.mk h2
  clear h1 h2 h
  go_enter Try.func9, Try.ntmps9
  go_upto_region 4 with (first | ((with_reducible refine gate_dst (N := 7) rfl ?_); refine bytelit ?hg (N := 7) ?hd 23 5 (.tmp 6) ?ho ([97, 98, 99, 100, 101, 102] : List Int) _ ?hC ?hm ?hx Try.underlying23 Try.underlying5 ?_; (case hd => rfl); (case hg => rfl); (case ho => rfl); (case hC => rfl); (case hm => simp); (case hx => first | rfl | (simp; done) | (go_simp; done)); intro v1 w1 ho hb hg_ hnew_; clear hg_ hnew_; have HB1 := Aside0.mk hb; have HO1 := Aside0.mk ho; clear ho hb; obtain ⟨Ao1, co1, eo1⟩ := Kd.V_slice HO1.out; subst eo1) | (go_at_call 13; refine (source_Of.calls k Ao1 co1 [97, 98, 99, 100, 101, 102] l _ (Kd.V_reads' HO1.out).2.2 (Kd.V_reads' HO1.out).2.1 H1.out).mono ?_; rintro e w2 ⟨g, rfl, hI, hb⟩; have HI := Aside0.mk hI; have HB2 := Aside0.mk (below_step HB1.out hb); clear hI hb))
  have m2 := img_read ⟨g, 0, none⟩
  go_upto_region 5 with (go_at_call 67; refine (source_image_Read.calls k g [97, 98, 99, 100, 101, 102] l 1 2 [98, 99] 0 _ HI.out H2.out).mono ?_; rintro e w3 ⟨v, rfl, hR, hb⟩; have HR := Aside0.mk hR; have HB3 := Aside0.mk (below_step HB2.out hb); clear hR hb; obtain ⟨A, c, e3⟩ := Kd.R_slice HR.out; subst e3)
  have hcv := Kd.C_string (P := Try.prog) (A := A) (c := c) Try.underlying23 Try.underlying5 Try.underlying9 (Kd.R_reads' HR.out).2.2
  rw [show strOfNums [98, 99] = (⟨#[98, 99]⟩ : ByteArray) from by rfl] at hcv
  simp only [List.length_cons, List.length_nil, Nat.zero_add, Nat.reduceAdd] at hcv
  go_wp2
  go_ret
  exact ⟨by first | rfl | simp, HB3.out⟩

/-! ### wrackkeep1_spans: function 10 -/
def wrackkeep1_spans.f (k : Nat)  : Option (Bool) := (span_Norm.f k (([(⟨5, 3⟩ : S53), (⟨0, 5⟩ : S53)] : List (S53)))).bind fun t195 => (if (t195.length : Int) = 1 then (if 0 < (t195.length : Int) then (some (((rd_T53 t195 0).f0) == 0 && (((rd_T53 t195 0).f1) == 8))) else (none)) else (some false))
theorem wrackkeep1_spans.mono : ∀ k, LeO (wrackkeep1_spans.f k ) (wrackkeep1_spans.f (k + 1) ) := by
  intro  k
  unfold wrackkeep1_spans.f
  repeat' first
      | (with_reducible exact span_Norm.mono _ _)
      | (with_reducible exact LeO.refl _)
      | (with_reducible exact LeO.none _)
      | (with_reducible refine LeO.ite ?_ ?_)
      | (with_reducible refine LeO.bind ?_ (fun _ => ?_))
      | exact span_Norm.mono _ _
      | exact LeO.none _
      | refine LeO.ite ?_ ?_
      | refine LeO.bind ?_ (fun _ => ?_)
set_option maxHeartbeats 8000000 in
set_option maxRecDepth 100000 in
theorem wrackkeep1_spans.calls (k : Nat)  (r : Bool) (w : World) (h : wrackkeep1_spans.f k  = some r) :
    Calls Try.prog 10 #[] w fun e w' => e = .returned (.bool r) ∧ Below w.heap.size w w' := by
  have hu53 := Try.underlying53
  have HB := Aside0.mk (Below.refl w.heap.size w)
  have H : ((span_Norm.f k (([(⟨5, 3⟩ : S53), (⟨0, 5⟩ : S53)] : List (S53)))).bind fun t195 => (if (t195.length : Int) = 1 then (if 0 < (t195.length : Int) then (some (((rd_T53 t195 0).f0) == 0 && (((rd_T53 t195 0).f1) == 8))) else (none)) else (some false))) = some r := h
  clear h
  obtain ⟨y192, hy192⟩ : ∃ y_ : List (S53), y_ = (([(⟨5, 3⟩ : S53), (⟨0, 5⟩ : S53)] : List (S53))) := ⟨_, rfl⟩
  replace H : ((span_Norm.f k y192).bind fun t195 => (if (t195.length : Int) = 1 then (if 0 < (t195.length : Int) then (some (((rd_T53 t195 0).f0) == 0 && (((rd_T53 t195 0).f1) == 8))) else (none)) else (some false))) = some r := by first | (rw [hy192]; with_reducible exact H) | (have H2_ := (Option.bind_some _ _).symm.trans H; rw [hy192]; with_reducible exact H2_) | (have H2_ := (Option.bind_some _ _).symm.trans H; with_reducible exact H2_) | with_reducible exact H | (rw [hy192]; exact H) | exact H
  have Ny192 := Aside0.mk hy192
  clear hy192
  replace H := Option.bind_eq_some_iff.mp H
  obtain ⟨t195, A10, H⟩ := H
  replace H : (if (t195.length : Int) = 1 then (if 0 < (t195.length : Int) then (some (((rd_T53 t195 0).f0) == 0 && (((rd_T53 t195 0).f1) == 8))) else (none)) else (some false)) = some r := H
  have A1 := Aside0.mk A10
  clear A10
  by_cases c2 : (t195.length : Int) = 1
  · rw [if_pos c2] at H
    have c2b0 : ((t195.length : Int) == 1) = true := beq_iff_eq.mpr c2
    have c2b1 : ((t195.length : Int) != 1) = false := bne_eq_false_iff_eq.mpr c2
    clear c2
    by_cases c3 : 0 < (t195.length : Int)
    · rw [if_pos c3] at H
      have c3b0 : decide (0 < (t195.length : Int)) = true := decide_eq_true c3
      have c3b1 : decide (0 < t195.length) = true := decide_eq_true (by omega)
      clear c3
      obtain rfl := Option.some.inj H
      go_enter Try.func10, Try.ntmps10
      go_wp2_with (first | ((with_reducible refine gate_dst (N := 4) rfl ?_); refine Kd.R_lit k53 _ 53 ?hg (N := 4) ?hd (xs := ([(⟨5, 3⟩ : S53), (⟨0, 5⟩ : S53)] : List (S53))) (inner := [.int .i64 5, .int .i64 3, .int .i64 0, .int .i64 5]) (ok := fun _ => True) (okp := fun _ => True) ?hr ?hp (fun _ hk => hk) trivial (Below.refl _ _) (Nat.le_refl _) (by simp) ?_; (case hd => rfl); (case hg => rfl); (case hr => first | (go_simp; done) | (go_simp; rfl)); (case hp => exact (Reps.c2 (show Kd.M k53 _ _ _ (⟨5, 3⟩ : S53) [.int .i64 5, .int .i64 3] from (k53_mkM _ _ _ (⟨5, 3⟩ : S53) )) (Reps.c2 (show Kd.M k53 _ _ _ (⟨0, 5⟩ : S53) [.int .i64 0, .int .i64 5] from (k53_mkM _ _ _ (⟨0, 5⟩ : S53) )) (Reps.none _ _)))); intro v193 w4 ho5 hb hg_ hnew_; clear hg_ hnew_; (first | rw [← Ny192.out] at ho5 | (simp only [Int.reduceToNat] at ho5; rw [← Ny192.out] at ho5)); have n0_ := Aside0.mk (Kd.R_lower ho5 (below_size (by repeat (first | (with_reducible first | exact HB.out | apply below_alloc | apply pw_below_drewN | apply below_drew1) | exact HB.out)))); have n1_ := Aside0.mk (below_step (by repeat (first | (with_reducible first | exact HB.out | apply below_alloc | apply pw_below_drewN | apply below_drew1) | exact HB.out)) hb); clear HB; have HO194 := n0_; have HB := n1_; clear n0_ n1_; clear hb ho5; obtain ⟨Ao6, co6, eo6⟩ := Kd.R_slice HO194.out; subst eo6) | ((with_reducible refine gate_callee (f := 21) rfl ?_); refine goesL_ (some 5) rfl rfl Try.func21 (by kernel_rfl) rfl #[.slice Ao6 y192.length co6] rfl (by (try simp only [List.map_toArray, List.map_cons, List.map_nil]); first | done | rfl | (simp only [List.length_drop, List.length_take]; rfl)) ?_; (with_reducible refine (span_Norm.calls k _ _ y192 t195 _ ?side1 ?side2 A1.out).mono ?_); (case side1 => repeat (first | exact (Kd.R_reads' HO194.out).2.2 | (with_reducible refine Kd.C_alloc ?_ _) | (with_reducible refine Kd.C_drewN ?_ _) | (with_reducible refine Kd.C_drew ?_))); (case side2 => exact (Kd.R_reads' HO194.out).2.1); rintro e w7 ⟨v196, rfl, ho0, hb⟩; refine ⟨_, rfl, ?_⟩; have n0_ := Aside0.mk (Kd.R_elder' (by (with_reducible repeat (first | apply Kd.R_alloc | apply Kd.R_drewN | apply Kd.R_drew)); exact HO194.out) (Kd.R_base ho0) hb); have n1_ := Aside0.mk (Kd.R_lower (Kd.R_new' ho0 (Kd.R_lt (by (with_reducible repeat (first | apply Kd.R_alloc | apply Kd.R_drewN | apply Kd.R_drew)); exact HO194.out))) (below_size (by repeat (first | (with_reducible first | exact HB.out | apply below_alloc | apply pw_below_drewN | apply below_drew1) | exact HB.out)))); have n2_ := Aside0.mk (below_step (by repeat (first | (with_reducible first | exact HB.out | apply below_alloc | apply pw_below_drewN | apply below_drew1) | exact HB.out)) hb); clear HO194; clear HB; have HO194 := n0_; have HO197 := n1_; have HB := n2_; clear n0_ n1_ n2_; (try clear hb); (try clear hb2); (try clear hk); (try clear hi); (try clear ho0); obtain ⟨Ao8, co8, eo8⟩ := Kd.R_slice HO197.out; subst eo8; have p198 : 0 ≤ (0 : Int) := (by omega); have q198 : 0 < (t195.length : Int) := of_decide_eq_true (by first | (with_reducible assumption) | assumption); obtain ⟨ad198, e198, hx198_0, hx198_1⟩ := at_T53 (Kd.R_reads' HO197.out).2.2 0 p198 q198; cases e198; have qi198 : (0 < t195.length) = True := eq_true (by omega); (try rw [show ((0 : Int)).toNat = 0 from rfl] at hx198_0); (try rw [show 0 * 2 = 0 from rfl] at hx198_0); (try rw [Addr.add_zero'] at hx198_0); (try rw [show ((0 : Int)).toNat = 0 from rfl] at hx198_1); (try rw [show 0 * 2 = 0 from rfl] at hx198_1); (try rw [Addr.add_zero'] at hx198_1); replace p198 := eq_true p198; replace q198 := eq_true q198))
      go_ret
      exact ⟨by first | rfl | (simp [errW_none, errW_some] <;> rfl) | (simp [*, errW_none, errW_some] <;> rfl), by repeat (first | (with_reducible first | exact HB.out | apply below_alloc | apply pw_below_drewN | apply below_drew1) | exact HB.out)⟩
    · rw [if_neg c3] at H
      exact absurd H (by simp)
  · rw [if_neg c2] at H
    have c2b0 : ((t195.length : Int) == 1) = false := beq_eq_false_iff_ne.mpr c2
    have c2b1 : ((t195.length : Int) != 1) = true := bne_iff_ne.mpr c2
    obtain rfl := Option.some.inj H
    go_enter Try.func10, Try.ntmps10
    go_wp2_with (first | ((with_reducible refine gate_dst (N := 4) rfl ?_); refine Kd.R_lit k53 _ 53 ?hg (N := 4) ?hd (xs := ([(⟨5, 3⟩ : S53), (⟨0, 5⟩ : S53)] : List (S53))) (inner := [.int .i64 5, .int .i64 3, .int .i64 0, .int .i64 5]) (ok := fun _ => True) (okp := fun _ => True) ?hr ?hp (fun _ hk => hk) trivial (Below.refl _ _) (Nat.le_refl _) (by simp) ?_; (case hd => rfl); (case hg => rfl); (case hr => first | (go_simp; done) | (go_simp; rfl)); (case hp => exact (Reps.c2 (show Kd.M k53 _ _ _ (⟨5, 3⟩ : S53) [.int .i64 5, .int .i64 3] from (k53_mkM _ _ _ (⟨5, 3⟩ : S53) )) (Reps.c2 (show Kd.M k53 _ _ _ (⟨0, 5⟩ : S53) [.int .i64 0, .int .i64 5] from (k53_mkM _ _ _ (⟨0, 5⟩ : S53) )) (Reps.none _ _)))); intro v193 w9 ho10 hb hg_ hnew_; clear hg_ hnew_; (first | rw [← Ny192.out] at ho10 | (simp only [Int.reduceToNat] at ho10; rw [← Ny192.out] at ho10)); have n0_ := Aside0.mk (Kd.R_lower ho10 (below_size (by repeat (first | (with_reducible first | exact HB.out | apply below_alloc | apply pw_below_drewN | apply below_drew1) | exact HB.out)))); have n1_ := Aside0.mk (below_step (by repeat (first | (with_reducible first | exact HB.out | apply below_alloc | apply pw_below_drewN | apply below_drew1) | exact HB.out)) hb); clear HB; have HO194 := n0_; have HB := n1_; clear n0_ n1_; clear hb ho10; obtain ⟨Ao11, co11, eo11⟩ := Kd.R_slice HO194.out; subst eo11) | ((with_reducible refine gate_callee (f := 21) rfl ?_); refine goesL_ (some 5) rfl rfl Try.func21 (by kernel_rfl) rfl #[.slice Ao11 y192.length co11] rfl (by (try simp only [List.map_toArray, List.map_cons, List.map_nil]); first | done | rfl | (simp only [List.length_drop, List.length_take]; rfl)) ?_; (with_reducible refine (span_Norm.calls k _ _ y192 t195 _ ?side1 ?side2 A1.out).mono ?_); (case side1 => repeat (first | exact (Kd.R_reads' HO194.out).2.2 | (with_reducible refine Kd.C_alloc ?_ _) | (with_reducible refine Kd.C_drewN ?_ _) | (with_reducible refine Kd.C_drew ?_))); (case side2 => exact (Kd.R_reads' HO194.out).2.1); rintro e w12 ⟨v196, rfl, ho0, hb⟩; refine ⟨_, rfl, ?_⟩; have n0_ := Aside0.mk (Kd.R_elder' (by (with_reducible repeat (first | apply Kd.R_alloc | apply Kd.R_drewN | apply Kd.R_drew)); exact HO194.out) (Kd.R_base ho0) hb); have n1_ := Aside0.mk (Kd.R_lower (Kd.R_new' ho0 (Kd.R_lt (by (with_reducible repeat (first | apply Kd.R_alloc | apply Kd.R_drewN | apply Kd.R_drew)); exact HO194.out))) (below_size (by repeat (first | (with_reducible first | exact HB.out | apply below_alloc | apply pw_below_drewN | apply below_drew1) | exact HB.out)))); have n2_ := Aside0.mk (below_step (by repeat (first | (with_reducible first | exact HB.out | apply below_alloc | apply pw_below_drewN | apply below_drew1) | exact HB.out)) hb); clear HO194; clear HB; have HO194 := n0_; have HO197 := n1_; have HB := n2_; clear n0_ n1_ n2_; (try clear hb); (try clear hb2); (try clear hk); (try clear hi); (try clear ho0); obtain ⟨Ao13, co13, eo13⟩ := Kd.R_slice HO197.out; subst eo13))
    go_ret
    exact ⟨by first | rfl | (simp [errW_none, errW_some] <;> rfl) | (simp [*, errW_none, errW_some] <;> rfl), by repeat (first | (with_reducible first | exact HB.out | apply below_alloc | apply pw_below_drewN | apply below_drew1) | exact HB.out)⟩

/-! ### span_Has: function 12 -/
theorem span_Has.clos_keep {x0 x1 off : Int} {g gb : Nat} {w2 w' : World} (h0 : w2.cell? ⟨gb, 0, none⟩ = some (.int .i64 x0)) (h1 : w2.cell? ⟨gb, 1, none⟩ = some (.int .i64 x1)) (h2 : w2.cell? ⟨g, 0, none⟩ = some (.int .i64 off)) (hb : Below w2.heap.size w2 w') :
    w'.cell? ⟨gb, 0, none⟩ = some (.int .i64 x0) ∧ w'.cell? ⟨gb, 1, none⟩ = some (.int .i64 x1) ∧ w'.cell? ⟨g, 0, none⟩ = some (.int .i64 off) ∧ Below w2.heap.size w2 w' :=
  ⟨(hb.cell (World.block_lt_of_cell? w2 _ h0)).trans h0, (hb.cell (World.block_lt_of_cell? w2 _ h1)).trans h1, (hb.cell (World.block_lt_of_cell? w2 _ h2)).trans h2, hb⟩
theorem span_Has.clos_step {A B C : Prop} {w2 w3 w' : World} (h : A ∧ B ∧ C ∧ Below w2.heap.size w2 w3) (hb : Below w3.heap.size w3 w') : Below w2.heap.size w2 w' := below_step h.2.2.2 hb
set_option maxHeartbeats 8000000 in
set_option maxRecDepth 100000 in
theorem span_Has.clos (x0 x1 off : Int) (g : Nat) (w : World) (h0 : 0 ≤ x0) (h1 : 0 ≤ x1) (h2 : x0 + x1 ≤ 65536) (hco : w.cell? ⟨g, 0, none⟩ = some (.int .i64 off)) :
    Calls Try.prog 23 #[.agg #[.int .i64 x0, .int .i64 x1], .pointer (some ⟨g, 0, none⟩)] w fun e w' => e = .returned (.bool (decide (x1 > 0) && decide (x0 ≤ off) && decide (off < x0 + x1))) ∧ Below w.heap.size w w' := by
  have hen : span_end.f x0 x1 = some (x0 + x1) := by unfold span_end.f; congr 1; unfold wrap64; omega
  have hgd : span_good.f x0 x1 = some (decide (x1 > 0)) := by
    have e : wrap64 (65536 - x1) = 65536 - x1 := by unfold wrap64; omega
    unfold span_good.f span_Check.f
    rw [e, if_neg (by omega), if_neg (by omega), if_neg (by omega), if_neg (by omega), Option.bind_some, if_pos rfl]
  clear h0 h1 h2
  by_cases c1 : x1 > 0
  · rw [decide_eq_true c1] at hgd ⊢
    by_cases c2 : x0 ≤ off
    · have c2b := decide_eq_true c2
      rw [c2b]
      go_enter Try.func23, Try.ntmps23
      go_wp2_with (first | ((with_reducible refine gate_dst (N := 2) rfl ?_); refine box_event ?hg (N := 2) ?hd (cs := #[.int .i64 x0, .int .i64 x1]) (t := 53) ?hr ?_; (case hd => rfl); (case hg => rfl); (case hr => first | (go_simp; done) | (go_simp; rfl)); intro gb hg w2 hbox hb; have BK := Aside0.mk hbox; have HB := Aside0.mk hb; clear hb hbox hg; have hcz0 : w2.cell? ⟨gb, 0, none⟩ = some (.int .i64 x0) := (blk_cell BK.out 0).trans rfl; have hcz1 : w2.cell? ⟨gb, 1, none⟩ = some (.int .i64 x1) := (blk_cell BK.out 1).trans rfl; have hco2 : w2.cell? ⟨g, 0, none⟩ = some (.int .i64 off) := (HB.out.cell (World.block_lt_of_cell? w _ hco)).trans hco))
      go_region_held3 (fun w' => w'.cell? ⟨gb, 0, none⟩ = some (.int .i64 x0) ∧ w'.cell? ⟨gb, 1, none⟩ = some (.int .i64 x1) ∧ w'.cell? ⟨g, 0, none⟩ = some (.int .i64 off) ∧ Below w2.heap.size w2 w') (first | exact span_Has.clos_keep hcz0 hcz1 hco2 (below_drew1 (Below.refl _ _)) | exact span_Has.clos_keep hcz0 hcz1 hco2 (by assumption)) (first | (go_at_call 24; refine (span_good.calls x0 x1 true _ hgd).mono ?_; rintro e w5 ⟨rfl, hb⟩; have hb5 := span_Has.clos_step (by assumption) hb) | (go_at_call 25; refine (span_end.calls x0 x1 (x0 + x1) _ hen).mono ?_; rintro e w5 ⟨rfl, hb⟩; have hb5 := span_Has.clos_step (by assumption) hb))

      go_wp2
      go_ret
      exact ⟨by simp, below_step HB.out (by assumption)⟩
    · have c2b := decide_eq_false c2
      rw [c2b]
      go_enter Try.func23, Try.ntmps23
      go_wp2_with (first | ((with_reducible refine gate_dst (N := 2) rfl ?_); refine box_event ?hg (N := 2) ?hd (cs := #[.int .i64 x0, .int .i64 x1]) (t := 53) ?hr ?_; (case hd => rfl); (case hg => rfl); (case hr => first | (go_simp; done) | (go_simp; rfl)); intro gb hg w2 hbox hb; have BK := Aside0.mk hbox; have HB := Aside0.mk hb; clear hb hbox hg; have hcz0 : w2.cell? ⟨gb, 0, none⟩ = some (.int .i64 x0) := (blk_cell BK.out 0).trans rfl; have hcz1 : w2.cell? ⟨gb, 1, none⟩ = some (.int .i64 x1) := (blk_cell BK.out 1).trans rfl; have hco2 : w2.cell? ⟨g, 0, none⟩ = some (.int .i64 off) := (HB.out.cell (World.block_lt_of_cell? w _ hco)).trans hco))
      refine start_ (n := 15) (S := (fun w' => w'.cell? ⟨gb, 0, none⟩ = some (.int .i64 x0) ∧ w'.cell? ⟨gb, 1, none⟩ = some (.int .i64 x1) ∧ w'.cell? ⟨g, 0, none⟩ = some (.int .i64 off) ∧ Below w2.heap.size w2 w')) (ds := []) #[false, false, false, false, false, false, false, false, false, false, false, false, false, false, false] (by kernel_rfl) rfl rfl (span_Has.clos_keep hcz0 hcz1 hco2 (below_drew1 (Below.refl _ _))) (fun hHeld => ?_)
      generalize w2.drew = w3 at hHeld ⊢
      refine take_ (i := 0) (N := some 4) (v := ?_) (a' := ?_) #[true, false, false, false, false, false, false, false, false, false, false, false, false, false, false] rfl rfl (by kernel_rfl) (fun _ _ _ h => h) (Or.inl ⟨by rfl, ?_⟩) hHeld ?_ ?_
      rotate_left
      · rintro w' ⟨s0, s1, s2, s3⟩
        go_simp
        (try with_reducible rfl)
      rotate_left
      · simp only [Act.put, List.setIfInBounds_toArray, List.set_cons_zero, List.set_cons_succ, i64_w, i32_w]
        rfl
      refine one_ (i := 1) (N := some 5) #[true, true, false, false, false, false, false, false, false, false, false, false, false, false, false] rfl rfl (by kernel_rfl) (by decide) (fun K hK => ?_)
      refine goes_ Try.func24 (by kernel_rfl) rfl #[.agg #[.int .i64 x0, .int .i64 x1]] (by rfl) rfl rfl (by (try simp only [List.map_toArray, List.map_cons, List.map_nil]); first | done | rfl) ?_
      with_reducible refine (span_good.calls x0 x1 true _ hgd).mono ?_
      rintro e w33 ⟨rfl, hb⟩
      refine ⟨_, rfl, ?_⟩
      have hb5 := span_Has.clos_step hHeld hb
      refine hK.out _ _ (span_Has.clos_keep hcz0 hcz1 hco2 hb5) (fun hHeld => ?_)
      clear hK K
      refine norm_ (a' := ?_) ?_ ?_
      rotate_left
      · show Act.put _ (some 5) _ = _
        simp only [Act.put, List.setIfInBounds_toArray, List.set_cons_zero, List.set_cons_succ, i64_w, i32_w]
        rfl
      refine pure_ (i := 2) (N := some 6) (v := ?_) (a' := ?_) #[true, true, true, false, false, false, false, false, false, false, false, false, false, false, false] rfl rfl (by kernel_rfl) (fun _ _ _ h => h) (Or.inl ⟨by rfl, ?_⟩) ?_ ?_
      rotate_left
      · intro w'
        go_simp
        (try with_reducible rfl)
      rotate_left
      · simp only [Act.put, List.setIfInBounds_toArray, List.set_cons_zero, List.set_cons_succ, i64_w, i32_w]
        rfl
      refine pure_ (i := 3) (N := some 7) (v := ?_) (a' := ?_) #[true, true, true, true, false, false, false, false, false, false, false, false, false, false, false] rfl rfl (by kernel_rfl) (fun _ _ _ h => h) (Or.inl ⟨by rfl, ?_⟩) ?_ ?_
      rotate_left
      · intro w'
        go_simp
        (try with_reducible rfl)
      rotate_left
      · simp only [Act.put, List.setIfInBounds_toArray, List.set_cons_zero, List.set_cons_succ, i64_w, i32_w]
        rfl
      refine take_ (i := 4) (N := some 8) (v := ?_) (a' := ?_) #[true, true, true, true, true, false, false, false, false, false, false, false, false, false, false] rfl rfl (by kernel_rfl) (fun _ _ _ h => h) (Or.inl ⟨by rfl, ?_⟩) hHeld ?_ ?_
      rotate_left
      · rintro w' ⟨s0, s1, s2, s3⟩
        go_simp
        (try with_reducible rfl)
      rotate_left
      · simp only [Act.put, List.setIfInBounds_toArray, List.set_cons_zero, List.set_cons_succ, i64_w, i32_w]
        rfl
      refine take_ (i := 5) (N := some 9) (v := ?_) (a' := ?_) #[true, true, true, true, true, true, false, false, false, false, false, false, false, false, false] rfl rfl (by kernel_rfl) (fun _ _ _ h => h) (Or.inl ⟨by rfl, ?_⟩) hHeld ?_ ?_
      rotate_left
      · rintro w' ⟨s0, s1, s2, s3⟩
        go_simp
        (try with_reducible rfl)
      rotate_left
      · simp only [Act.put, List.setIfInBounds_toArray, List.set_cons_zero, List.set_cons_succ, i64_w, i32_w]
        rfl
      refine pure_ (i := 6) (N := some 10) (v := ?_) (a' := ?_) #[true, true, true, true, true, true, true, false, false, false, false, false, false, false, false] rfl rfl (by kernel_rfl) (fun _ _ _ h => h) (Or.inl ⟨by rfl, ?_⟩) ?_ ?_
      rotate_left
      · intro w'
        go_simp
        (try with_reducible rfl)
      rotate_left
      · simp only [Act.put, List.setIfInBounds_toArray, List.set_cons_zero, List.set_cons_succ, i64_w, i32_w]
        rfl
      refine pure_ (i := 7) (N := some 11) (v := ?_) (a' := ?_) #[true, true, true, true, true, true, true, true, false, false, false, false, false, false, false] rfl rfl (by kernel_rfl) (fun _ _ _ h => h) (Or.inl ⟨by rfl, ?_⟩) ?_ ?_
      rotate_left
      · intro w'
        go_simp
        (try with_reducible rfl)
      rotate_left
      · simp only [Act.put, List.setIfInBounds_toArray, List.set_cons_zero, List.set_cons_succ, i64_w, i32_w]
        rfl
      refine pure_ (i := 8) (N := some 12) (v := ?_) (a' := ?_) #[true, true, true, true, true, true, true, true, true, false, false, false, false, false, false] rfl rfl (by kernel_rfl) (fun _ _ _ h => h) (Or.inl ⟨by rfl, ?_⟩) ?_ ?_
      rotate_left
      · intro w'
        go_simp
        (try with_reducible rfl)
      rotate_left
      · simp only [Act.put, List.setIfInBounds_toArray, List.set_cons_zero, List.set_cons_succ, i64_w, i32_w]
        rfl
      refine pure_ (i := 9) (N := some 13) (v := undef) (a' := ?_) #[true, true, true, true, true, true, true, true, true, true, false, false, false, false, false] rfl rfl (by kernel_rfl) (fun _ _ _ h => h) (Or.inr ⟨by rfl, rfl⟩) ?_ ?_
      rotate_left
      · simp only [Act.put, List.setIfInBounds_toArray, List.set_cons_zero, List.set_cons_succ, i64_w, i32_w]
        rfl
      refine pure_ (i := 10) (N := some 14) (v := undef) (a' := ?_) #[true, true, true, true, true, true, true, true, true, true, true, false, false, false, false] rfl rfl (by kernel_rfl) (fun _ _ _ h => h) (Or.inr ⟨by rfl, rfl⟩) ?_ ?_
      rotate_left
      · simp only [Act.put, List.setIfInBounds_toArray, List.set_cons_zero, List.set_cons_succ, i64_w, i32_w]
        rfl
      refine pure_ (i := 11) (N := some 15) (v := undef) (a' := ?_) #[true, true, true, true, true, true, true, true, true, true, true, true, false, false, false] rfl rfl (by kernel_rfl) (fun _ _ _ h => h) (Or.inr ⟨by rfl, rfl⟩) ?_ ?_
      rotate_left
      · simp only [Act.put, List.setIfInBounds_toArray, List.set_cons_zero, List.set_cons_succ, i64_w, i32_w]
        rfl
      refine pure_ (i := 12) (N := some 16) (v := undef) (a' := ?_) #[true, true, true, true, true, true, true, true, true, true, true, true, true, false, false] rfl rfl (by kernel_rfl) (fun _ _ _ h => h) (Or.inr ⟨by rfl, rfl⟩) ?_ ?_
      rotate_left
      · simp only [Act.put, List.setIfInBounds_toArray, List.set_cons_zero, List.set_cons_succ, i64_w, i32_w]
        rfl
      refine pure_ (i := 13) (N := some 17) (v := ?_) (a' := ?_) #[true, true, true, true, true, true, true, true, true, true, true, true, true, true, false] rfl rfl (by kernel_rfl) (fun _ _ _ h => h) (Or.inl ⟨by rfl, ?_⟩) ?_ ?_
      rotate_left
      · intro w'
        go_simp
        (try with_reducible rfl)
      rotate_left
      · simp only [Act.put, List.setIfInBounds_toArray, List.set_cons_zero, List.set_cons_succ, i64_w, i32_w]
        rfl
      refine pure_ (i := 14) (N := some 3) (v := ?_) (a' := ?_) #[true, true, true, true, true, true, true, true, true, true, true, true, true, true, true] rfl rfl (by kernel_rfl) (fun _ _ _ h => h) (Or.inl ⟨by rfl, ?_⟩) ?_ ?_
      rotate_left
      · intro w'
        go_simp
        (try with_reducible rfl)
      rotate_left
      · simp only [Act.put, List.setIfInBounds_toArray, List.set_cons_zero, List.set_cons_succ, i64_w, i32_w]
        rfl
      refine done_ (by kernel_rfl) ?_
      go_wp2
      go_ret
      exact ⟨by simp, below_step HB.out hb5⟩
  · rw [decide_eq_false c1] at hgd ⊢
    go_enter Try.func23, Try.ntmps23
    go_wp2_with (first | ((with_reducible refine gate_dst (N := 2) rfl ?_); refine box_event ?hg (N := 2) ?hd (cs := #[.int .i64 x0, .int .i64 x1]) (t := 53) ?hr ?_; (case hd => rfl); (case hg => rfl); (case hr => first | (go_simp; done) | (go_simp; rfl)); intro gb hg w2 hbox hb; have BK := Aside0.mk hbox; have HB := Aside0.mk hb; clear hb hbox hg; have hcz0 : w2.cell? ⟨gb, 0, none⟩ = some (.int .i64 x0) := (blk_cell BK.out 0).trans rfl; have hcz1 : w2.cell? ⟨gb, 1, none⟩ = some (.int .i64 x1) := (blk_cell BK.out 1).trans rfl; have hco2 : w2.cell? ⟨g, 0, none⟩ = some (.int .i64 off) := (HB.out.cell (World.block_lt_of_cell? w _ hco)).trans hco))
    refine start_ (n := 15) (S := (fun w' => w'.cell? ⟨gb, 0, none⟩ = some (.int .i64 x0) ∧ w'.cell? ⟨gb, 1, none⟩ = some (.int .i64 x1) ∧ w'.cell? ⟨g, 0, none⟩ = some (.int .i64 off) ∧ Below w2.heap.size w2 w')) (ds := []) #[false, false, false, false, false, false, false, false, false, false, false, false, false, false, false] (by kernel_rfl) rfl rfl (span_Has.clos_keep hcz0 hcz1 hco2 (below_drew1 (Below.refl _ _))) (fun hHeld => ?_)
    generalize w2.drew = w3 at hHeld ⊢
    refine take_ (i := 0) (N := some 4) (v := ?_) (a' := ?_) #[true, false, false, false, false, false, false, false, false, false, false, false, false, false, false] rfl rfl (by kernel_rfl) (fun _ _ _ h => h) (Or.inl ⟨by rfl, ?_⟩) hHeld ?_ ?_
    rotate_left
    · rintro w' ⟨s0, s1, s2, s3⟩
      go_simp
      (try with_reducible rfl)
    rotate_left
    · simp only [Act.put, List.setIfInBounds_toArray, List.set_cons_zero, List.set_cons_succ, i64_w, i32_w]
      rfl
    refine one_ (i := 1) (N := some 5) #[true, true, false, false, false, false, false, false, false, false, false, false, false, false, false] rfl rfl (by kernel_rfl) (by decide) (fun K hK => ?_)
    refine goes_ Try.func24 (by kernel_rfl) rfl #[.agg #[.int .i64 x0, .int .i64 x1]] (by rfl) rfl rfl (by (try simp only [List.map_toArray, List.map_cons, List.map_nil]); first | done | rfl) ?_
    with_reducible refine (span_good.calls x0 x1 false _ hgd).mono ?_
    rintro e w33 ⟨rfl, hb⟩
    refine ⟨_, rfl, ?_⟩
    have hb5 := span_Has.clos_step hHeld hb
    refine hK.out _ _ (span_Has.clos_keep hcz0 hcz1 hco2 hb5) (fun hHeld => ?_)
    clear hK K
    refine norm_ (a' := ?_) ?_ ?_
    rotate_left
    · show Act.put _ (some 5) _ = _
      simp only [Act.put, List.setIfInBounds_toArray, List.set_cons_zero, List.set_cons_succ, i64_w, i32_w]
      rfl
    refine pure_ (i := 2) (N := some 6) (v := ?_) (a' := ?_) #[true, true, true, false, false, false, false, false, false, false, false, false, false, false, false] rfl rfl (by kernel_rfl) (fun _ _ _ h => h) (Or.inl ⟨by rfl, ?_⟩) ?_ ?_
    rotate_left
    · intro w'
      go_simp
      (try with_reducible rfl)
    rotate_left
    · simp only [Act.put, List.setIfInBounds_toArray, List.set_cons_zero, List.set_cons_succ, i64_w, i32_w]
      rfl
    refine pure_ (i := 3) (N := some 7) (v := undef) (a' := ?_) #[true, true, true, true, false, false, false, false, false, false, false, false, false, false, false] rfl rfl (by kernel_rfl) (fun _ _ _ h => h) (Or.inr ⟨by rfl, rfl⟩) ?_ ?_
    rotate_left
    · simp only [Act.put, List.setIfInBounds_toArray, List.set_cons_zero, List.set_cons_succ, i64_w, i32_w]
      rfl
    refine pure_ (i := 4) (N := some 8) (v := undef) (a' := ?_) #[true, true, true, true, true, false, false, false, false, false, false, false, false, false, false] rfl rfl (by kernel_rfl) (fun _ _ _ h => h) (Or.inr ⟨by rfl, rfl⟩) ?_ ?_
    rotate_left
    · simp only [Act.put, List.setIfInBounds_toArray, List.set_cons_zero, List.set_cons_succ, i64_w, i32_w]
      rfl
    refine pure_ (i := 5) (N := some 9) (v := undef) (a' := ?_) #[true, true, true, true, true, true, false, false, false, false, false, false, false, false, false] rfl rfl (by kernel_rfl) (fun _ _ _ h => h) (Or.inr ⟨by rfl, rfl⟩) ?_ ?_
    rotate_left
    · simp only [Act.put, List.setIfInBounds_toArray, List.set_cons_zero, List.set_cons_succ, i64_w, i32_w]
      rfl
    refine pure_ (i := 6) (N := some 10) (v := undef) (a' := ?_) #[true, true, true, true, true, true, true, false, false, false, false, false, false, false, false] rfl rfl (by kernel_rfl) (fun _ _ _ h => h) (Or.inr ⟨by rfl, rfl⟩) ?_ ?_
    rotate_left
    · simp only [Act.put, List.setIfInBounds_toArray, List.set_cons_zero, List.set_cons_succ, i64_w, i32_w]
      rfl
    refine pure_ (i := 7) (N := some 11) (v := ?_) (a' := ?_) #[true, true, true, true, true, true, true, true, false, false, false, false, false, false, false] rfl rfl (by kernel_rfl) (fun _ _ _ h => h) (Or.inl ⟨by rfl, ?_⟩) ?_ ?_
    rotate_left
    · intro w'
      go_simp
      (try with_reducible rfl)
    rotate_left
    · simp only [Act.put, List.setIfInBounds_toArray, List.set_cons_zero, List.set_cons_succ, i64_w, i32_w]
      rfl
    refine pure_ (i := 8) (N := some 12) (v := ?_) (a' := ?_) #[true, true, true, true, true, true, true, true, true, false, false, false, false, false, false] rfl rfl (by kernel_rfl) (fun _ _ _ h => h) (Or.inl ⟨by rfl, ?_⟩) ?_ ?_
    rotate_left
    · intro w'
      go_simp
      (try with_reducible rfl)
    rotate_left
    · simp only [Act.put, List.setIfInBounds_toArray, List.set_cons_zero, List.set_cons_succ, i64_w, i32_w]
      rfl
    refine pure_ (i := 9) (N := some 13) (v := undef) (a' := ?_) #[true, true, true, true, true, true, true, true, true, true, false, false, false, false, false] rfl rfl (by kernel_rfl) (fun _ _ _ h => h) (Or.inr ⟨by rfl, rfl⟩) ?_ ?_
    rotate_left
    · simp only [Act.put, List.setIfInBounds_toArray, List.set_cons_zero, List.set_cons_succ, i64_w, i32_w]
      rfl
    refine pure_ (i := 10) (N := some 14) (v := undef) (a' := ?_) #[true, true, true, true, true, true, true, true, true, true, true, false, false, false, false] rfl rfl (by kernel_rfl) (fun _ _ _ h => h) (Or.inr ⟨by rfl, rfl⟩) ?_ ?_
    rotate_left
    · simp only [Act.put, List.setIfInBounds_toArray, List.set_cons_zero, List.set_cons_succ, i64_w, i32_w]
      rfl
    refine pure_ (i := 11) (N := some 15) (v := undef) (a' := ?_) #[true, true, true, true, true, true, true, true, true, true, true, true, false, false, false] rfl rfl (by kernel_rfl) (fun _ _ _ h => h) (Or.inr ⟨by rfl, rfl⟩) ?_ ?_
    rotate_left
    · simp only [Act.put, List.setIfInBounds_toArray, List.set_cons_zero, List.set_cons_succ, i64_w, i32_w]
      rfl
    refine pure_ (i := 12) (N := some 16) (v := undef) (a' := ?_) #[true, true, true, true, true, true, true, true, true, true, true, true, true, false, false] rfl rfl (by kernel_rfl) (fun _ _ _ h => h) (Or.inr ⟨by rfl, rfl⟩) ?_ ?_
    rotate_left
    · simp only [Act.put, List.setIfInBounds_toArray, List.set_cons_zero, List.set_cons_succ, i64_w, i32_w]
      rfl
    refine pure_ (i := 13) (N := some 17) (v := ?_) (a' := ?_) #[true, true, true, true, true, true, true, true, true, true, true, true, true, true, false] rfl rfl (by kernel_rfl) (fun _ _ _ h => h) (Or.inl ⟨by rfl, ?_⟩) ?_ ?_
    rotate_left
    · intro w'
      go_simp
      (try with_reducible rfl)
    rotate_left
    · simp only [Act.put, List.setIfInBounds_toArray, List.set_cons_zero, List.set_cons_succ, i64_w, i32_w]
      rfl
    refine pure_ (i := 14) (N := some 3) (v := ?_) (a' := ?_) #[true, true, true, true, true, true, true, true, true, true, true, true, true, true, true] rfl rfl (by kernel_rfl) (fun _ _ _ h => h) (Or.inl ⟨by rfl, ?_⟩) ?_ ?_
    rotate_left
    · intro w'
      go_simp
      (try with_reducible rfl)
    rotate_left
    · simp only [Act.put, List.setIfInBounds_toArray, List.set_cons_zero, List.set_cons_succ, i64_w, i32_w]
      rfl
    refine done_ (by kernel_rfl) ?_
    go_wp2
    go_ret
    exact ⟨by simp, below_step HB.out hb5⟩

def span_Has.has_in (s : S53) (off : Int) : Bool := decide (s.f1 > 0) && decide (s.f0 ≤ off) && decide (off < s.f0 + s.f1)
def span_Has.has_ok (s : S53) : Bool := decide (0 ≤ s.f0) && decide (0 ≤ s.f1) && decide (s.f0 + s.f1 ≤ 65536)
set_option maxHeartbeats 8000000 in
set_option maxRecDepth 100000 in
theorem span_Has.has_idx (A0 : Option Addr) (c0 : Nat) (l0 : List S53) (off : Int) (g : Nat) (w : World) (hr0 : Kd.C k53 w A0 l0.length l0) (hok : ∀ s ∈ l0, span_Has.has_ok s = true) (hco : w.cell? ⟨g, 0, none⟩ = some (.int .i64 off)) :
    Calls Try.prog 31 #[.slice A0 l0.length c0, .func (.func 23) #[] #[.pointer (some ⟨g, 0, none⟩)]] w fun e w' => ∃ q : Int, e = .returned (.int .i64 q) ∧ decide (q ≥ 0) = l0.any (fun s => span_Has.has_in s off) ∧ Below w.heap.size w w' := by
  have hu53 := Try.underlying53
  have hbig : l0.length ≤ 9223372036854775807 := hr0.2.1
  have eg : ∀ args w, (callFunc 23 args).run Try.prog w = .ok (.enter 23 args) w := Go.Proofs.enters_of Try.func23 (by kernel_rfl) rfl
  have hHR := Aside0.mk hr0
  clear hr0
  go_enter Try.func31, Try.ntmps31
  go_wp2
  go_loopg [5, 8] l0.length (fun gg _ s8 wr => ∃ kk : Nat, kk ≤ l0.length ∧ l0.length - kk ≤ gg ∧ s8 = .int .i64 kk ∧ Aside (Below w.heap.size w wr) ∧ Aside ((l0.take kk).any (fun s => span_Has.has_in s off) = false))
  case atStart => exact ⟨0, Nat.zero_le _, by omega, rfl, Below.refl _ w, rfl⟩
  case round =>
    obtain ⟨kk, hkk, hg, rfl, BW, A⟩ := hrel
    by_cases hlt : kk < l0.length
    · have hltz : (kk : Int) < (l0.length : Int) := by omega
      have h0 : (0 : Int) ≤ (kk : Int) := by omega
      obtain ⟨ad, e0, hx0, hx1⟩ := at_T53 hHR.out (kk : Int) h0 hltz
      cases e0
      replace hx0 := (BW.out.cell (World.block_lt_of_cell? w _ hx0)).trans hx0
      replace hx1 := (BW.out.cell (World.block_lt_of_cell? w _ hx1)).trans hx1
      have hcow := (BW.out.cell (World.block_lt_of_cell? w _ hco)).trans hco
      have hrd : rd_T53 l0 (kk : Int) = l0[kk] := by simp only [rd_T53, Int.toNat_natCast]; rw [List.getD_eq_getElem?_getD, List.getElem?_eq_getElem hlt]; rfl
      have hk := hok _ (List.getElem_mem hlt)
      have hstep : (l0.take (kk + 1)).any (fun s => span_Has.has_in s off) = span_Has.has_in l0[kk] off := by
        rw [List.take_add_one, List.getElem?_eq_getElem hlt, List.any_append, A.out]; simp
      rw [← hrd] at hk hstep
      have hall : span_Has.has_in (rd_T53 l0 (kk : Int)) off = true → l0.any (fun s => span_Has.has_in s off) = true := fun h => by
        rw [hrd] at h
        exact List.any_eq_true.2 ⟨_, List.getElem_mem hlt, h⟩
      clear hrd hok
      generalize rd_T53 l0 (kk : Int) = s at *
      simp only [span_Has.has_ok, Bool.and_eq_true, decide_eq_true_eq] at hk
      have hcall := span_Has.clos s.f0 s.f1 off g wr hk.1.1 hk.1.2 hk.2 hcow
      have HS := Aside0.mk hstep
      have HA := Aside0.mk hall
      clear hstep hall hk
      obtain ⟨b, hb⟩ : ∃ b, span_Has.has_in s off = b := ⟨_, rfl⟩
      rw [show (decide (s.f1 > 0) && decide (s.f0 ≤ off) && decide (off < s.f0 + s.f1)) = b from hb] at hcall
      have HBb := Aside0.mk hb
      clear hb
      rw [show ((kk : Int)).toNat = kk from Int.toNat_natCast kk] at hx0 hx1
      cases b with
      | true =>
        go_wp2_with (go_at_fn 23; refine hcall.mono ?_; rintro e w' ⟨rfl, hb'⟩)
        go_ret
        exact ⟨_, rfl, by rw [HA.out HBb.out]; exact decide_eq_true (by omega), below_step BW.out hb'⟩
      | false =>
        go_wp2_with (go_at_fn 23; refine hcall.mono ?_; rintro e w' ⟨rfl, hb'⟩)
        go_roundg (l0.length - (kk + 1))
        case measure => omega
        case rel => exact ⟨kk + 1, by omega, by omega, by go_num, below_step BW.out hb', show Aside (_ = false) from HS.out.trans HBb.out⟩
    · have hltz : ¬ (kk : Int) < (l0.length : Int) := by omega
      have hk : kk = l0.length := by omega
      have HA : Aside (l0.any (fun s => span_Has.has_in s off) = false) := by have h := A.out; rw [hk, List.take_length] at h; exact h
      go_wp2
      go_ret
      exact ⟨_, rfl, by rw [HA.out]; decide, BW.out⟩

set_option maxHeartbeats 8000000 in
set_option maxRecDepth 100000 in
theorem span_Has.has_cf (A0 : Option Addr) (c0 : Nat) (l0 : List S53) (off : Int) (g : Nat) (w : World) (hr0 : Kd.C k53 w A0 l0.length l0) (hok : ∀ s ∈ l0, span_Has.has_ok s = true) (hco : w.cell? ⟨g, 0, none⟩ = some (.int .i64 off)) :
    Calls Try.prog 22 #[.slice A0 l0.length c0, .func (.func 23) #[] #[.pointer (some ⟨g, 0, none⟩)]] w fun e w' => e = .returned (.bool (l0.any (fun s => span_Has.has_in s off))) ∧ Below w.heap.size w w' := by
  have hcall := span_Has.has_idx A0 c0 l0 off g w hr0 hok hco
  clear hr0 hok hco
  go_enter Try.func22, Try.ntmps22
  go_wp2_with (go_at_call 31; refine hcall.mono ?_; rintro e w' ⟨q, rfl, hq, hb'⟩)
  go_ret
  exact ⟨by rw [← hq]; rfl, hb'⟩
def span_Has.f (l0 : List S53) (a1 : Int) : Option Bool := if l0.all span_Has.has_ok = true then some (l0.any fun s => span_Has.has_in s a1) else none
set_option maxHeartbeats 8000000 in
set_option maxRecDepth 100000 in
theorem span_Has.calls (A0 : Option Addr) (c0 : Nat) (l0 : List S53) (a1 : Int) (r : Bool) (w : World) (hr0 : Kd.C k53 w A0 l0.length l0) (hc0 : l0.length ≤ c0) (h : span_Has.f l0 a1 = some r) :
    Calls Try.prog 12 #[.slice A0 l0.length c0, .int .i64 a1] w fun e w' => e = .returned (.bool r) ∧ Below w.heap.size w w' := by
  unfold span_Has.f at h
  by_cases hok : l0.all span_Has.has_ok = true
  · rw [if_pos hok] at h
    obtain rfl := Option.some.inj h
    clear h
    have HOK := Aside0.mk (List.all_eq_true.1 hok)
    have HR := Aside0.mk hr0
    clear hok hr0
    go_enter Try.func12, Try.ntmps12
    go_wp2_with (first | ((with_reducible refine gate_dst (N := 3) rfl ?_); refine box_event ?hg (N := 3) ?hd (cs := #[.int .i64 a1]) (t := 3) ?hr ?_; (case hd => rfl); (case hg => rfl); (case hr => first | (go_simp; done) | (go_simp; rfl)); intro gb hg w2 hbox hb; have hco := (blk_cell hbox 0).trans rfl; have HC := Aside0.mk hco; have HB := Aside0.mk hb; clear hb hbox hg hco) | (go_at_call 22; refine (span_Has.has_cf A0 c0 l0 a1 gb _ (Kd.C_below HR.out HB.out) HOK.out HC.out).mono ?_; rintro e w' ⟨rfl, hb'⟩))
    go_ret
    exact ⟨rfl, below_step HB.out hb'⟩
  · rw [if_neg hok] at h
    exact absurd h (by simp)

/-! ### wrackkeep1_SourceBad: function 3 -/
set_option maxHeartbeats 2000000 in
set_option maxRecDepth 100000 in
theorem wrackkeep1_SourceBad.lawx (k : Nat) (A0 : Option Addr) (c0 : Nat) (l0 : List Int) (A1 : Option Addr) (c1 : Nat) (l1 : List Int) (a2 : Int) (w : World) (hr0 : Kd.C (Kd.int .i64) w A0 l0.length l0) (hc0 : l0.length ≤ c0) (hr1 : Kd.C (Kd.int .i64) w A1 l1.length l1) (hc1 : l1.length ≤ c1)
    (b : List Int) (h1 : wrackmake_Image.f k l0 = some b) (q : List S53) (h2 : wrackmake_Spans.f k l1 (b.length : Int) 5 = some q) (r : List S53) (h3 : source_Bad.f k b q = some r) (h4 : wrackkeep1_sources.f k = some true) (h5 : wrackkeep1_spans.f k = some true)
    (p : Int) (h6 : wrackmake_Below.f a2 (b.length : Int) = some p) (x : List Int) (y : Int) (h7 : source_image_Read.f k b r p 1 = some (x, y)) (t : Bool) (h8 : span_Has.f q p = some t)
    (h9 : (t = true ∧ y = 19 ∧ x.length = 0) ∨ (t = false ∧ y = 0 ∧ x.length = 1 ∧ 0 ≤ p ∧ p < (b.length : Int) ∧ rd x 0 = rd b p)) :
    Calls Try.prog 3 #[.slice A0 l0.length c0, .slice A1 l1.length c1, .int .i64 a2] w fun e w' => e = .returned (.bool true) ∧ Below w.heap.size w w' := by
  have HR0 := Aside0.mk hr0
  have HR1 := Aside0.mk hr1
  have HC0 := Aside0.mk hc0
  have HC1 := Aside0.mk hc1
  have H1 := Aside0.mk h1
  have H2 := Aside0.mk h2
  have H3 := Aside0.mk h3
  have H4 := Aside0.mk h4
  have H5 := Aside0.mk h5
  have H6 := Aside0.mk h6
  have H7 := Aside0.mk h7
  have H8 := Aside0.mk h8
  have H9 := Aside0.mk h9
  clear hr0 hr1 hc0 hc1 h1 h2 h3 h4 h5 h6 h7 h8 h9
  go_enter Try.func3, Try.ntmps3
  go_upto_region 2 with (go_at_call 6; refine (wrackmake_Image.calls k A0 c0 l0 b _ HR0.out HC0.out H1.out).mono ?_; rintro e w1 ⟨v1, rfl, hR, hb⟩; have HRb := Aside0.mk hR; have HB1 := Aside0.mk hb; clear hR hb; obtain ⟨Ab, cb, eb⟩ := Kd.R_slice HRb.out; subst eb)
  have HR1' := Aside0.mk (Kd.C_below HR1.out HB1.out)
  go_upto_region 3 with (go_at_call 7; refine (wrackmake_Spans.calls k A1 c1 l1 (b.length : Int) 5 q _ HR1'.out HC1.out H2.out).mono ?_; rintro e w2 ⟨v2, rfl, hR, hb⟩; have HRq := Aside0.mk hR; have HS2 := Aside0.mk hb; have HB2 := Aside0.mk (below_step HB1.out hb); clear hR hb; obtain ⟨Aq, cq, eq⟩ := Kd.R_slice HRq.out; subst eq)
  have HCb := Aside0.mk (Kd.C_below (Kd.R_reads' HRb.out).2.2 HS2.out)
  have HLb := Aside0.mk (Kd.R_reads' HRb.out).2.1
  have HCq := Aside0.mk (Kd.R_reads' HRq.out).2.2
  have HLq := Aside0.mk (Kd.R_reads' HRq.out).2.1
  clear HRb HRq HR1' HS2 HB1
  go_upto_region 4 with (go_at_call 8; refine (source_Bad.calls k Ab cb b Aq cq q r _ HCb.out HLb.out HCq.out HLq.out H3.out).mono ?_; rintro e w3 ⟨g, rfl, hI, hb⟩; have HI := Aside0.mk hI; have HS3 := Aside0.mk hb; have HB3 := Aside0.mk (below_step HB2.out hb); clear hI hb)
  have HCb3 := Aside0.mk (Kd.C_below HCb.out HS3.out)
  have HCq3 := Aside0.mk (Kd.C_below HCq.out HS3.out)
  clear HCb HCq HS3 HB2
  go_upto_region 6 with (first | (go_at_call 9; refine (wrackkeep1_sources.calls k true _ H4.out).mono ?_; rintro e w4 ⟨rfl, hb⟩; have HS4 := Aside0.mk hb; have HB4 := Aside0.mk (below_step HB3.out hb); clear hb) | (go_at_call 10; refine (wrackkeep1_spans.calls k true _ H5.out).mono ?_; rintro e w5 ⟨rfl, hb⟩; have HS5 := Aside0.mk (below_step HS4.out hb); have HB5 := Aside0.mk (below_step HB4.out hb); clear hb))
  have HI5 := Aside0.mk (HI.out.below HS5.out)
  have HCb5 := Aside0.mk (Kd.C_below HCb3.out HS5.out)
  have HCq5 := Aside0.mk (Kd.C_below HCq3.out HS5.out)
  clear HI HCb3 HCq3 HS4 HS5 HB3 HB4
  go_upto_region 7 with (go_at_call 11; refine (wrackmake_Below.calls a2 (b.length : Int) p _ H6.out).mono ?_; rintro e w6 ⟨rfl, nd, rfl⟩)
  have HB6 := Aside0.mk (below_step HB5.out (pw_below_drewN (Below.refl _ _) nd))
  have HI6 := Aside0.mk (HI5.out.below (pw_below_drewN (Below.refl _ _) nd))
  have HCb6 := Aside0.mk (Kd.C_below HCb5.out (pw_below_drewN (Below.refl _ _) nd))
  have HCq6 := Aside0.mk (Kd.C_below HCq5.out (pw_below_drewN (Below.refl _ _) nd))
  clear HI5 HCb5 HCq5 HB5
  generalize w5.drewN nd = W6 at HB6 HI6 HCb6 HCq6 ⊢
  have m2 := img_read ⟨g, 0, none⟩
  go_upto_region 8 with (go_at_call 67; refine (source_image_Read.calls k g b r p 1 x y _ HI6.out H7.out).mono ?_; rintro e w7 ⟨v, rfl, hR, hb⟩; have HR := Aside0.mk hR; have HS7 := Aside0.mk hb; have HB7 := Aside0.mk (below_step HB6.out hb); clear hR hb; obtain ⟨Ax, cx, ex⟩ := Kd.R_slice HR.out; subst ex)
  clear m2
  have HCx := Aside0.mk (Kd.R_reads' HR.out).2.2
  have HCb7 := Aside0.mk (Kd.C_below HCb6.out HS7.out)
  have HCq7 := Aside0.mk (Kd.C_below HCq6.out HS7.out)
  clear HR HI6 HCb6 HCq6 HS7 HB6
  rcases H9.out with ⟨rfl, rfl, e2⟩ | ⟨rfl, rfl, e2, e3, e4, e5⟩
  · have t1 : ((x.length : Int) == 0) = true := by rw [e2]; rfl
    have t2 : (x.length == 0) = true := by rw [e2]; rfl
    clear e2 H9
    go_wp2_with (go_at_call 12; refine (span_Has.calls Aq cq q p true _ HCq7.out HLq.out H8.out).mono ?_; rintro e w8 ⟨rfl, hb⟩; have HB8 := Aside0.mk (below_step HB7.out hb); clear hb)
    go_ret
    exact ⟨by first | rfl | simp, HB8.out⟩
  · have t1 : ((x.length : Int) == 1) = true := by rw [e2]; rfl
    have t2 : (x.length == 1) = true := by rw [e2]; rfl
    go_upto_region 10 with (go_at_call 12; refine (span_Has.calls Aq cq q p false _ HCq7.out HLq.out H8.out).mono ?_; rintro e w8 ⟨rfl, hb⟩; have HB8 := Aside0.mk (below_step HB7.out hb); have HS8 := Aside0.mk hb; clear hb)
    obtain ⟨ax, a1, x0⟩ := Kd.at_int (Kd.C_below HCx.out HS8.out) 0 (by omega) (by omega)
    obtain ⟨ab, a3, x1⟩ := Kd.at_int (Kd.C_below HCb7.out HS8.out) p e3 e4
    cases a1
    cases a3
    rw [show ((0 : Int)).toNat = 0 from rfl, Addr.add_zero'] at x0
    have t3 : (rd x 0 == rd b p) = true := by rw [e5]; exact beq_self_eq_true _
    have q0 : (0 : Int) < (x.length : Int) := by omega
    have q0b : decide ((0 : Int) < (x.length : Int)) = true := decide_eq_true q0
    have q0c : decide (0 < x.length) = true := decide_eq_true (by omega)
    clear e5 H9 e2
    go_wp2
    go_quiet (fail)
    go_wp2
    go_ret
    exact ⟨by first | rfl | simp, pw_below_drewN HB8.out _⟩
def wrackkeep1_SourceBad.f (k : Nat) (l0 l1 : List Int) (a2 : Int) : Option Bool :=
  (wrackmake_Image.f k l0).bind fun b => (wrackmake_Spans.f k l1 (b.length : Int) 5).bind fun q => (source_Bad.f k b q).bind fun r => (wrackkeep1_sources.f k).bind fun s1 => (wrackkeep1_spans.f k).bind fun s2 => (wrackmake_Below.f a2 (b.length : Int)).bind fun p =>
  (source_image_Read.f k b r p 1).bind fun x => (span_Has.f q p).bind fun t =>
  if s1 = true ∧ s2 = true ∧ ((t = true ∧ x.2 = 19 ∧ x.1.length = 0) ∨ (t = false ∧ x.2 = 0 ∧ x.1.length = 1 ∧ 0 ≤ p ∧ p < (b.length : Int) ∧ rd x.1 0 = rd b p)) then some true else none
theorem wrackkeep1_SourceBad.calls (k : Nat) (A0 : Option Addr) (c0 : Nat) (l0 : List Int) (A1 : Option Addr) (c1 : Nat) (l1 : List Int) (a2 : Int) (r : Bool) (w : World) (hr0 : Kd.C (Kd.int .i64) w A0 l0.length l0) (hc0 : l0.length ≤ c0) (hr1 : Kd.C (Kd.int .i64) w A1 l1.length l1) (hc1 : l1.length ≤ c1) (h : wrackkeep1_SourceBad.f k l0 l1 a2 = some r) :
    Calls Try.prog 3 #[.slice A0 l0.length c0, .slice A1 l1.length c1, .int .i64 a2] w fun e w' => e = .returned (.bool r) ∧ Below w.heap.size w w' := by
  unfold wrackkeep1_SourceBad.f at h
  obtain ⟨b, h1, h⟩ := Option.bind_eq_some_iff.mp h
  obtain ⟨q, h2, h⟩ := Option.bind_eq_some_iff.mp h
  obtain ⟨r', h3, h⟩ := Option.bind_eq_some_iff.mp h
  obtain ⟨s1, h4, h⟩ := Option.bind_eq_some_iff.mp h
  obtain ⟨s2, h5, h⟩ := Option.bind_eq_some_iff.mp h
  obtain ⟨p, h6, h⟩ := Option.bind_eq_some_iff.mp h
  obtain ⟨⟨x, y⟩, h7, h⟩ := Option.bind_eq_some_iff.mp h
  obtain ⟨t, h8, h⟩ := Option.bind_eq_some_iff.mp h
  simp only at h
  split at h
  case isFalse => exact absurd h (by simp)
  case isTrue hh =>
    obtain rfl := Option.some.inj h
    obtain ⟨rfl, rfl, h9⟩ := hh
    exact wrackkeep1_SourceBad.lawx k A0 c0 l0 A1 c1 l1 a2 w hr0 hc0 hr1 hc1 b h1 q h2 r' h3 h4 h5 p h6 x y h7 t h8 h9
/-- THE ONE PURE STATEMENT of wrackkeep1_SourceBad. -/
def wrackkeep1_SourceBad.Pure : Prop := ∀ (l0 : List Int) (l1 : List Int) (a2 : Int), l0.length ≤ maxLen → l0.length * 8 ≤ 140737488351232 → (∀ x ∈ l0, (Lit.int .i64 x).wf = true) → l1.length ≤ maxLen → l1.length * 8 ≤ 140737488351232 → (∀ x ∈ l1, (Lit.int .i64 x).wf = true) → (Lit.int .i64 a2).wf = true → ∃ k, wrackkeep1_SourceBad.f k l0 l1 a2 = some true
theorem wrackkeep1_SourceBad.walk (P : wrackkeep1_SourceBad.Pure) (a0 : Option Addr) (len0 cap0 : Nat) (z0 : List Int) (a1 : Option Addr) (len1 cap1 : Nat) (z1 : List Int) (a2 : Int) (w : World) (w0 : (a0 = none ∧ len0 = 0 ∧ cap0 = 0 ∧ z0 = []) ∨ ∃ x, a0 = some x ∧ len0 ≤ cap0 ∧ cap0 ≤ maxLen ∧ z0.length = cap0 ∧ (∀ i, i < z0.length → w.cell? (x.add i) = some (.int .i64 (z0.getD i 0))) ∧ ∀ n ∈ z0, (Lit.int .i64 n).wf = true) (y0 : len0 * 8 ≤ 140737488351232) (w1 : (a1 = none ∧ len1 = 0 ∧ cap1 = 0 ∧ z1 = []) ∨ ∃ x, a1 = some x ∧ len1 ≤ cap1 ∧ cap1 ≤ maxLen ∧ z1.length = cap1 ∧ (∀ i, i < z1.length → w.cell? (x.add i) = some (.int .i64 (z1.getD i 0))) ∧ ∀ n ∈ z1, (Lit.int .i64 n).wf = true) (y1 : len1 * 8 ≤ 140737488351232) (w2 : (Lit.int .i64 a2).wf = true) :
    Calls Try.prog 3 #[.slice a0 len0 cap0, .slice a1 len1 cap1, .int .i64 a2] w fun e w' => e = .returned (.bool true) ∧ Below w.heap.size w w' := by
  obtain ⟨l0, rfl, hr0, hm0, hw0, hc0⟩ := ReadsInt.ofRowC w0
  obtain ⟨l1, rfl, hr1, hm1, hw1, hc1⟩ := ReadsInt.ofRowC w1
  obtain ⟨k, h⟩ := P l0 l1 a2 hm0 y0 hw0 hm1 y1 hw1 w2
  exact wrackkeep1_SourceBad.calls k _ _ l0 _ _ l1 a2 true w (Kd.C_of_reads (d := (0 : Int)) (h1 := fun _ => rfl) hr0) hc0 (Kd.C_of_reads (d := (0 : Int)) (h1 := fun _ => rfl) hr1) hc1 h

end Go.Proofs.Ytoanpgeijokgpaa.PSourceBad
