-- written by prn.py, a program of this session, over the kit's printer
import Derived.Test.YtcnabemeadnecaaPPassPlansx0
import Derived.Test.YtcnabemeadnecaaPPassPlansx1
import Derived.Test.YtcnabemeadnecaaPPassPlansx2
import Derived.Test.YtcnabemeadnecaaPPassPlansx4
import Derived.Test.YtcnabemeadnecaaPPassPlansx5
import Derived.Test.YtcnabemeadnecaaPPassPlansx6
import Derived.Test.YtcnabemeadnecaaPPassPlansx7
namespace Go.Proofs.Ytcnabemeadnecaa.PPassPlans
open Go.RowKit Go.Proofs.YtcnabemeadnecaaW.PrintWords Go.Proofs.YtcnabemeadnecaaW.PrintLast Go.Proofs.YtcnabemeadnecaaW.PrintMore Go.Proofs.YtcnabemeadnecaaW.PrintMine
attribute [local go_sem] max2_int min2_int max_two min_two max_three min_three max_four min_four   -- for this text's walks alone
set_option linter.unusedVariables false
set_option linter.unusedSimpArgs false

/-! ### wrackkeep1_PassPlans: function 5 -/
set_option maxHeartbeats 4000000 in
set_option maxRecDepth 100000 in
theorem wrackkeep1_PassPlans.lawx (k : Nat) (A0 : Option Addr) (c0 : Nat) (l0 : List Int) (a1 a2 a3 a4 : Int) (w : World) (hr0 : Kd.C (Kd.int .i64) w A0 l0.length l0) (hc0 : l0.length ≤ c0)
    (D : List Int) (F : List S59) (Ks Ts : Nat → Nat) (nb : Nat) (ft : Nat → Int × Int × Int) (Js : Nat → JS) (h1 : wrackmake_Drive.f k l0 = some (D, F)) (h2 : drive_New.f k D F = some ()) (h4 : wrackkeep1_plan.f a1 a3 = some (((Ks 0 : Nat) : Int), ((Ts 0 : Nat) : Int))) (h5 : wrackkeep1_plan.f a2 a3 = some (((Ks 1 : Nat) : Int), ((Ts 1 : Nat) : Int))) (h6 : wrackkeep1_plan.f a2 (wrap64 (a3 + a4)) = some (((Ks 2 : Nat) : Int), ((Ts 2 : Nat) : Int)))
    (hK : ∀ x < 3, Ks x ≤ 64 ∧ 1 ≤ Ts x ∧ Ts x ≤ 16) (hnb : 1 ≤ nb) (hD : D.length = 64 * nb) (hD2 : D.length ≤ 65536)
    (hf : ∀ a < nb, drive_fault.f k D F (a : Int) = some (ft a) ∧ 0 ≤ ansT (ft a) ∧ ansT (ft a) ≤ 100)
    (p1 : drive_New.f k (List.replicate 192 0) [(⟨0, 1, 0⟩ : S59)] = some ()) (p2 : ∀ a < 3, drive_fault.f k (List.replicate 192 0) [(⟨0, 1, 0⟩ : S59)] ((a : Nat) : Int) = some (pft a)) (p3 : slices_Equal_int_int.f k [0, 2, 1] [0, 2, 1] = some true)
    (hJ : ∀ x < 3, runJ D ft (Ks x) (Ts x) nb = Js x) (hS : ∀ x < 3, (Js x).S.length = nb) (e1 : slices_Equal_byte_byte.f k (Js 0).B (Js 1).B = some true) (e2 : slices_Equal_int_int.f k (Js 0).S (Js 1).S = some true) (e3 : (Js 0).tm = (Js 1).tm)
    (b1 : bestJ Js 2 ≠ 1) (b2 : (Js 0).S.count 1 ≤ (Js (bestJ Js 2)).S.count 1) (b3 : (Js 2).S.count 1 ≤ (Js (bestJ Js 2)).S.count 1) :
    Calls Try.prog 5 #[.slice A0 l0.length c0, .int .i64 a1, .int .i64 a2, .int .i64 a3, .int .i64 a4] w fun e w' => e = .returned (.bool true) ∧ Below w.heap.size w w' := by
  have HR0 := Aside0.mk hr0
  have HC0 := Aside0.mk hc0
  have H1 := Aside0.mk h1
  have H2 := Aside0.mk h2
  have H4 := Aside0.mk h4
  have H5 := Aside0.mk h5
  have H6 := Aside0.mk h6
  have HK := Aside0.mk hK
  have HD := Aside0.mk hD
  have HF := Aside0.mk hf
  have HP := Aside0.mk (And.intro p1 (And.intro p2 p3))
  have HJ := Aside0.mk hJ
  have HSL := Aside0.mk hS
  have HE := Aside0.mk (And.intro e1 (And.intro e2 e3))
  have HBB := Aside0.mk (And.intro b1 (And.intro b2 b3))
  have hnb2 : nb ≤ 1024 := by omega
  clear hr0 hc0 h1 h2 h4 h5 h6 hK hD hf p1 p2 p3 hJ hS e1 e2 e3 b1 b2 b3
  have hu26 := Try.underlying26
  have hu43 := Try.underlying43
  have hu46 := Try.underlying46
  go_enter Try.func5, Try.ntmps5
  go_upto_region 2 with (first | (go_at_call 6; refine (wrackmake_Drive.calls k A0 c0 l0 D F _ HR0.out HC0.out H1.out).mono ?_; rintro e w1 ⟨v1, v2, rfl, hR1, hR2, hb⟩; have HB1 := Aside0.mk hb; have HRD1 := Aside0.mk hR1; have HRF1 := Aside0.mk hR2; clear hR1 hR2 hb; obtain ⟨AD, cD, eD⟩ := Kd.R_slice HRD1.out; subst eD; obtain ⟨AF, cF, eF⟩ := Kd.R_slice HRF1.out; subst eF) | ((with_reducible refine gate_dst (N := 11) rfl ?_); refine box_event ?hg (N := 11) ?hd (cs := #[.slice none 0 0, .slice none 0 0]) (t := 26) ?hr ?_; (case hd => rfl); (case hg => rfl); (case hr => first | (go_simp; done) | (go_simp; rfl)); intro g11 hg w2 hbox hb; have GE11 := Aside0.mk (by rw [hg]; exact Nat.le_refl _ : w1.heap.size ≤ g11); have BK11 := Aside0.mk hbox; have HB2 := Aside0.mk hb; have u0 : w2.cell? ⟨g11, 0, none⟩ = some (.slice none 0 0) := (blk_cell BK11.out 0).trans rfl; have u1 : w2.cell? ⟨g11, 1, none⟩ = some (.slice none 0 0) := (blk_cell BK11.out 1).trans rfl; have uf0 := blk_frozen BK11.out 0; have uf1 := blk_frozen BK11.out 1; clear hb hbox hg))
  obtain ⟨y1, y2, y3⟩ := put2 BK11.out (.slice AD D.length cD) (.slice AF F.length cF)
  have hb3 := y3 _ _ HB2.out GE11.out
  clear u0 u1 uf0 uf1 y2 y3
  generalize (w2.setCell ⟨g11, 0, none⟩ (.slice AD D.length cD)).setCell ⟨g11, 1, none⟩ (.slice AF F.length cF) = W3 at y1 hb3 ⊢
  have HT3 := Aside0.mk hb3
  have BKD := Aside0.mk y1
  have HRD3 := Aside0.mk (Kd.R_below HRD1.out hb3)
  have HRF3 := Aside0.mk (Kd.R_below HRF1.out hb3)
  have HW3 := Aside0.mk (below_step HB1.out hb3)
  clear hb3 y1 BK11 HB2 HRD1 HRF1 HB1 HT3 GE11
  go_upto_region 3 with (first | (go_at_call 16; first | (with_reducible refine (wrackkeep1_plan.calls a1 a3 _ _ _ H4.out).mono ?_; rintro e w4 ⟨rfl, hb⟩; have HT4 := Aside0.mk hb; clear hb) | (with_reducible refine (wrackkeep1_plan.calls a2 a3 _ _ _ H5.out).mono ?_; rintro e w5 ⟨rfl, hb⟩; have HT5 := Aside0.mk (below_step HT4.out hb); clear hb)) | ((with_reducible refine gate_dst (N := 12) rfl ?_); refine box_event ?hg (N := 12) ?hd (cs := #[.int .i64 0, .int .i64 0]) (t := 43) ?hr ?_; (case hd => rfl); (case hg => rfl); (case hr => first | (go_simp; done) | (go_simp; rfl)); intro g12 hg w6 hbox hb; have GE12 := Aside0.mk (by rw [hg]; exact HT5.out.size : W3.heap.size ≤ g12); have BK12 := Aside0.mk hbox; have HT6 := Aside0.mk (below_step HT5.out hb); clear hb hbox hg) | ((with_reducible refine gate_dst (N := 13) rfl ?_); refine box_event ?hg (N := 13) ?hd (cs := #[.int .i64 0, .int .i64 0]) (t := 43) ?hr ?_; (case hd => rfl); (case hg => rfl); (case hr => first | (go_simp; done) | (go_simp; rfl)); intro g13 hg w7 hbox hb; have GE13 := Aside0.mk (by rw [hg]; exact HT6.out.size : W3.heap.size ≤ g13); have GF13 := Aside0.mk (by rw [hg]; exact Nat.le_refl _ : w6.heap.size ≤ g13); have BK13 := Aside0.mk hbox; have HT7 := Aside0.mk (below_step HT6.out hb); have BK12b := Aside0.mk (blk_below BK12.out hb); have u0 : w7.cell? ⟨g12, 0, none⟩ = some (.int .i64 0) := (blk_cell BK12b.out 0).trans rfl; have u1 : w7.cell? ⟨g12, 1, none⟩ = some (.int .i64 0) := (blk_cell BK12b.out 1).trans rfl; have f0 := blk_frozen BK12b.out 0; have f1 := blk_frozen BK12b.out 1; have u2 : w7.cell? ⟨g13, 0, none⟩ = some (.int .i64 0) := (blk_cell BK13.out 0).trans rfl; have u3 : w7.cell? ⟨g13, 1, none⟩ = some (.int .i64 0) := (blk_cell BK13.out 1).trans rfl; have f2 := blk_frozen BK13.out 0; have f3 := blk_frozen BK13.out 1; have ne23 : g12 ≠ g13 := Nat.ne_of_lt (Nat.lt_of_lt_of_le (blk_lt BK12.out) GF13.out); have ne32 : g13 ≠ g12 := Ne.symm ne23; clear hb hbox hg))
  obtain ⟨x1, x2, x3⟩ := put2 BK12b.out (.int .i64 (Ks 0)) (.int .i64 (Ts 0))
  obtain ⟨y1, y2, y3⟩ := put2 ((x2 g13 ne32).trans BK13.out) (.int .i64 (Ks 1)) (.int .i64 (Ts 1))
  have hs8 := y3 _ _ (x3 _ _ HT7.out GE12.out) GE13.out
  have bk12 := (y2 g12 ne23).trans x1
  clear u0 u1 u2 u3 f0 f1 f2 f3 x1 x2 x3 y2 y3
  generalize (((w7.setCell ⟨g12, 0, none⟩ (.int .i64 (Ks 0))).setCell ⟨g12, 1, none⟩ (.int .i64 (Ts 0))).setCell ⟨g13, 0, none⟩ (.int .i64 (Ks 1))).setCell ⟨g13, 1, none⟩ (.int .i64 (Ts 1)) = W8 at y1 hs8 bk12 ⊢
  have BK12 := Aside0.mk bk12
  have BK13 := Aside0.mk y1
  have BK11 := Aside0.mk (blk_below BKD.out hs8)
  have HW8 := Aside0.mk (below_step HW3.out hs8)
  have HRD8 := Aside0.mk (Kd.R_below HRD3.out hs8)
  have HRF8 := Aside0.mk (Kd.R_below HRF3.out hs8)
  have HD1 := Aside0.mk (Kd.R_reads' HRD8.out).2.2
  have HD2 := Aside0.mk (Kd.R_reads' HRD8.out).2.1
  have HF1 := Aside0.mk (Kd.R_reads' HRF8.out).2.2
  have HF2 := Aside0.mk (Kd.R_reads' HRF8.out).2.1
  clear hs8 bk12 y1 BK12b BKD HRD3 HRF3 HRD8 HRF8 HT4 HT5 HT6 HT7 GE12 GE13 GF13 ne23 ne32 HW3
  have HLW : Aside0 (∀ w', Below W8.heap.size W8 w' → w'.cell? ⟨g11, 0, none⟩ = some (.slice AD D.length cD) ∧ w'.cell? ⟨g11, 1, none⟩ = some (.slice AF F.length cF) ∧ w'.cell? ⟨g12, 0, none⟩ = some (.int .i64 (Ks 0)) ∧ w'.cell? ⟨g12, 1, none⟩ = some (.int .i64 (Ts 0)) ∧ w'.cell? ⟨g13, 0, none⟩ = some (.int .i64 (Ks 1)) ∧ w'.cell? ⟨g13, 1, none⟩ = some (.int .i64 (Ts 1)) ∧ Kd.C (Kd.int .u8) w' AD D.length D ∧ Kd.C k59 w' AF F.length F) := ⟨fun w' hb =>
    ⟨(blk_cell (blk_below BK11.out hb) 0).trans rfl, (blk_cell (blk_below BK11.out hb) 1).trans rfl, (blk_cell (blk_below BK12.out hb) 0).trans rfl, (blk_cell (blk_below BK12.out hb) 1).trans rfl, (blk_cell (blk_below BK13.out hb) 0).trans rfl, (blk_cell (blk_below BK13.out hb) 1).trans rfl, Kd.C_below HD1.out hb, Kd.C_below HF1.out hb⟩⟩
  clear BK11 BK12 BK13
  have HS8 := Aside0.mk (Below.refl W8.heap.size W8)
  obtain ⟨x0, x1, x2, x3, x4, x5, hcd, hcf⟩ := HLW.out W8 HS8.out
  have HCD := Aside0.mk hcd
  have HCF := Aside0.mk hcf
  clear hcd hcf
  go_upto_region 4 with (first | (go_at_call 17; have HC := (pass_Run.calls k AD cD D AF cF F (Ks 0) (Ts 0) nb ft _ HCD.out HD2.out HCF.out HF2.out H2.out (HK.out 0 (by omega)).1 (HK.out 0 (by omega)).2.1 (HK.out 0 (by omega)).2.2 hnb HD.out hD2 HF.out); rw [HJ.out 0 (by omega)] at HC; refine HC.mono ?_; clear HC; rintro e w9a ⟨vS, vB, vR, rfl, hS3, hB3, hR3, hb⟩; obtain ⟨gS0, cS0, eS, -⟩ := Kd.R_form hS3 (by rw [HSL.out 0 (by omega)]; omega); subst eS; obtain ⟨AB0, cB0, eB⟩ := Kd.R_slice hB3; subst eB; obtain ⟨AR0, cR0, eR⟩ := Kd.R_slice hR3; subst eR; have HRa := Aside0.mk hS3; have HRb := Aside0.mk hB3; have HTa := Aside0.mk hb; clear hb hR3 hS3 hB3) | ((with_reducible refine gate_dst (N := 14) rfl ?_); refine box_event ?hg (N := 14) ?hd (cs := #[.slice none 0 0, .slice none 0 0, .slice none 0 0, .int .i64 0]) (t := 46) ?hr ?_; (case hd => rfl); (case hg => rfl); (case hr => first | (go_simp; done) | (go_simp; rfl)); intro g14 hg w9b hbox hb; have GE14 := Aside0.mk (by rw [hg]; exact Nat.le_refl _ : w9a.heap.size ≤ g14); have BK14 := Aside0.mk hbox; have HTb := Aside0.mk hb; have u0 : w9b.cell? ⟨g14, 0, none⟩ = some (.slice none 0 0) := (blk_cell BK14.out 0).trans rfl; have u1 : w9b.cell? ⟨g14, 1, none⟩ = some (.slice none 0 0) := (blk_cell BK14.out 1).trans rfl; have u2 : w9b.cell? ⟨g14, 2, none⟩ = some (.slice none 0 0) := (blk_cell BK14.out 2).trans rfl; have u3 : w9b.cell? ⟨g14, 3, none⟩ = some (.int .i64 0) := (blk_cell BK14.out 3).trans rfl; have uf0 := blk_frozen BK14.out 0; have uf1 := blk_frozen BK14.out 1; have uf2 := blk_frozen BK14.out 2; have uf3 := blk_frozen BK14.out 3; clear hb hbox hg))
  clear x0 x1 x2 x3 x4 x5 HCD HCF
  obtain ⟨y1, y2, y3⟩ := put4 BK14.out (.slice (some ⟨gS0, 0, none⟩) (Js 0).S.length cS0) (.slice AB0 (Js 0).B.length cB0) (.slice AR0 (Js 0).R.length cR0) (.int .i64 (Js 0).tm)
  have ht := y3 _ _ HTb.out GE14.out
  clear u0 u1 u2 u3 uf0 uf1 uf2 uf3 y2 y3
  generalize (((w9b.setCell ⟨g14, 0, none⟩ (.slice (some ⟨gS0, 0, none⟩) (Js 0).S.length cS0)).setCell ⟨g14, 1, none⟩ (.slice AB0 (Js 0).B.length cB0)).setCell ⟨g14, 2, none⟩ (.slice AR0 (Js 0).R.length cR0)).setCell ⟨g14, 3, none⟩ (.int .i64 (Js 0).tm) = W9 at y1 ht ⊢
  have HT9 := Aside0.mk (below_step HTa.out ht)
  have HS9 := Aside0.mk (below_step HS8.out HT9.out)
  have HRS0 := Aside0.mk (Kd.R_lower (Kd.R_below HRa.out ht) HS8.out.size)
  have HRB0 := Aside0.mk (Kd.R_lower (Kd.R_below HRb.out ht) HS8.out.size)
  replace BK14 := Aside0.mk y1
  clear ht y1 HTa HTb HRa HRb GE14
  obtain ⟨x0, x1, x2, x3, x4, x5, hcd, hcf⟩ := HLW.out W9 HS9.out
  have HCD := Aside0.mk hcd
  have HCF := Aside0.mk hcf
  clear hcd hcf
  go_upto_region 5 with (first | (go_at_call 17; have HC := (pass_Run.calls k AD cD D AF cF F (Ks 1) (Ts 1) nb ft _ HCD.out HD2.out HCF.out HF2.out H2.out (HK.out 1 (by omega)).1 (HK.out 1 (by omega)).2.1 (HK.out 1 (by omega)).2.2 hnb HD.out hD2 HF.out); rw [HJ.out 1 (by omega)] at HC; refine HC.mono ?_; clear HC; rintro e w10a ⟨vS, vB, vR, rfl, hS3, hB3, hR3, hb⟩; obtain ⟨gS1, cS1, eS, -⟩ := Kd.R_form hS3 (by rw [HSL.out 1 (by omega)]; omega); subst eS; obtain ⟨AB1, cB1, eB⟩ := Kd.R_slice hB3; subst eB; obtain ⟨AR1, cR1, eR⟩ := Kd.R_slice hR3; subst eR; have HRa := Aside0.mk hS3; have HRb := Aside0.mk hB3; have HTa := Aside0.mk hb; clear hb hR3 hS3 hB3) | ((with_reducible refine gate_dst (N := 16) rfl ?_); refine box_event ?hg (N := 16) ?hd (cs := #[.slice none 0 0, .slice none 0 0, .slice none 0 0, .int .i64 0]) (t := 46) ?hr ?_; (case hd => rfl); (case hg => rfl); (case hr => first | (go_simp; done) | (go_simp; rfl)); intro g16 hg w10b hbox hb; have GE16 := Aside0.mk (by rw [hg]; exact Nat.le_refl _ : w10a.heap.size ≤ g16); have BK16 := Aside0.mk hbox; have HTb := Aside0.mk hb; have u0 : w10b.cell? ⟨g16, 0, none⟩ = some (.slice none 0 0) := (blk_cell BK16.out 0).trans rfl; have u1 : w10b.cell? ⟨g16, 1, none⟩ = some (.slice none 0 0) := (blk_cell BK16.out 1).trans rfl; have u2 : w10b.cell? ⟨g16, 2, none⟩ = some (.slice none 0 0) := (blk_cell BK16.out 2).trans rfl; have u3 : w10b.cell? ⟨g16, 3, none⟩ = some (.int .i64 0) := (blk_cell BK16.out 3).trans rfl; have uf0 := blk_frozen BK16.out 0; have uf1 := blk_frozen BK16.out 1; have uf2 := blk_frozen BK16.out 2; have uf3 := blk_frozen BK16.out 3; clear hb hbox hg))
  clear x0 x1 x2 x3 x4 x5 HCD HCF
  obtain ⟨y1, y2, y3⟩ := put4 BK16.out (.slice (some ⟨gS1, 0, none⟩) (Js 1).S.length cS1) (.slice AB1 (Js 1).B.length cB1) (.slice AR1 (Js 1).R.length cR1) (.int .i64 (Js 1).tm)
  have ht := y3 _ _ HTb.out GE16.out
  clear u0 u1 u2 u3 uf0 uf1 uf2 uf3 y2 y3
  generalize (((w10b.setCell ⟨g16, 0, none⟩ (.slice (some ⟨gS1, 0, none⟩) (Js 1).S.length cS1)).setCell ⟨g16, 1, none⟩ (.slice AB1 (Js 1).B.length cB1)).setCell ⟨g16, 2, none⟩ (.slice AR1 (Js 1).R.length cR1)).setCell ⟨g16, 3, none⟩ (.int .i64 (Js 1).tm) = W10 at y1 ht ⊢
  have HT10 := Aside0.mk (below_step HTa.out ht)
  have HS10 := Aside0.mk (below_step HS9.out HT10.out)
  have HRS1 := Aside0.mk (Kd.R_lower (Kd.R_below HRa.out ht) HS9.out.size)
  have HRB1 := Aside0.mk (Kd.R_lower (Kd.R_below HRb.out ht) HS9.out.size)
  replace BK16 := Aside0.mk y1
  clear ht y1 HTa HTb HRa HRb GE16
  go_upto_region 6 with (first | (go_at_call 16; refine (wrackkeep1_plan.calls a2 (wrap64 (a3 + a4)) _ _ _ H6.out).mono ?_; rintro e w11a ⟨rfl, hb⟩; have HTa := Aside0.mk hb; clear hb) | ((with_reducible refine gate_dst (N := 18) rfl ?_); refine box_event ?hg (N := 18) ?hd (cs := #[.int .i64 0, .int .i64 0]) (t := 43) ?hr ?_; (case hd => rfl); (case hg => rfl); (case hr => first | (go_simp; done) | (go_simp; rfl)); intro g18 hg w11b hbox hb; have GE18 := Aside0.mk (by rw [hg]; exact Nat.le_refl _ : w11a.heap.size ≤ g18); have BK18 := Aside0.mk hbox; have HTb := Aside0.mk hb; have u0 : w11b.cell? ⟨g18, 0, none⟩ = some (.int .i64 0) := (blk_cell BK18.out 0).trans rfl; have u1 : w11b.cell? ⟨g18, 1, none⟩ = some (.int .i64 0) := (blk_cell BK18.out 1).trans rfl; have uf0 := blk_frozen BK18.out 0; have uf1 := blk_frozen BK18.out 1; clear hb hbox hg))
  obtain ⟨y1, y2, y3⟩ := put2 BK18.out (.int .i64 (Ks 2)) (.int .i64 (Ts 2))
  have ht := y3 _ _ HTb.out GE18.out
  clear u0 u1 uf0 uf1 y2 y3
  generalize (w11b.setCell ⟨g18, 0, none⟩ (.int .i64 (Ks 2))).setCell ⟨g18, 1, none⟩ (.int .i64 (Ts 2)) = W11 at y1 ht ⊢
  have HT11 := Aside0.mk (below_step HTa.out ht)
  have HS11 := Aside0.mk (below_step HS10.out HT11.out)
  replace BK18 := Aside0.mk y1
  clear ht y1 HTa HTb GE18
  obtain ⟨x0, x1, x2, x3, x4, x5, hcd, hcf⟩ := HLW.out W11 HS11.out
  have HCD := Aside0.mk hcd
  have HCF := Aside0.mk hcf
  have x6 : W11.cell? ⟨g18, 0, none⟩ = some (.int .i64 (Ks 2)) := (blk_cell BK18.out 0).trans rfl
  have x7 : W11.cell? ⟨g18, 1, none⟩ = some (.int .i64 (Ts 2)) := (blk_cell BK18.out 1).trans rfl
  clear hcd hcf
  obtain ⟨b, hb0⟩ : ∃ b, bestJ Js 2 = b := ⟨_, rfl⟩
  have hbb := HBB.out
  have hbl := bestJ_le Js 2
  rw [hb0] at hbb hbl
  have HBb := Aside0.mk hbb
  have hb02 : b = 0 ∨ b = 2 := by have := hbb.1; omega
  have hbn := blk_new W11 (.cells #[.int .i64 (Ks 0), .int .i64 (Ts 0), .int .i64 (Ks 1), .int .i64 (Ts 1), .int .i64 (Ks 2), .int .i64 (Ts 2)] 43 (0, 0))
  have hba : Below W11.heap.size W11 (W11.alloc (.cells #[.int .i64 (Ks 0), .int .i64 (Ts 0), .int .i64 (Ks 1), .int .i64 (Ts 1), .int .i64 (Ks 2), .int .i64 (Ts 2)] 43)) := below_alloc (Below.refl _ _) _
  have hsz : W11.heap.size < (W11.alloc (.cells #[.int .i64 (Ks 0), .int .i64 (Ts 0), .int .i64 (Ks 1), .int .i64 (Ts 1), .int .i64 (Ks 2), .int .i64 (Ts 2)] 43)).heap.size := by simp
  have hLL : ∀ x < 3, (W11.alloc (.cells #[.int .i64 (Ks 0), .int .i64 (Ts 0), .int .i64 (Ks 1), .int .i64 (Ts 1), .int .i64 (Ks 2), .int .i64 (Ts 2)] 43)).cell? ⟨W11.heap.size, x * 2, none⟩ = some (.int .i64 (Ks x)) ∧ (W11.alloc (.cells #[.int .i64 (Ks 0), .int .i64 (Ts 0), .int .i64 (Ks 1), .int .i64 (Ts 1), .int .i64 (Ks 2), .int .i64 (Ts 2)] 43)).cell? ⟨W11.heap.size, x * 2 + 1, none⟩ = some (.int .i64 (Ts x)) := by
    intro x hx
    have h3 : x = 0 ∨ x = 1 ∨ x = 2 := by omega
    rcases h3 with rfl | rfl | rfl
    · exact ⟨(blk_cell hbn 0).trans rfl, (blk_cell hbn 1).trans rfl⟩
    · exact ⟨(blk_cell hbn 2).trans rfl, (blk_cell hbn 3).trans rfl⟩
    · exact ⟨(blk_cell hbn 4).trans rfl, (blk_cell hbn 5).trans rfl⟩
  have hc := pass_Cheapest.calls k AD cD D AF cF F Ks Ts nb ft Js W11.heap.size 3 (W11.alloc (.cells #[.int .i64 (Ks 0), .int .i64 (Ts 0), .int .i64 (Ks 1), .int .i64 (Ts 1), .int .i64 (Ks 2), .int .i64 (Ts 2)] 43)) (Kd.C_below HCD.out hba) HD2.out (Kd.C_below HCF.out hba) HF2.out H2.out HK.out hnb HD.out hD2 HF.out hsz hLL HJ.out HSL.out
  rw [hb0] at hc
  have HC := Aside0.mk hc
  have HBA := Aside0.mk hba
  clear hc hba hLL hsz hbn hbb hbl hb0 HBB
  go_upto_region 7 with (go_at_call 19; refine HC.out.mono ?_; rintro e W12 ⟨rfl, hb⟩; have HT12 := Aside0.mk (below_step HBA.out hb); clear hb)
  clear x0 x1 x2 x3 x4 x5 x6 x7 HC HBA HCD HCF
  have HS12 := Aside0.mk (below_step HS11.out HT12.out)
  have x6 : W12.cell? ⟨g18, 0, none⟩ = some (.int .i64 (Ks 2)) := (blk_cell (blk_below BK18.out HT12.out) 0).trans rfl
  have x7 : W12.cell? ⟨g18, 1, none⟩ = some (.int .i64 (Ts 2)) := (blk_cell (blk_below BK18.out HT12.out) 1).trans rfl
  obtain ⟨x0, x1, x2, x3, x4, x5, hcd, hcf⟩ := HLW.out W12 HS12.out
  have HCD := Aside0.mk hcd
  have HCF := Aside0.mk hcf
  clear hcd hcf
  go_upto_region 8 with (first | (go_at_call 17; have HC := (pass_Run.calls k AD cD D AF cF F (Ks 2) (Ts 2) nb ft _ HCD.out HD2.out HCF.out HF2.out H2.out (HK.out 2 (by omega)).1 (HK.out 2 (by omega)).2.1 (HK.out 2 (by omega)).2.2 hnb HD.out hD2 HF.out); rw [HJ.out 2 (by omega)] at HC; refine HC.mono ?_; clear HC; rintro e w13a ⟨vS, vB, vR, rfl, hS3, hB3, hR3, hb⟩; obtain ⟨gS2, cS2, eS, -⟩ := Kd.R_form hS3 (by rw [HSL.out 2 (by omega)]; omega); subst eS; obtain ⟨AB2, cB2, eB⟩ := Kd.R_slice hB3; subst eB; obtain ⟨AR2, cR2, eR⟩ := Kd.R_slice hR3; subst eR; have HRa := Aside0.mk hS3; have HRb := Aside0.mk hB3; have HTa := Aside0.mk hb; clear hb hR3 hS3 hB3) | ((with_reducible refine gate_dst (N := 21) rfl ?_); refine box_event ?hg (N := 21) ?hd (cs := #[.slice none 0 0, .slice none 0 0, .slice none 0 0, .int .i64 0]) (t := 46) ?hr ?_; (case hd => rfl); (case hg => rfl); (case hr => first | (go_simp; done) | (go_simp; rfl)); intro g21 hg w13b hbox hb; have GE21 := Aside0.mk (by rw [hg]; exact Nat.le_refl _ : w13a.heap.size ≤ g21); have BK21 := Aside0.mk hbox; have HTb := Aside0.mk hb; have u0 : w13b.cell? ⟨g21, 0, none⟩ = some (.slice none 0 0) := (blk_cell BK21.out 0).trans rfl; have u1 : w13b.cell? ⟨g21, 1, none⟩ = some (.slice none 0 0) := (blk_cell BK21.out 1).trans rfl; have u2 : w13b.cell? ⟨g21, 2, none⟩ = some (.slice none 0 0) := (blk_cell BK21.out 2).trans rfl; have u3 : w13b.cell? ⟨g21, 3, none⟩ = some (.int .i64 0) := (blk_cell BK21.out 3).trans rfl; have uf0 := blk_frozen BK21.out 0; have uf1 := blk_frozen BK21.out 1; have uf2 := blk_frozen BK21.out 2; have uf3 := blk_frozen BK21.out 3; clear hb hbox hg))
  clear x0 x1 x2 x3 x4 x5 HCD HCF
  obtain ⟨y1, y2, y3⟩ := put4 BK21.out (.slice (some ⟨gS2, 0, none⟩) (Js 2).S.length cS2) (.slice AB2 (Js 2).B.length cB2) (.slice AR2 (Js 2).R.length cR2) (.int .i64 (Js 2).tm)
  have ht := y3 _ _ HTb.out GE21.out
  clear u0 u1 u2 u3 uf0 uf1 uf2 uf3 y2 y3
  generalize (((w13b.setCell ⟨g21, 0, none⟩ (.slice (some ⟨gS2, 0, none⟩) (Js 2).S.length cS2)).setCell ⟨g21, 1, none⟩ (.slice AB2 (Js 2).B.length cB2)).setCell ⟨g21, 2, none⟩ (.slice AR2 (Js 2).R.length cR2)).setCell ⟨g21, 3, none⟩ (.int .i64 (Js 2).tm) = W13 at y1 ht ⊢
  have HT13 := Aside0.mk (below_step HTa.out ht)
  have HS13 := Aside0.mk (below_step HS12.out HT13.out)
  have HRS2 := Aside0.mk (Kd.R_lower (Kd.R_below HRa.out ht) HS12.out.size)
  have HRB2 := Aside0.mk (Kd.R_lower (Kd.R_below HRb.out ht) HS12.out.size)
  replace BK21 := Aside0.mk y1
  clear ht y1 HTa HTb HRa HRb GE21
  clear x6 x7 BK18
  have hq := below_step (below_step (below_step HT10.out HT11.out) HT12.out) HT13.out
  have hr := below_step (below_step HT11.out HT12.out) HT13.out
  have BX := Aside0.mk (blk_below BK14.out hq)
  have BY := Aside0.mk (blk_below BK16.out hr)
  have RSX := Aside0.mk (Kd.R_below HRS0.out hq)
  have RBX := Aside0.mk (Kd.R_below HRB0.out hq)
  have RSY := Aside0.mk (Kd.R_below HRS1.out hr)
  have RBY := Aside0.mk (Kd.R_below HRB1.out hr)
  have HW13 := Aside0.mk (below_step HW8.out HS13.out)
  rw [HSL.out 0 (by omega)] at BX RSX
  rw [HSL.out 1 (by omega)] at BY RSY
  rw [HSL.out 2 (by omega)] at BK21 HRS2
  clear hq hr BK14 BK16 HRS0 HRB0 HRS1 HRB1 HT9 HT10 HT11 HT12 HT13 HS8 HS9 HS10 HS11 HS12 HS13 HLW HW8
  rw [← HE.out.2.2] at BY
  have HE1 := Aside0.mk HE.out.1
  have HE2 := Aside0.mk HE.out.2.1
  obtain ⟨n0, hn0⟩ : ∃ n, (Js 0).S.count 1 = n := ⟨_, rfl⟩
  obtain ⟨n1, hn1⟩ : ∃ n, (Js 1).S.count 1 = n := ⟨_, rfl⟩
  obtain ⟨n2, hn2⟩ : ∃ n, (Js 2).S.count 1 = n := ⟨_, rfl⟩
  obtain ⟨t0, ht0⟩ : ∃ t, (Js 0).tm = t := ⟨_, rfl⟩
  obtain ⟨t2, ht2⟩ : ∃ t, (Js 2).tm = t := ⟨_, rfl⟩
  have q0 := HSL.out 0 (by omega)
  have q1 := HSL.out 1 (by omega)
  have q2 := HSL.out 2 (by omega)
  have m0 : n0 ≤ 1024 := by have := List.count_le_length (a := (1 : Int)) (l := (Js 0).S); omega
  have m2 : n2 ≤ 1024 := by have := List.count_le_length (a := (1 : Int)) (l := (Js 2).S); omega
  have hG0 : ∀ (W : World) (tm : Int), Below W13.heap.size W13 W → Calls Try.prog 20 #[.agg #[.slice (some ⟨gS0, 0, none⟩) nb cS0, .slice AB0 (Js 0).B.length cB0, .slice AR0 (Js 0).R.length cR0, .int .i64 tm]] W fun e w' => e = .returned (.int .i64 n0) ∧ Below W.heap.size W w' := fun W tm hb => by have := cntC (nB := (Js 0).B.length) (cB := cB0) (nR := (Js 0).R.length) (cR := cR0) (AB := AB0) (AR := AR0) (tm := tm) (Kd.R_below RSX.out hb) (by omega); rw [hn0] at this; exact this
  have hG1 : ∀ (W : World) (tm : Int), Below W13.heap.size W13 W → Calls Try.prog 20 #[.agg #[.slice (some ⟨gS1, 0, none⟩) nb cS1, .slice AB1 (Js 1).B.length cB1, .slice AR1 (Js 1).R.length cR1, .int .i64 tm]] W fun e w' => e = .returned (.int .i64 n1) ∧ Below W.heap.size W w' := fun W tm hb => by have := cntC (nB := (Js 1).B.length) (cB := cB1) (nR := (Js 1).R.length) (cR := cR1) (AB := AB1) (AR := AR1) (tm := tm) (Kd.R_below RSY.out hb) (by omega); rw [hn1] at this; exact this
  have hG2 : ∀ (W : World) (tm : Int), Below W13.heap.size W13 W → Calls Try.prog 20 #[.agg #[.slice (some ⟨gS2, 0, none⟩) nb cS2, .slice AB2 (Js 2).B.length cB2, .slice AR2 (Js 2).R.length cR2, .int .i64 tm]] W fun e w' => e = .returned (.int .i64 n2) ∧ Below W.heap.size W w' := fun W tm hb => by have := cntC (nB := (Js 2).B.length) (cB := cB2) (nR := (Js 2).R.length) (cR := cR2) (AB := AB2) (AR := AR2) (tm := tm) (Kd.R_below HRS2.out hb) (by omega); rw [hn2] at this; exact this
  have HG0 := Aside0.mk hG0
  have HG1 := Aside0.mk hG1
  have HG2 := Aside0.mk hG2
  rw [ht0] at BX BY
  rw [ht2] at BK21
  have hbc := HBb.out
  clear q0 q1 q2 hn1 hG0 hG1 hG2
  have HLZ : Aside0 (∀ w', Below W13.heap.size W13 w' → w'.cell? ⟨g14, 0, none⟩ = some (.slice (some ⟨gS0, 0, none⟩) nb cS0) ∧ w'.cell? ⟨g14, 1, none⟩ = some (.slice AB0 (Js 0).B.length cB0) ∧ w'.cell? ⟨g14, 2, none⟩ = some (.slice AR0 (Js 0).R.length cR0) ∧ w'.cell? ⟨g14, 3, none⟩ = some (.int .i64 t0) ∧
      w'.cell? ⟨g16, 0, none⟩ = some (.slice (some ⟨gS1, 0, none⟩) nb cS1) ∧ w'.cell? ⟨g16, 1, none⟩ = some (.slice AB1 (Js 1).B.length cB1) ∧ w'.cell? ⟨g16, 2, none⟩ = some (.slice AR1 (Js 1).R.length cR1) ∧ w'.cell? ⟨g16, 3, none⟩ = some (.int .i64 t0) ∧
      w'.cell? ⟨g21, 0, none⟩ = some (.slice (some ⟨gS2, 0, none⟩) nb cS2) ∧ w'.cell? ⟨g21, 1, none⟩ = some (.slice AB2 (Js 2).B.length cB2) ∧ w'.cell? ⟨g21, 2, none⟩ = some (.slice AR2 (Js 2).R.length cR2) ∧ w'.cell? ⟨g21, 3, none⟩ = some (.int .i64 t2) ∧ Below W13.heap.size W13 w') := ⟨fun w' hb =>
    ⟨(blk_cell (blk_below BX.out hb) 0).trans rfl, (blk_cell (blk_below BX.out hb) 1).trans rfl, (blk_cell (blk_below BX.out hb) 2).trans rfl, (blk_cell (blk_below BX.out hb) 3).trans rfl, (blk_cell (blk_below BY.out hb) 0).trans rfl, (blk_cell (blk_below BY.out hb) 1).trans rfl, (blk_cell (blk_below BY.out hb) 2).trans rfl, (blk_cell (blk_below BY.out hb) 3).trans rfl, (blk_cell (blk_below BK21.out hb) 0).trans rfl, (blk_cell (blk_below BK21.out hb) 1).trans rfl, (blk_cell (blk_below BK21.out hb) 2).trans rfl, (blk_cell (blk_below BK21.out hb) 3).trans rfl, hb⟩⟩
  have RBX1 := Aside0.mk (fun w' (hb : Below W13.heap.size W13 w') => (Kd.R_reads' (Kd.R_below RBX.out hb)).2)
  have RBY1 := Aside0.mk (fun w' (hb : Below W13.heap.size W13 w') => (Kd.R_reads' (Kd.R_below RBY.out hb)).2)
  have RSX1 := Aside0.mk (fun w' (hb : Below W13.heap.size W13 w') => (Kd.R_reads' (Kd.R_below RSX.out hb)).2)
  have RSY1 := Aside0.mk (fun w' (hb : Below W13.heap.size W13 w') => (Kd.R_reads' (Kd.R_below RSY.out hb)).2)
  have HCI : Aside0 (∀ W, Below W13.heap.size W13 W → Calls Try.prog 21 #[.slice (some ⟨gS0, 0, none⟩) nb cS0, .slice (some ⟨gS1, 0, none⟩) nb cS1] W fun e w' => e = .returned (.bool true) ∧ Drawn0 W w') := ⟨fun W hb => by
    have h := slices_Equal_int_int.calls k (some ⟨gS0, 0, none⟩) cS0 (Js 0).S (some ⟨gS1, 0, none⟩) cS1 (Js 1).S true W (RSX1.out W hb).2 (by rw [HSL.out 0 (by omega)]; exact (RSX1.out W hb).1) (RSY1.out W hb).2 (by rw [HSL.out 1 (by omega)]; exact (RSY1.out W hb).1) HE2.out
    rw [HSL.out 0 (by omega), HSL.out 1 (by omega)] at h
    exact h⟩
  clear BX BY BK21 RSX RBX RSY RBY HRS2 HRB2 HE
  rcases hb02 with rfl | rfl
  · have c0 : n0 ≤ n0 := by have := hbc.2.1; omega
    have c2 : n2 ≤ n0 := by have := hbc.2.2; omega
    have t1 : decide (((n0 : Nat) : Int) ≥ ((n0 : Nat) : Int)) = true := decide_eq_true (by omega)
    have t1b : decide (((n0 : Nat) : Int) ≤ ((n0 : Nat) : Int)) = true := decide_eq_true (by omega)
    have t2x : decide (((n0 : Nat) : Int) ≥ ((n2 : Nat) : Int)) = true := decide_eq_true (by omega)
    have t2b : decide (((n2 : Nat) : Int) ≤ ((n0 : Nat) : Int)) = true := decide_eq_true (by omega)
    have c0d : decide (n0 ≤ n0) = true := decide_eq_true c0
    have c2d : decide (n2 ≤ n0) = true := decide_eq_true c2
    clear hbc hn0 hn2
    go_upto_region 11 with (go_at_call 18; refine (wrackkeep1_passed.calls k _ HP.out.1 HP.out.2.1 HP.out.2.2).mono ?_; rintro e w14 ⟨rfl, hb⟩; have HZ14 := Aside0.mk hb; clear hb)
    refine start_ (n := 14) (S := fun w' => w'.cell? ⟨g14, 0, none⟩ = some (.slice (some ⟨gS0, 0, none⟩) nb cS0) ∧ w'.cell? ⟨g14, 1, none⟩ = some (.slice AB0 (Js 0).B.length cB0) ∧ w'.cell? ⟨g14, 2, none⟩ = some (.slice AR0 (Js 0).R.length cR0) ∧ w'.cell? ⟨g14, 3, none⟩ = some (.int .i64 t0) ∧ w'.cell? ⟨g16, 0, none⟩ = some (.slice (some ⟨gS1, 0, none⟩) nb cS1) ∧ w'.cell? ⟨g16, 1, none⟩ = some (.slice AB1 (Js 1).B.length cB1) ∧ w'.cell? ⟨g16, 2, none⟩ = some (.slice AR1 (Js 1).R.length cR1) ∧ w'.cell? ⟨g16, 3, none⟩ = some (.int .i64 t0) ∧ w'.cell? ⟨g21, 0, none⟩ = some (.slice (some ⟨gS2, 0, none⟩) nb cS2) ∧ w'.cell? ⟨g21, 1, none⟩ = some (.slice AB2 (Js 2).B.length cB2) ∧ w'.cell? ⟨g21, 2, none⟩ = some (.slice AR2 (Js 2).R.length cR2) ∧ w'.cell? ⟨g21, 3, none⟩ = some (.int .i64 t2) ∧ Below W13.heap.size W13 w') (ds := [12]) #[false, false, false, false, false, false, false, false, false, false, false, false, false, false] (by kernel_rfl) rfl rfl ⟨(HLZ.out _ (below_drew1 HZ14.out)).1, (HLZ.out _ (below_drew1 HZ14.out)).2.1, (HLZ.out _ (below_drew1 HZ14.out)).2.2.1, (HLZ.out _ (below_drew1 HZ14.out)).2.2.2.1, (HLZ.out _ (below_drew1 HZ14.out)).2.2.2.2.1, (HLZ.out _ (below_drew1 HZ14.out)).2.2.2.2.2.1, (HLZ.out _ (below_drew1 HZ14.out)).2.2.2.2.2.2.1, (HLZ.out _ (below_drew1 HZ14.out)).2.2.2.2.2.2.2.1, (HLZ.out _ (below_drew1 HZ14.out)).2.2.2.2.2.2.2.2.1, (HLZ.out _ (below_drew1 HZ14.out)).2.2.2.2.2.2.2.2.2.1, (HLZ.out _ (below_drew1 HZ14.out)).2.2.2.2.2.2.2.2.2.2.1, (HLZ.out _ (below_drew1 HZ14.out)).2.2.2.2.2.2.2.2.2.2.2.1, (HLZ.out _ (below_drew1 HZ14.out)).2.2.2.2.2.2.2.2.2.2.2.2⟩ (fun hHeld => ?_)
    refine pure_ (i := 0) (N := some 91) (v := ?_) (a' := ?_) #[true, false, false, false, false, false, false, false, false, false, false, false, false, false] rfl rfl (by kernel_rfl) (fun _ _ _ h => h) (Or.inl ⟨by rfl, ?_⟩) ?_ ?_
    rotate_left
    · intro w'
      go_simp
      with_reducible rfl
    rotate_left
    · simp only [Act.put, List.setIfInBounds_toArray, List.set_cons_zero, List.set_cons_succ, i64_w, i32_w]
      rfl
    refine pure_ (i := 3) (N := some 94) (v := ?_) (a' := ?_) #[true, false, false, true, false, false, false, false, false, false, false, false, false, false] rfl rfl (by kernel_rfl) (fun _ _ _ h => h) (Or.inl ⟨by rfl, ?_⟩) ?_ ?_
    rotate_left
    · intro w'
      go_simp
      with_reducible rfl
    rotate_left
    · simp only [Act.put, List.setIfInBounds_toArray, List.set_cons_zero, List.set_cons_succ, i64_w, i32_w]
      rfl
    refine pure_ (i := 6) (N := some 97) (v := ?_) (a' := ?_) #[true, false, false, true, false, false, true, false, false, false, false, false, false, false] rfl rfl (by kernel_rfl) (fun _ _ _ h => h) (Or.inl ⟨by rfl, ?_⟩) ?_ ?_
    rotate_left
    · intro w'
      go_simp
      with_reducible rfl
    rotate_left
    · simp only [Act.put, List.setIfInBounds_toArray, List.set_cons_zero, List.set_cons_succ, i64_w, i32_w]
      rfl
    refine pure_ (i := 10) (N := some 101) (v := ?_) (a' := ?_) #[true, false, false, true, false, false, true, false, false, false, true, false, false, false] rfl rfl (by kernel_rfl) (fun _ _ _ h => h) (Or.inl ⟨by rfl, ?_⟩) ?_ ?_
    rotate_left
    · intro w'
      go_simp
      with_reducible rfl
    rotate_left
    · simp only [Act.put, List.setIfInBounds_toArray, List.set_cons_zero, List.set_cons_succ, i64_w, i32_w]
      rfl
    refine take_ (i := 1) (N := some 92) (v := ?_) (a' := ?_) #[true, true, false, true, false, false, true, false, false, false, true, false, false, false] rfl rfl (by kernel_rfl) (fun _ _ _ h => h) (Or.inl ⟨by rfl, ?_⟩) hHeld ?_ ?_
    rotate_left
    · rintro w' ⟨s0, s1, s2, s3, s4, s5, s6, s7, s8, s9, s10, s11, s12⟩
      go_simp
      with_reducible rfl
    rotate_left
    · simp only [Act.put, List.setIfInBounds_toArray, List.set_cons_zero, List.set_cons_succ, i64_w, i32_w]
      rfl
    refine take_ (i := 4) (N := some 95) (v := ?_) (a' := ?_) #[true, true, false, true, true, false, true, false, false, false, true, false, false, false] rfl rfl (by kernel_rfl) (fun _ _ _ h => h) (Or.inl ⟨by rfl, ?_⟩) hHeld ?_ ?_
    rotate_left
    · rintro w' ⟨s0, s1, s2, s3, s4, s5, s6, s7, s8, s9, s10, s11, s12⟩
      go_simp
      with_reducible rfl
    rotate_left
    · simp only [Act.put, List.setIfInBounds_toArray, List.set_cons_zero, List.set_cons_succ, i64_w, i32_w]
      rfl
    refine take_ (i := 7) (N := some 98) (v := ?_) (a' := ?_) #[true, true, false, true, true, false, true, true, false, false, true, false, false, false] rfl rfl (by kernel_rfl) (fun _ _ _ h => h) (Or.inl ⟨by rfl, ?_⟩) hHeld ?_ ?_
    rotate_left
    · rintro w' ⟨s0, s1, s2, s3, s4, s5, s6, s7, s8, s9, s10, s11, s12⟩
      go_simp
      with_reducible rfl
    rotate_left
    · simp only [Act.put, List.setIfInBounds_toArray, List.set_cons_zero, List.set_cons_succ, i64_w, i32_w]
      rfl
    refine one_ (i := 2) (N := some 93) #[true, true, true, true, true, false, true, true, false, false, true, false, false, false] rfl rfl (by kernel_rfl) (by decide) (fun K hK => ?_)
    refine goesv_ Try.func20 (by kernel_rfl) rfl #[.agg #[.slice (some ⟨gS0, 0, none⟩) nb cS0, .slice AB0 (Js 0).B.length cB0, .slice AR0 (Js 0).R.length cR0, .int .i64 t0]] (by rfl) rfl rfl (by rfl) (by simp only [List.map_toArray, List.map_cons, List.map_nil]; rfl) ?_
    with_reducible refine (HG0.out _ _ hHeld.2.2.2.2.2.2.2.2.2.2.2.2).mono ?_
    rintro e w15 ⟨rfl, hb⟩
    refine ⟨_, rfl, ?_⟩
    have h8 := HLZ.out _ (held_step hHeld.2.2.2.2.2.2.2.2.2.2.2.2 hb)
    refine hK.out _ _ ⟨h8.1, h8.2.1, h8.2.2.1, h8.2.2.2.1, h8.2.2.2.2.1, h8.2.2.2.2.2.1, h8.2.2.2.2.2.2.1, h8.2.2.2.2.2.2.2.1, h8.2.2.2.2.2.2.2.2.1, h8.2.2.2.2.2.2.2.2.2.1, h8.2.2.2.2.2.2.2.2.2.2.1, h8.2.2.2.2.2.2.2.2.2.2.2.1, h8.2.2.2.2.2.2.2.2.2.2.2.2⟩ (fun hHeld => ?_)
    clear hK K
    refine norm_ (a' := ?_) ?_ ?_
    rotate_left
    · show Act.put _ (some 93) _ = _
      simp only [Act.put, List.setIfInBounds_toArray, List.set_cons_zero, List.set_cons_succ, i64_w, i32_w]
      rfl
    refine one_ (i := 5) (N := some 96) #[true, true, true, true, true, true, true, true, false, false, true, false, false, false] rfl rfl (by kernel_rfl) (by decide) (fun K hK => ?_)
    refine goesv_ Try.func20 (by kernel_rfl) rfl #[.agg #[.slice (some ⟨gS1, 0, none⟩) nb cS1, .slice AB1 (Js 1).B.length cB1, .slice AR1 (Js 1).R.length cR1, .int .i64 t0]] (by rfl) rfl rfl (by rfl) (by simp only [List.map_toArray, List.map_cons, List.map_nil]; rfl) ?_
    with_reducible refine (HG1.out _ _ hHeld.2.2.2.2.2.2.2.2.2.2.2.2).mono ?_
    rintro e w15 ⟨rfl, hb⟩
    refine ⟨_, rfl, ?_⟩
    have h8 := HLZ.out _ (held_step hHeld.2.2.2.2.2.2.2.2.2.2.2.2 hb)
    refine hK.out _ _ ⟨h8.1, h8.2.1, h8.2.2.1, h8.2.2.2.1, h8.2.2.2.2.1, h8.2.2.2.2.2.1, h8.2.2.2.2.2.2.1, h8.2.2.2.2.2.2.2.1, h8.2.2.2.2.2.2.2.2.1, h8.2.2.2.2.2.2.2.2.2.1, h8.2.2.2.2.2.2.2.2.2.2.1, h8.2.2.2.2.2.2.2.2.2.2.2.1, h8.2.2.2.2.2.2.2.2.2.2.2.2⟩ (fun hHeld => ?_)
    clear hK K
    refine norm_ (a' := ?_) ?_ ?_
    rotate_left
    · show Act.put _ (some 96) _ = _
      simp only [Act.put, List.setIfInBounds_toArray, List.set_cons_zero, List.set_cons_succ, i64_w, i32_w]
      rfl
    refine one_ (i := 8) (N := some 99) #[true, true, true, true, true, true, true, true, true, false, true, false, false, false] rfl rfl (by kernel_rfl) (by decide) (fun K hK => ?_)
    refine goesv_ Try.func20 (by kernel_rfl) rfl #[.agg #[.slice (some ⟨gS2, 0, none⟩) nb cS2, .slice AB2 (Js 2).B.length cB2, .slice AR2 (Js 2).R.length cR2, .int .i64 t2]] (by rfl) rfl rfl (by rfl) (by simp only [List.map_toArray, List.map_cons, List.map_nil]; rfl) ?_
    with_reducible refine (HG2.out _ _ hHeld.2.2.2.2.2.2.2.2.2.2.2.2).mono ?_
    rintro e w15 ⟨rfl, hb⟩
    refine ⟨_, rfl, ?_⟩
    have h8 := HLZ.out _ (held_step hHeld.2.2.2.2.2.2.2.2.2.2.2.2 hb)
    refine hK.out _ _ ⟨h8.1, h8.2.1, h8.2.2.1, h8.2.2.2.1, h8.2.2.2.2.1, h8.2.2.2.2.2.1, h8.2.2.2.2.2.2.1, h8.2.2.2.2.2.2.2.1, h8.2.2.2.2.2.2.2.2.1, h8.2.2.2.2.2.2.2.2.2.1, h8.2.2.2.2.2.2.2.2.2.2.1, h8.2.2.2.2.2.2.2.2.2.2.2.1, h8.2.2.2.2.2.2.2.2.2.2.2.2⟩ (fun hHeld => ?_)
    clear hK K
    refine norm_ (a' := ?_) ?_ ?_
    rotate_left
    · show Act.put _ (some 99) _ = _
      simp only [Act.put, List.setIfInBounds_toArray, List.set_cons_zero, List.set_cons_succ, i64_w, i32_w]
      rfl
    refine one_ (i := 9) (N := some 100) #[true, true, true, true, true, true, true, true, true, true, true, false, false, false] rfl rfl (by kernel_rfl) (by decide) (fun K hK => ?_)
    refine value_ (w1 := ?_) (v := ?_) (by rfl) rfl ?_ ?_
    rotate_left 2
    · go_simp
      constructor
      · rfl
      · rfl
    have h8 := HLZ.out _ (below_alloc hHeld.2.2.2.2.2.2.2.2.2.2.2.2 (Obj.cells #[.int .i64 n0, .int .i64 n1, .int .i64 n2] 3))
    refine hK.out _ _ ⟨h8.1, h8.2.1, h8.2.2.1, h8.2.2.2.1, h8.2.2.2.2.1, h8.2.2.2.2.2.1, h8.2.2.2.2.2.2.1, h8.2.2.2.2.2.2.2.1, h8.2.2.2.2.2.2.2.2.1, h8.2.2.2.2.2.2.2.2.2.1, h8.2.2.2.2.2.2.2.2.2.2.1, h8.2.2.2.2.2.2.2.2.2.2.2.1, h8.2.2.2.2.2.2.2.2.2.2.2.2⟩ (fun hHeld => ?_)
    clear hK K
    refine norm_ (a' := ?_) ?_ ?_
    rotate_left
    · show Act.put _ (some 100) _ = _
      simp only [Act.put, List.setIfInBounds_toArray, List.set_cons_zero, List.set_cons_succ, i64_w, i32_w]
      rfl
    refine pure_ (i := 11) (N := some 102) (v := ?_) (a' := ?_) #[true, true, true, true, true, true, true, true, true, true, true, true, false, false] rfl rfl (by kernel_rfl) (fun _ _ _ h => h) (Or.inl ⟨by rfl, ?_⟩) ?_ ?_
    rotate_left
    · intro w'
      go_simp
      with_reducible rfl
    rotate_left
    · simp only [Act.put, List.setIfInBounds_toArray, List.set_cons_zero, List.set_cons_succ, i64_w, i32_w]
      rfl
    refine last_ (i := 12) (N := some 103) #[true, true, true, true, true, true, true, true, true, true, true, true, true, false] rfl rfl (by kernel_rfl) (by decide) (fun K hK => ?_)
    refine value_ (w1 := ?_) (v := ?_) (by rfl) rfl ?_ ?_
    rotate_left 2
    · go_simp
      constructor
      · rfl
      · rfl
    refine hK.out _ _ ?_
    clear hK K
    refine norm_ (a' := ?_) ?_ ?_
    rotate_left
    · show Act.put _ (some 103) _ = _
      simp only [Act.put, List.setIfInBounds_toArray, List.set_cons_zero, List.set_cons_succ, i64_w, i32_w]
      rfl
    refine pure_ (i := 13) (N := some 24) (v := ?_) (a' := ?_) #[true, true, true, true, true, true, true, true, true, true, true, true, true, true] rfl rfl (by kernel_rfl) (fun _ _ _ h => h) (Or.inl ⟨by rfl, ?_⟩) ?_ ?_
    rotate_left
    · intro w'
      go_simp
      with_reducible rfl
    rotate_left
    · simp only [Act.put, List.setIfInBounds_toArray, List.set_cons_zero, List.set_cons_succ, i64_w, i32_w]
      rfl
    refine done_ (by kernel_rfl) ?_

    have HX := Aside0.mk h8.2.2.2.2.2.2.2.2.2.2.2.2
    clear h8
    generalize w15.alloc (Obj.cells #[.int .i64 n0, .int .i64 n1, .int .i64 n2] 3) = W16 at HX ⊢
    obtain ⟨v0, v1, v2, v3, v4, v5, v6, v7, v8, v9, v10, v11, -⟩ := HLZ.out W16 HX.out
    go_wp2_with (first | (go_at_call 13; refine (slices_Equal_byte_byte.calls k AB0 cB0 (Js 0).B AB1 cB1 (Js 1).B true _ (RBX1.out _ HX.out).2 (RBX1.out _ HX.out).1 (RBY1.out _ HX.out).2 (RBY1.out _ HX.out).1 HE1.out).mono ?_; rintro e w17 ⟨rfl, nd, rfl⟩; have HY := Aside0.mk (pw_below_drewN HX.out nd); clear v0 v1 v2 v3 v4 v5 v6 v7 v8 v9 v10 v11; obtain ⟨v0, v1, v2, v3, v4, v5, v6, v7, v8, v9, v10, v11, -⟩ := HLZ.out _ HY.out) | (go_at_call 21; refine (HCI.out _ HY.out).mono ?_; rintro e w18 ⟨rfl, ne, rfl⟩; have HZ := Aside0.mk (pw_below_drewN HX.out (nd + ne)); clear v0 v1 v2 v3 v4 v5 v6 v7 v8 v9 v10 v11; obtain ⟨v0, v1, v2, v3, v4, v5, v6, v7, v8, v9, v10, v11, -⟩ := HLZ.out _ HZ.out) | (go_at_call 20; first | (with_reducible refine (HG0.out _ _ HZ.out).mono ?_; rintro e w19 ⟨rfl, hb⟩; have HU := Aside0.mk (held_step HZ.out hb); clear v0 v1 v2 v3 v4 v5 v6 v7 v8 v9 v10 v11 hb; obtain ⟨v0, v1, v2, v3, v4, v5, v6, v7, v8, v9, v10, v11, -⟩ := HLZ.out _ HU.out) | (with_reducible refine (HG2.out _ _ HU.out).mono ?_; rintro e w20 ⟨rfl, hb⟩; have HV := Aside0.mk (held_step HU.out hb); clear hb)))
    go_ret
    exact ⟨by first | rfl | simp, below_step HW13.out HV.out⟩
  · have c0 : n0 ≤ n2 := by have := hbc.2.1; omega
    have c2 : n2 ≤ n2 := by have := hbc.2.2; omega
    have t1 : decide (((n2 : Nat) : Int) ≥ ((n0 : Nat) : Int)) = true := decide_eq_true (by omega)
    have t1b : decide (((n0 : Nat) : Int) ≤ ((n2 : Nat) : Int)) = true := decide_eq_true (by omega)
    have t2x : decide (((n2 : Nat) : Int) ≥ ((n2 : Nat) : Int)) = true := decide_eq_true (by omega)
    have t2b : decide (((n2 : Nat) : Int) ≤ ((n2 : Nat) : Int)) = true := decide_eq_true (by omega)
    have c0d : decide (n0 ≤ n2) = true := decide_eq_true c0
    have c2d : decide (n2 ≤ n2) = true := decide_eq_true c2
    clear hbc hn0 hn2
    go_upto_region 11 with (go_at_call 18; refine (wrackkeep1_passed.calls k _ HP.out.1 HP.out.2.1 HP.out.2.2).mono ?_; rintro e w14 ⟨rfl, hb⟩; have HZ14 := Aside0.mk hb; clear hb)
    refine start_ (n := 14) (S := fun w' => w'.cell? ⟨g14, 0, none⟩ = some (.slice (some ⟨gS0, 0, none⟩) nb cS0) ∧ w'.cell? ⟨g14, 1, none⟩ = some (.slice AB0 (Js 0).B.length cB0) ∧ w'.cell? ⟨g14, 2, none⟩ = some (.slice AR0 (Js 0).R.length cR0) ∧ w'.cell? ⟨g14, 3, none⟩ = some (.int .i64 t0) ∧ w'.cell? ⟨g16, 0, none⟩ = some (.slice (some ⟨gS1, 0, none⟩) nb cS1) ∧ w'.cell? ⟨g16, 1, none⟩ = some (.slice AB1 (Js 1).B.length cB1) ∧ w'.cell? ⟨g16, 2, none⟩ = some (.slice AR1 (Js 1).R.length cR1) ∧ w'.cell? ⟨g16, 3, none⟩ = some (.int .i64 t0) ∧ w'.cell? ⟨g21, 0, none⟩ = some (.slice (some ⟨gS2, 0, none⟩) nb cS2) ∧ w'.cell? ⟨g21, 1, none⟩ = some (.slice AB2 (Js 2).B.length cB2) ∧ w'.cell? ⟨g21, 2, none⟩ = some (.slice AR2 (Js 2).R.length cR2) ∧ w'.cell? ⟨g21, 3, none⟩ = some (.int .i64 t2) ∧ Below W13.heap.size W13 w') (ds := [12]) #[false, false, false, false, false, false, false, false, false, false, false, false, false, false] (by kernel_rfl) rfl rfl ⟨(HLZ.out _ (below_drew1 HZ14.out)).1, (HLZ.out _ (below_drew1 HZ14.out)).2.1, (HLZ.out _ (below_drew1 HZ14.out)).2.2.1, (HLZ.out _ (below_drew1 HZ14.out)).2.2.2.1, (HLZ.out _ (below_drew1 HZ14.out)).2.2.2.2.1, (HLZ.out _ (below_drew1 HZ14.out)).2.2.2.2.2.1, (HLZ.out _ (below_drew1 HZ14.out)).2.2.2.2.2.2.1, (HLZ.out _ (below_drew1 HZ14.out)).2.2.2.2.2.2.2.1, (HLZ.out _ (below_drew1 HZ14.out)).2.2.2.2.2.2.2.2.1, (HLZ.out _ (below_drew1 HZ14.out)).2.2.2.2.2.2.2.2.2.1, (HLZ.out _ (below_drew1 HZ14.out)).2.2.2.2.2.2.2.2.2.2.1, (HLZ.out _ (below_drew1 HZ14.out)).2.2.2.2.2.2.2.2.2.2.2.1, (HLZ.out _ (below_drew1 HZ14.out)).2.2.2.2.2.2.2.2.2.2.2.2⟩ (fun hHeld => ?_)
    refine pure_ (i := 0) (N := some 91) (v := ?_) (a' := ?_) #[true, false, false, false, false, false, false, false, false, false, false, false, false, false] rfl rfl (by kernel_rfl) (fun _ _ _ h => h) (Or.inl ⟨by rfl, ?_⟩) ?_ ?_
    rotate_left
    · intro w'
      go_simp
      with_reducible rfl
    rotate_left
    · simp only [Act.put, List.setIfInBounds_toArray, List.set_cons_zero, List.set_cons_succ, i64_w, i32_w]
      rfl
    refine pure_ (i := 3) (N := some 94) (v := ?_) (a' := ?_) #[true, false, false, true, false, false, false, false, false, false, false, false, false, false] rfl rfl (by kernel_rfl) (fun _ _ _ h => h) (Or.inl ⟨by rfl, ?_⟩) ?_ ?_
    rotate_left
    · intro w'
      go_simp
      with_reducible rfl
    rotate_left
    · simp only [Act.put, List.setIfInBounds_toArray, List.set_cons_zero, List.set_cons_succ, i64_w, i32_w]
      rfl
    refine pure_ (i := 6) (N := some 97) (v := ?_) (a' := ?_) #[true, false, false, true, false, false, true, false, false, false, false, false, false, false] rfl rfl (by kernel_rfl) (fun _ _ _ h => h) (Or.inl ⟨by rfl, ?_⟩) ?_ ?_
    rotate_left
    · intro w'
      go_simp
      with_reducible rfl
    rotate_left
    · simp only [Act.put, List.setIfInBounds_toArray, List.set_cons_zero, List.set_cons_succ, i64_w, i32_w]
      rfl
    refine pure_ (i := 10) (N := some 101) (v := ?_) (a' := ?_) #[true, false, false, true, false, false, true, false, false, false, true, false, false, false] rfl rfl (by kernel_rfl) (fun _ _ _ h => h) (Or.inl ⟨by rfl, ?_⟩) ?_ ?_
    rotate_left
    · intro w'
      go_simp
      with_reducible rfl
    rotate_left
    · simp only [Act.put, List.setIfInBounds_toArray, List.set_cons_zero, List.set_cons_succ, i64_w, i32_w]
      rfl
    refine take_ (i := 1) (N := some 92) (v := ?_) (a' := ?_) #[true, true, false, true, false, false, true, false, false, false, true, false, false, false] rfl rfl (by kernel_rfl) (fun _ _ _ h => h) (Or.inl ⟨by rfl, ?_⟩) hHeld ?_ ?_
    rotate_left
    · rintro w' ⟨s0, s1, s2, s3, s4, s5, s6, s7, s8, s9, s10, s11, s12⟩
      go_simp
      with_reducible rfl
    rotate_left
    · simp only [Act.put, List.setIfInBounds_toArray, List.set_cons_zero, List.set_cons_succ, i64_w, i32_w]
      rfl
    refine take_ (i := 4) (N := some 95) (v := ?_) (a' := ?_) #[true, true, false, true, true, false, true, false, false, false, true, false, false, false] rfl rfl (by kernel_rfl) (fun _ _ _ h => h) (Or.inl ⟨by rfl, ?_⟩) hHeld ?_ ?_
    rotate_left
    · rintro w' ⟨s0, s1, s2, s3, s4, s5, s6, s7, s8, s9, s10, s11, s12⟩
      go_simp
      with_reducible rfl
    rotate_left
    · simp only [Act.put, List.setIfInBounds_toArray, List.set_cons_zero, List.set_cons_succ, i64_w, i32_w]
      rfl
    refine take_ (i := 7) (N := some 98) (v := ?_) (a' := ?_) #[true, true, false, true, true, false, true, true, false, false, true, false, false, false] rfl rfl (by kernel_rfl) (fun _ _ _ h => h) (Or.inl ⟨by rfl, ?_⟩) hHeld ?_ ?_
    rotate_left
    · rintro w' ⟨s0, s1, s2, s3, s4, s5, s6, s7, s8, s9, s10, s11, s12⟩
      go_simp
      with_reducible rfl
    rotate_left
    · simp only [Act.put, List.setIfInBounds_toArray, List.set_cons_zero, List.set_cons_succ, i64_w, i32_w]
      rfl
    refine one_ (i := 2) (N := some 93) #[true, true, true, true, true, false, true, true, false, false, true, false, false, false] rfl rfl (by kernel_rfl) (by decide) (fun K hK => ?_)
    refine goesv_ Try.func20 (by kernel_rfl) rfl #[.agg #[.slice (some ⟨gS0, 0, none⟩) nb cS0, .slice AB0 (Js 0).B.length cB0, .slice AR0 (Js 0).R.length cR0, .int .i64 t0]] (by rfl) rfl rfl (by rfl) (by simp only [List.map_toArray, List.map_cons, List.map_nil]; rfl) ?_
    with_reducible refine (HG0.out _ _ hHeld.2.2.2.2.2.2.2.2.2.2.2.2).mono ?_
    rintro e w15 ⟨rfl, hb⟩
    refine ⟨_, rfl, ?_⟩
    have h8 := HLZ.out _ (held_step hHeld.2.2.2.2.2.2.2.2.2.2.2.2 hb)
    refine hK.out _ _ ⟨h8.1, h8.2.1, h8.2.2.1, h8.2.2.2.1, h8.2.2.2.2.1, h8.2.2.2.2.2.1, h8.2.2.2.2.2.2.1, h8.2.2.2.2.2.2.2.1, h8.2.2.2.2.2.2.2.2.1, h8.2.2.2.2.2.2.2.2.2.1, h8.2.2.2.2.2.2.2.2.2.2.1, h8.2.2.2.2.2.2.2.2.2.2.2.1, h8.2.2.2.2.2.2.2.2.2.2.2.2⟩ (fun hHeld => ?_)
    clear hK K
    refine norm_ (a' := ?_) ?_ ?_
    rotate_left
    · show Act.put _ (some 93) _ = _
      simp only [Act.put, List.setIfInBounds_toArray, List.set_cons_zero, List.set_cons_succ, i64_w, i32_w]
      rfl
    refine one_ (i := 5) (N := some 96) #[true, true, true, true, true, true, true, true, false, false, true, false, false, false] rfl rfl (by kernel_rfl) (by decide) (fun K hK => ?_)
    refine goesv_ Try.func20 (by kernel_rfl) rfl #[.agg #[.slice (some ⟨gS1, 0, none⟩) nb cS1, .slice AB1 (Js 1).B.length cB1, .slice AR1 (Js 1).R.length cR1, .int .i64 t0]] (by rfl) rfl rfl (by rfl) (by simp only [List.map_toArray, List.map_cons, List.map_nil]; rfl) ?_
    with_reducible refine (HG1.out _ _ hHeld.2.2.2.2.2.2.2.2.2.2.2.2).mono ?_
    rintro e w15 ⟨rfl, hb⟩
    refine ⟨_, rfl, ?_⟩
    have h8 := HLZ.out _ (held_step hHeld.2.2.2.2.2.2.2.2.2.2.2.2 hb)
    refine hK.out _ _ ⟨h8.1, h8.2.1, h8.2.2.1, h8.2.2.2.1, h8.2.2.2.2.1, h8.2.2.2.2.2.1, h8.2.2.2.2.2.2.1, h8.2.2.2.2.2.2.2.1, h8.2.2.2.2.2.2.2.2.1, h8.2.2.2.2.2.2.2.2.2.1, h8.2.2.2.2.2.2.2.2.2.2.1, h8.2.2.2.2.2.2.2.2.2.2.2.1, h8.2.2.2.2.2.2.2.2.2.2.2.2⟩ (fun hHeld => ?_)
    clear hK K
    refine norm_ (a' := ?_) ?_ ?_
    rotate_left
    · show Act.put _ (some 96) _ = _
      simp only [Act.put, List.setIfInBounds_toArray, List.set_cons_zero, List.set_cons_succ, i64_w, i32_w]
      rfl
    refine one_ (i := 8) (N := some 99) #[true, true, true, true, true, true, true, true, true, false, true, false, false, false] rfl rfl (by kernel_rfl) (by decide) (fun K hK => ?_)
    refine goesv_ Try.func20 (by kernel_rfl) rfl #[.agg #[.slice (some ⟨gS2, 0, none⟩) nb cS2, .slice AB2 (Js 2).B.length cB2, .slice AR2 (Js 2).R.length cR2, .int .i64 t2]] (by rfl) rfl rfl (by rfl) (by simp only [List.map_toArray, List.map_cons, List.map_nil]; rfl) ?_
    with_reducible refine (HG2.out _ _ hHeld.2.2.2.2.2.2.2.2.2.2.2.2).mono ?_
    rintro e w15 ⟨rfl, hb⟩
    refine ⟨_, rfl, ?_⟩
    have h8 := HLZ.out _ (held_step hHeld.2.2.2.2.2.2.2.2.2.2.2.2 hb)
    refine hK.out _ _ ⟨h8.1, h8.2.1, h8.2.2.1, h8.2.2.2.1, h8.2.2.2.2.1, h8.2.2.2.2.2.1, h8.2.2.2.2.2.2.1, h8.2.2.2.2.2.2.2.1, h8.2.2.2.2.2.2.2.2.1, h8.2.2.2.2.2.2.2.2.2.1, h8.2.2.2.2.2.2.2.2.2.2.1, h8.2.2.2.2.2.2.2.2.2.2.2.1, h8.2.2.2.2.2.2.2.2.2.2.2.2⟩ (fun hHeld => ?_)
    clear hK K
    refine norm_ (a' := ?_) ?_ ?_
    rotate_left
    · show Act.put _ (some 99) _ = _
      simp only [Act.put, List.setIfInBounds_toArray, List.set_cons_zero, List.set_cons_succ, i64_w, i32_w]
      rfl
    refine one_ (i := 9) (N := some 100) #[true, true, true, true, true, true, true, true, true, true, true, false, false, false] rfl rfl (by kernel_rfl) (by decide) (fun K hK => ?_)
    refine value_ (w1 := ?_) (v := ?_) (by rfl) rfl ?_ ?_
    rotate_left 2
    · go_simp
      constructor
      · rfl
      · rfl
    have h8 := HLZ.out _ (below_alloc hHeld.2.2.2.2.2.2.2.2.2.2.2.2 (Obj.cells #[.int .i64 n0, .int .i64 n1, .int .i64 n2] 3))
    refine hK.out _ _ ⟨h8.1, h8.2.1, h8.2.2.1, h8.2.2.2.1, h8.2.2.2.2.1, h8.2.2.2.2.2.1, h8.2.2.2.2.2.2.1, h8.2.2.2.2.2.2.2.1, h8.2.2.2.2.2.2.2.2.1, h8.2.2.2.2.2.2.2.2.2.1, h8.2.2.2.2.2.2.2.2.2.2.1, h8.2.2.2.2.2.2.2.2.2.2.2.1, h8.2.2.2.2.2.2.2.2.2.2.2.2⟩ (fun hHeld => ?_)
    clear hK K
    refine norm_ (a' := ?_) ?_ ?_
    rotate_left
    · show Act.put _ (some 100) _ = _
      simp only [Act.put, List.setIfInBounds_toArray, List.set_cons_zero, List.set_cons_succ, i64_w, i32_w]
      rfl
    refine pure_ (i := 11) (N := some 102) (v := ?_) (a' := ?_) #[true, true, true, true, true, true, true, true, true, true, true, true, false, false] rfl rfl (by kernel_rfl) (fun _ _ _ h => h) (Or.inl ⟨by rfl, ?_⟩) ?_ ?_
    rotate_left
    · intro w'
      go_simp
      with_reducible rfl
    rotate_left
    · simp only [Act.put, List.setIfInBounds_toArray, List.set_cons_zero, List.set_cons_succ, i64_w, i32_w]
      rfl
    refine last_ (i := 12) (N := some 103) #[true, true, true, true, true, true, true, true, true, true, true, true, true, false] rfl rfl (by kernel_rfl) (by decide) (fun K hK => ?_)
    refine value_ (w1 := ?_) (v := ?_) (by rfl) rfl ?_ ?_
    rotate_left 2
    · go_simp
      constructor
      · rfl
      · rfl
    refine hK.out _ _ ?_
    clear hK K
    refine norm_ (a' := ?_) ?_ ?_
    rotate_left
    · show Act.put _ (some 103) _ = _
      simp only [Act.put, List.setIfInBounds_toArray, List.set_cons_zero, List.set_cons_succ, i64_w, i32_w]
      rfl
    refine pure_ (i := 13) (N := some 24) (v := ?_) (a' := ?_) #[true, true, true, true, true, true, true, true, true, true, true, true, true, true] rfl rfl (by kernel_rfl) (fun _ _ _ h => h) (Or.inl ⟨by rfl, ?_⟩) ?_ ?_
    rotate_left
    · intro w'
      go_simp
      with_reducible rfl
    rotate_left
    · simp only [Act.put, List.setIfInBounds_toArray, List.set_cons_zero, List.set_cons_succ, i64_w, i32_w]
      rfl
    refine done_ (by kernel_rfl) ?_

    have HX := Aside0.mk h8.2.2.2.2.2.2.2.2.2.2.2.2
    clear h8
    generalize w15.alloc (Obj.cells #[.int .i64 n0, .int .i64 n1, .int .i64 n2] 3) = W16 at HX ⊢
    obtain ⟨v0, v1, v2, v3, v4, v5, v6, v7, v8, v9, v10, v11, -⟩ := HLZ.out W16 HX.out
    go_wp2_with (first | (go_at_call 13; refine (slices_Equal_byte_byte.calls k AB0 cB0 (Js 0).B AB1 cB1 (Js 1).B true _ (RBX1.out _ HX.out).2 (RBX1.out _ HX.out).1 (RBY1.out _ HX.out).2 (RBY1.out _ HX.out).1 HE1.out).mono ?_; rintro e w17 ⟨rfl, nd, rfl⟩; have HY := Aside0.mk (pw_below_drewN HX.out nd); clear v0 v1 v2 v3 v4 v5 v6 v7 v8 v9 v10 v11; obtain ⟨v0, v1, v2, v3, v4, v5, v6, v7, v8, v9, v10, v11, -⟩ := HLZ.out _ HY.out) | (go_at_call 21; refine (HCI.out _ HY.out).mono ?_; rintro e w18 ⟨rfl, ne, rfl⟩; have HZ := Aside0.mk (pw_below_drewN HX.out (nd + ne)); clear v0 v1 v2 v3 v4 v5 v6 v7 v8 v9 v10 v11; obtain ⟨v0, v1, v2, v3, v4, v5, v6, v7, v8, v9, v10, v11, -⟩ := HLZ.out _ HZ.out) | (go_at_call 20; first | (with_reducible refine (HG0.out _ _ HZ.out).mono ?_; rintro e w19 ⟨rfl, hb⟩; have HU := Aside0.mk (held_step HZ.out hb); clear v0 v1 v2 v3 v4 v5 v6 v7 v8 v9 v10 v11 hb; obtain ⟨v0, v1, v2, v3, v4, v5, v6, v7, v8, v9, v10, v11, -⟩ := HLZ.out _ HU.out) | (with_reducible refine (HG2.out _ _ HU.out).mono ?_; rintro e w20 ⟨rfl, hb⟩; have HV := Aside0.mk (held_step HU.out hb); clear hb)))
    go_ret
    exact ⟨by first | rfl | simp, below_step HW13.out HV.out⟩
def wrackkeep1_PassPlans.ft (k : Nat) (D : List Int) (F : List S59) (a : Nat) : Int × Int × Int := (drive_fault.f k D F (a : Int)).getD (0, 0, 0)
def pick3 (a b c : Nat) (x : Nat) : Nat := if x = 0 then a else if x = 1 then b else c
/-- The three runs. -/
def wrackkeep1_PassPlans.J (k : Nat) (D : List Int) (F : List S59) (p q s : Int × Int) (x : Nat) : JS := runJ D (wrackkeep1_PassPlans.ft k D F) (pick3 p.1.toNat q.1.toNat s.1.toNat x) (pick3 p.2.toNat q.2.toNat s.2.toNat x) (D.length / 64)
def wrackkeep1_PassPlans.f (k : Nat) (l0 : List Int) (a1 a2 a3 a4 : Int) : Option Bool :=
  (wrackmake_Drive.f k l0).bind fun x => (drive_New.f k x.1 x.2).bind fun _ => (wrackkeep1_plan.f a1 a3).bind fun p => (wrackkeep1_plan.f a2 a3).bind fun q => (wrackkeep1_plan.f a2 (wrap64 (a3 + a4))).bind fun s =>
  (drive_New.f k (List.replicate 192 0) [(⟨0, 1, 0⟩ : S59)]).bind fun _ => (slices_Equal_int_int.f k [0, 2, 1] [0, 2, 1]).bind fun e =>
  (if e = true ∧ 1 ≤ x.1.length / 64 ∧ x.1.length = 64 * (x.1.length / 64) ∧ x.1.length ≤ 65536 then some () else none).bind fun _ =>
  (if (0 ≤ p.1 ∧ p.1 ≤ 64 ∧ 1 ≤ p.2 ∧ p.2 ≤ 16) ∧ (0 ≤ q.1 ∧ q.1 ≤ 64 ∧ 1 ≤ q.2 ∧ q.2 ≤ 16) ∧ (0 ≤ s.1 ∧ s.1 ≤ 64 ∧ 1 ≤ s.2 ∧ s.2 ≤ 16) then some () else none).bind fun _ =>
  (if ∀ a < x.1.length / 64, drive_fault.f k x.1 x.2 ((a : Nat) : Int) = some (wrackkeep1_PassPlans.ft k x.1 x.2 a) ∧ 0 ≤ ansT (wrackkeep1_PassPlans.ft k x.1 x.2 a) ∧ ansT (wrackkeep1_PassPlans.ft k x.1 x.2 a) ≤ 100 then some () else none).bind fun _ =>
  (if ∀ a : Nat, a < 3 → drive_fault.f k (List.replicate 192 0) [(⟨0, 1, 0⟩ : S59)] ((a : Nat) : Int) = some (pft a) then some () else none).bind fun _ =>
  (if ∀ y : Nat, y < 3 → (wrackkeep1_PassPlans.J k x.1 x.2 p q s y).S.length = x.1.length / 64 then some () else none).bind fun _ =>
  (if slices_Equal_byte_byte.f k (wrackkeep1_PassPlans.J k x.1 x.2 p q s 0).B (wrackkeep1_PassPlans.J k x.1 x.2 p q s 1).B = some true then some () else none).bind fun _ =>
  (if slices_Equal_int_int.f k (wrackkeep1_PassPlans.J k x.1 x.2 p q s 0).S (wrackkeep1_PassPlans.J k x.1 x.2 p q s 1).S = some true then some () else none).bind fun _ =>
  (if (wrackkeep1_PassPlans.J k x.1 x.2 p q s 0).tm = (wrackkeep1_PassPlans.J k x.1 x.2 p q s 1).tm then some () else none).bind fun _ =>
  if bestJ (wrackkeep1_PassPlans.J k x.1 x.2 p q s) 2 ≠ 1 ∧ (wrackkeep1_PassPlans.J k x.1 x.2 p q s 0).S.count 1 ≤ (wrackkeep1_PassPlans.J k x.1 x.2 p q s (bestJ (wrackkeep1_PassPlans.J k x.1 x.2 p q s) 2)).S.count 1 ∧ (wrackkeep1_PassPlans.J k x.1 x.2 p q s 2).S.count 1 ≤ (wrackkeep1_PassPlans.J k x.1 x.2 p q s (bestJ (wrackkeep1_PassPlans.J k x.1 x.2 p q s) 2)).S.count 1 then some true else none
theorem guard_of {C : Prop} [Decidable C] {u : Unit} (h : (if C then some () else none) = some u) : C := by
  by_cases c : C
  · exact c
  · rw [if_neg c] at h; exact absurd h (by simp)
theorem wrackkeep1_PassPlans.calls (k : Nat) (A0 : Option Addr) (c0 : Nat) (l0 : List Int) (a1 a2 a3 a4 : Int) (r : Bool) (w : World) (hr0 : Kd.C (Kd.int .i64) w A0 l0.length l0) (hc0 : l0.length ≤ c0) (h : wrackkeep1_PassPlans.f k l0 a1 a2 a3 a4 = some r) :
    Calls Try.prog 5 #[.slice A0 l0.length c0, .int .i64 a1, .int .i64 a2, .int .i64 a3, .int .i64 a4] w fun e w' => e = .returned (.bool r) ∧ Below w.heap.size w w' := by
  unfold wrackkeep1_PassPlans.f at h
  obtain ⟨⟨D, F⟩, h1, h⟩ := Option.bind_eq_some_iff.mp h
  obtain ⟨_, h2, h⟩ := Option.bind_eq_some_iff.mp h
  obtain ⟨⟨K0, T0⟩, h4, h⟩ := Option.bind_eq_some_iff.mp h
  obtain ⟨⟨K1, T1⟩, h5, h⟩ := Option.bind_eq_some_iff.mp h
  obtain ⟨⟨K2, T2⟩, h6, h⟩ := Option.bind_eq_some_iff.mp h
  obtain ⟨_, p1, h⟩ := Option.bind_eq_some_iff.mp h
  obtain ⟨e1, p3, h⟩ := Option.bind_eq_some_iff.mp h
  simp only at h2 h
  obtain ⟨_, g1, h⟩ := Option.bind_eq_some_iff.mp h
  obtain ⟨_, g2, h⟩ := Option.bind_eq_some_iff.mp h
  obtain ⟨_, y1, h⟩ := Option.bind_eq_some_iff.mp h
  obtain ⟨_, y2, h⟩ := Option.bind_eq_some_iff.mp h
  obtain ⟨_, y3, h⟩ := Option.bind_eq_some_iff.mp h
  obtain ⟨_, y4, h⟩ := Option.bind_eq_some_iff.mp h
  obtain ⟨_, y5, h⟩ := Option.bind_eq_some_iff.mp h
  obtain ⟨_, y6, h⟩ := Option.bind_eq_some_iff.mp h
  split at h
  case isFalse => exact absurd h (by simp)
  case isTrue y7 =>
    obtain rfl := Option.some.inj h
    obtain ⟨rfl, x5, x6, x7⟩ := guard_of g1
    obtain ⟨⟨k1, k2, k3, k4⟩, ⟨m1, m2, m3, m4⟩, ⟨n1, n2, n3, n4⟩⟩ := guard_of g2
    obtain ⟨K0, rfl⟩ : ∃ Q : Nat, K0 = Q := ⟨K0.toNat, by omega⟩
    obtain ⟨T0, rfl⟩ : ∃ Q : Nat, T0 = Q := ⟨T0.toNat, by omega⟩
    obtain ⟨K1, rfl⟩ : ∃ Q : Nat, K1 = Q := ⟨K1.toNat, by omega⟩
    obtain ⟨T1, rfl⟩ : ∃ Q : Nat, T1 = Q := ⟨T1.toNat, by omega⟩
    obtain ⟨K2, rfl⟩ : ∃ Q : Nat, K2 = Q := ⟨K2.toNat, by omega⟩
    obtain ⟨T2, rfl⟩ : ∃ Q : Nat, T2 = Q := ⟨T2.toNat, by omega⟩
    have hK : ∀ x < 3, pick3 K0 K1 K2 x ≤ 64 ∧ 1 ≤ pick3 T0 T1 T2 x ∧ pick3 T0 T1 T2 x ≤ 16 := by
      intro x hx
      have h3 : x = 0 ∨ x = 1 ∨ x = 2 := by omega
      rcases h3 with rfl | rfl | rfl
      · exact ⟨by show K0 ≤ 64; omega, by show 1 ≤ T0; omega, by show T0 ≤ 16; omega⟩
      · exact ⟨by show K1 ≤ 64; omega, by show 1 ≤ T1; omega, by show T1 ≤ 16; omega⟩
      · exact ⟨by show K2 ≤ 64; omega, by show 1 ≤ T2; omega, by show T2 ≤ 16; omega⟩
    exact wrackkeep1_PassPlans.lawx k A0 c0 l0 a1 a2 a3 a4 w hr0 hc0 D F (pick3 K0 K1 K2) (pick3 T0 T1 T2) (D.length / 64) (wrackkeep1_PassPlans.ft k D F) (wrackkeep1_PassPlans.J k D F ((K0 : Int), (T0 : Int)) ((K1 : Int), (T1 : Int)) ((K2 : Int), (T2 : Int))) h1 h2 h4 h5 h6 hK x5 x6 x7 (guard_of y1) p1 (guard_of y2) p3 (fun x _ => rfl) (guard_of y3) (guard_of y4) (guard_of y5) (guard_of y6) y7.1 y7.2.1 y7.2.2
/-- THE ONE PURE STATEMENT of wrackkeep1_PassPlans. -/
def wrackkeep1_PassPlans.Pure : Prop := ∀ (l0 : List Int) (a1 : Int) (a2 : Int) (a3 : Int) (a4 : Int), l0.length ≤ maxLen → l0.length * 8 ≤ 140737488351232 → (∀ x ∈ l0, (Lit.int .i64 x).wf = true) → (Lit.int .i64 a1).wf = true → (Lit.int .i64 a2).wf = true → (Lit.int .i64 a3).wf = true → (Lit.int .i64 a4).wf = true → ∃ k, wrackkeep1_PassPlans.f k l0 a1 a2 a3 a4 = some true
theorem wrackkeep1_PassPlans.walk (P : wrackkeep1_PassPlans.Pure) (a0 : Option Addr) (len0 cap0 : Nat) (z0 : List Int) (a1 : Int) (a2 : Int) (a3 : Int) (a4 : Int) (w : World) (w0 : (a0 = none ∧ len0 = 0 ∧ cap0 = 0 ∧ z0 = []) ∨ ∃ x, a0 = some x ∧ len0 ≤ cap0 ∧ cap0 ≤ maxLen ∧ z0.length = cap0 ∧ (∀ i, i < z0.length → w.cell? (x.add i) = some (.int .i64 (z0.getD i 0))) ∧ ∀ n ∈ z0, (Lit.int .i64 n).wf = true) (y0 : len0 * 8 ≤ 140737488351232) (w1 : (Lit.int .i64 a1).wf = true) (w2 : (Lit.int .i64 a2).wf = true) (w3 : (Lit.int .i64 a3).wf = true) (w4 : (Lit.int .i64 a4).wf = true) :
    Calls Try.prog 5 #[.slice a0 len0 cap0, .int .i64 a1, .int .i64 a2, .int .i64 a3, .int .i64 a4] w fun e w' => e = .returned (.bool true) ∧ Below w.heap.size w w' := by
  obtain ⟨l0, rfl, hr0, hm0, hw0, hc0⟩ := ReadsInt.ofRowC w0
  obtain ⟨k, h⟩ := P l0 a1 a2 a3 a4 hm0 y0 hw0 w1 w2 w3 w4
  exact wrackkeep1_PassPlans.calls k _ _ l0 a1 a2 a3 a4 true w (Kd.C_of_reads (d := (0 : Int)) (h1 := fun _ => rfl) hr0) hc0 h

end Go.Proofs.Ytcnabemeadnecaa.PPassPlans
