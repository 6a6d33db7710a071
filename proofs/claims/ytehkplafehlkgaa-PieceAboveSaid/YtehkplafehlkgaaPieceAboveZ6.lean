/- Texts of the claim PieceAbove: words, printed walks and lemmas, put together by pack.py. -/
import Derived.Test.YtehkplafehlkgaaPieceAboveZ5
import Derived.SizedLaws
import Derived.ChangeSlices
namespace Go.Proofs.Ytehkplafehlkgaa.PPieceAbove
open Go.RowKit Go.Proofs.YtehkplafehlkgaaW.PrintWords Go.Proofs.YtehkplafehlkgaaW.PrintLast Go.Proofs.YtehkplafehlkgaaW.PrintMore Go.Proofs.YtehkplafehlkgaaW.PrintMine
attribute [local go_sem] max2_int min2_int max_two min_two max_three min_three max_four min_four
set_option linter.unusedVariables false
set_option linter.unusedSimpArgs false
mutual
def wrackkeep3_PieceAbove.j0 : Nat → List Int → Int → Bool → List Int → List Int → List (List Int) → List Int → List Int → Option (Bool)
 | 0, _, _, _, _, _, _, _, _ => none
 | k + 1, x1, x7, x67, x279000, x279001, x279002, x293000, x293001 => if x67 = true then (some false) else (wrackkeep3_PieceAbove.l0 k x7 (x293000.length : Int) 0 x279000 x279001 x279002 x293000 x293001 x1)
def wrackkeep3_PieceAbove.l0 : Nat → Int → Int → Int → List Int → List Int → List (List Int) → List Int → List Int → List Int → Option (Bool)
 | 0, _, _, _, _, _, _, _, _, _ => none
 | k + 1, x7, x73, x74, x279000, x279001, x279002, x293000, x293001, x297000 => if x74 < x73 then (if 0 ≤ x74 then (if x74 < (x293000.length : Int) then ((wrackmake_Stream_Next.f x297000 9).bind fun bt298 => (if x74 < (x293001.length : Int) then ((wrackmake_Stream_Next.f bt298.2 9).bind fun bt301 => (wrackkeep3_PieceAbove.l0 k x7 x73 (wrap64 (x74 + 1)) x279000 x279001 x279002 (x293000.set (x74 : Int).toNat (wrap64 ((wrap64 ((rd x293000 x74) + bt298.1)) - 2))) (x293001.set (x74 : Int).toNat (wrap64 ((wrap64 ((rd x293001 x74) + bt301.1)) - 2))) bt301.2)) else (none))) else (none)) else (none)) else ((piece_Holds.f k x279000 x279001 x279002 x293000 x293001).bind fun bt305 => (if bt305.2 = 17 then (some true) else (if bt305.2 = 0 then (if (x279000.length : Int) = 0 then (some true) else (some (decide (x7 ≤ bt305.1)))) else (some false))))
end
def wrackkeep3_PieceAbove.f (k : Nat) (l0 : List Int) (l1 : List Int) : Option (Bool) := (wrackkeep3_table.f k l0).bind fun bt269 => ((piece_Best.f k bt269.1 bt269.2.1 bt269.2.2).bind fun bt279 => ((piece_Prove.f k bt269.1 bt269.2.1 bt269.2.2).bind fun bt284 => ((piece_Holds.f k bt269.1 bt269.2.1 bt269.2.2 bt284.1 bt284.2.1).bind fun bt293 => ((wrackkeep3_ordered.f k).bind fun t295 => (if t295 = true then (if bt279.2.2 = 0 then (if bt284.2.2.2 = 0 then (if bt293.2 = 0 then (if bt293.1 = bt284.2.2.1 then (if (bt269.1.length : Int) > 0 then (wrackkeep3_PieceAbove.j0 k l1 bt279.2.1 (decide (bt279.2.1 > bt284.2.2.1)) bt269.1 bt269.2.1 bt269.2.2 bt284.1 bt284.2.1) else (wrackkeep3_PieceAbove.j0 k l1 bt279.2.1 false bt269.1 bt269.2.1 bt269.2.2 bt284.1 bt284.2.1)) else (wrackkeep3_PieceAbove.j0 k l1 bt279.2.1 true bt269.1 bt269.2.1 bt269.2.2 bt284.1 bt284.2.1)) else (wrackkeep3_PieceAbove.j0 k l1 bt279.2.1 true bt269.1 bt269.2.1 bt269.2.2 bt284.1 bt284.2.1)) else (wrackkeep3_PieceAbove.j0 k l1 bt279.2.1 true bt269.1 bt269.2.1 bt269.2.2 bt284.1 bt284.2.1)) else (wrackkeep3_PieceAbove.j0 k l1 bt279.2.1 true bt269.1 bt269.2.1 bt269.2.2 bt284.1 bt284.2.1)) else (wrackkeep3_PieceAbove.j0 k l1 bt279.2.1 true bt269.1 bt269.2.1 bt269.2.2 bt284.1 bt284.2.1))))))
theorem wrackkeep3_PieceAbove.mono_l : ∀ k, (∀ y0 y1 y2 y3 y4 y5 y6 y7, LeO (wrackkeep3_PieceAbove.j0 k y0 y1 y2 y3 y4 y5 y6 y7) (wrackkeep3_PieceAbove.j0 (k + 1) y0 y1 y2 y3 y4 y5 y6 y7)) ∧ (∀ y0 y1 y2 y3 y4 y5 y6 y7 y8, LeO (wrackkeep3_PieceAbove.l0 k y0 y1 y2 y3 y4 y5 y6 y7 y8) (wrackkeep3_PieceAbove.l0 (k + 1) y0 y1 y2 y3 y4 y5 y6 y7 y8))
 | 0 => ⟨fun _ _ _ _ _ _ _ _ r h => by simp [wrackkeep3_PieceAbove.j0] at h, fun _ _ _ _ _ _ _ _ _ r h => by simp [wrackkeep3_PieceAbove.l0] at h⟩
 | k + 1 => by
  obtain ⟨ih0, ih1⟩ := wrackkeep3_PieceAbove.mono_l k
  refine ⟨?_, ?_⟩
  ·intro y0 y1 y2 y3 y4 y5 y6 y7
   unfold wrackkeep3_PieceAbove.j0
   repeat' first
   | (with_reducible exact ih0 _ _ _ _ _ _ _ _)
   | (with_reducible exact ih1 _ _ _ _ _ _ _ _ _)
   | (with_reducible exact piece_Best.mono _ _ _ _)
   | (with_reducible exact piece_Holds.mono _ _ _ _ _ _)
   | (with_reducible exact piece_Prove.mono _ _ _ _)
   | (with_reducible exact wrackkeep3_ordered.mono _)
   | (with_reducible exact wrackkeep3_table.mono _ _)
   | (with_reducible exact LeO.refl _)
   | (with_reducible exact LeO.none _)
   | (with_reducible refine LeO.ite ?_ ?_)
   | (with_reducible refine LeO.bind ?_ (fun _ => ?_))
   | exact ih0 _ _ _ _ _ _ _ _
   | exact ih1 _ _ _ _ _ _ _ _ _
   | exact piece_Best.mono _ _ _ _
   | exact piece_Holds.mono _ _ _ _ _ _
   | exact piece_Prove.mono _ _ _ _
   | exact wrackkeep3_ordered.mono _
   | exact wrackkeep3_table.mono _ _
   | exact LeO.none _
   | refine LeO.ite ?_ ?_
   | refine LeO.bind ?_ (fun _ => ?_)
  ·intro y0 y1 y2 y3 y4 y5 y6 y7 y8
   unfold wrackkeep3_PieceAbove.l0
   repeat' first
   | (with_reducible exact ih0 _ _ _ _ _ _ _ _)
   | (with_reducible exact ih1 _ _ _ _ _ _ _ _ _)
   | (with_reducible exact piece_Best.mono _ _ _ _)
   | (with_reducible exact piece_Holds.mono _ _ _ _ _ _)
   | (with_reducible exact piece_Prove.mono _ _ _ _)
   | (with_reducible exact wrackkeep3_ordered.mono _)
   | (with_reducible exact wrackkeep3_table.mono _ _)
   | (with_reducible exact LeO.refl _)
   | (with_reducible exact LeO.none _)
   | (with_reducible refine LeO.ite ?_ ?_)
   | (with_reducible refine LeO.bind ?_ (fun _ => ?_))
   | exact ih0 _ _ _ _ _ _ _ _
   | exact ih1 _ _ _ _ _ _ _ _ _
   | exact piece_Best.mono _ _ _ _
   | exact piece_Holds.mono _ _ _ _ _ _
   | exact piece_Prove.mono _ _ _ _
   | exact wrackkeep3_ordered.mono _
   | exact wrackkeep3_table.mono _ _
   | exact LeO.none _
   | refine LeO.ite ?_ ?_
   | refine LeO.bind ?_ (fun _ => ?_)
theorem wrackkeep3_PieceAbove.mono : ∀ a0 a1 k, LeO (wrackkeep3_PieceAbove.f k a0 a1) (wrackkeep3_PieceAbove.f (k + 1) a0 a1) := by
 intro a0 a1 k
 obtain ⟨ih0, ih1⟩ := wrackkeep3_PieceAbove.mono_l k
 unfold wrackkeep3_PieceAbove.f
 repeat' first
   | (with_reducible exact ih0 _ _ _ _ _ _ _ _)
   | (with_reducible exact ih1 _ _ _ _ _ _ _ _ _)
   | (with_reducible exact piece_Best.mono _ _ _ _)
   | (with_reducible exact piece_Holds.mono _ _ _ _ _ _)
   | (with_reducible exact piece_Prove.mono _ _ _ _)
   | (with_reducible exact wrackkeep3_ordered.mono _)
   | (with_reducible exact wrackkeep3_table.mono _ _)
   | (with_reducible exact LeO.refl _)
   | (with_reducible exact LeO.none _)
   | (with_reducible refine LeO.ite ?_ ?_)
   | (with_reducible refine LeO.bind ?_ (fun _ => ?_))
   | exact ih0 _ _ _ _ _ _ _ _
   | exact ih1 _ _ _ _ _ _ _ _ _
   | exact piece_Best.mono _ _ _ _
   | exact piece_Holds.mono _ _ _ _ _ _
   | exact piece_Prove.mono _ _ _ _
   | exact wrackkeep3_ordered.mono _
   | exact wrackkeep3_table.mono _ _
   | exact LeO.none _
   | refine LeO.ite ?_ ?_
   | refine LeO.bind ?_ (fun _ => ?_)
def wrackkeep3_PieceAbove.T11 : Bool × List (List Nat × List Nat) := (true, [([], []), ([0], [0]), ([], []), ([], []), ([3], [3]), ([], []), ([], []), ([6], [6]), ([], []), ([7, 8], [7, 8]), ([9], [9]), ([], []), ([11], [11]), ([10, 12], [10, 12]), ([13], [13]), ([], []), ([15], [15]), ([], []), ([16, 17], [16, 17]), ([18], [18]), ([], []), ([20, 12], [20]), ([19, 21], [19, 21]), ([22], [22]), ([1, 2, 0, 1, 2, 6, 7, 8, 9, 10, 11, 12, 13, 14, 19, 21], [1, 2]), ([24, 14, 21, 0, 1, 2, 6, 7, 8, 9, 10, 11, 12, 13, 14, 19, 21], [14, 24]), ([4, 5, 0, 1, 2, 3, 4, 5, 6, 7, 8, 9, 10, 11, 12, 13, 14, 15, 16, 17, 18, 19, 20, 21, 22, 23, 24, 25], [4, 5]), ([26, 23, 25, 0, 1, 2, 3, 4, 5, 6, 7, 8, 9, 10, 11, 12, 13, 14, 15, 16, 17, 18, 19, 20, 21, 22, 23, 24, 25], [23, 26])])
def wrackkeep3_PieceAbove.B11 : List Nat := [0, 1, 0, 0, 8, 0, 0, 64, 0, 448, 960, 0, 2048, 8128, 16320, 0, 32768, 0, 229376, 491520, 0, 1054720, 4167680, 8361984, 4194247, 20971463, 67108863, 134217727]
theorem wrackkeep3_PieceAbove.tab11 : rtab .any (opsOf Try.f9 11) = wrackkeep3_PieceAbove.T11 := by kernel_rfl
theorem wrackkeep3_PieceAbove.bits11 : waitsOk wrackkeep3_PieceAbove.T11.2 wrackkeep3_PieceAbove.B11 = true := by kernel_rfl
set_option maxHeartbeats 8000000 in
set_option maxRecDepth 100000 in
theorem wrackkeep3_PieceAbove.calls (k : Nat) (A0 : Option Addr) (c0 : Nat) (l0 : List Int) (A1 : Option Addr) (c1 : Nat) (l1 : List Int) (r : Bool) (w : World) (hr0 : Kd.C (Kd.int .i64) w A0 l0.length l0) (hc0 : l0.length ≤ c0) (hr1 : Kd.C (Kd.int .i64) w A1 l1.length l1) (hc1 : l1.length ≤ c1) (h : wrackkeep3_PieceAbove.f k l0 l1 = some r) :
  Calls Try.prog 9 #[.slice A0 l0.length c0, .slice A1 l1.length c1] w fun e w' => e = .returned (.bool r) ∧ Below w.heap.size w w' := by
 have hu70 := Try.underlying70
 have hu79 := Try.underlying79
 have hu66 := Try.underlying66
 have HR0 := Aside0.mk hr0
 have HC0 := Aside0.mk hc0
 clear hr0 hc0
 have HR1 := Aside0.mk hr1
 have HC1 := Aside0.mk hc1
 clear hr1 hc1
 have HB := Aside0.mk (Below.refl w.heap.size w)
 have H : ((wrackkeep3_table.f k l0).bind fun bt269 => ((piece_Best.f k bt269.1 bt269.2.1 bt269.2.2).bind fun bt279 => ((piece_Prove.f k bt269.1 bt269.2.1 bt269.2.2).bind fun bt284 => ((piece_Holds.f k bt269.1 bt269.2.1 bt269.2.2 bt284.1 bt284.2.1).bind fun bt293 => ((wrackkeep3_ordered.f k).bind fun t295 => (if t295 = true then (if bt279.2.2 = 0 then (if bt284.2.2.2 = 0 then (if bt293.2 = 0 then (if bt293.1 = bt284.2.2.1 then (if (bt269.1.length : Int) > 0 then (wrackkeep3_PieceAbove.j0 k l1 bt279.2.1 (decide (bt279.2.1 > bt284.2.2.1)) bt269.1 bt269.2.1 bt269.2.2 bt284.1 bt284.2.1) else (wrackkeep3_PieceAbove.j0 k l1 bt279.2.1 false bt269.1 bt269.2.1 bt269.2.2 bt284.1 bt284.2.1)) else (wrackkeep3_PieceAbove.j0 k l1 bt279.2.1 true bt269.1 bt269.2.1 bt269.2.2 bt284.1 bt284.2.1)) else (wrackkeep3_PieceAbove.j0 k l1 bt279.2.1 true bt269.1 bt269.2.1 bt269.2.2 bt284.1 bt284.2.1)) else (wrackkeep3_PieceAbove.j0 k l1 bt279.2.1 true bt269.1 bt269.2.1 bt269.2.2 bt284.1 bt284.2.1)) else (wrackkeep3_PieceAbove.j0 k l1 bt279.2.1 true bt269.1 bt269.2.1 bt269.2.2 bt284.1 bt284.2.1)) else (wrackkeep3_PieceAbove.j0 k l1 bt279.2.1 true bt269.1 bt269.2.1 bt269.2.2 bt284.1 bt284.2.1))))))) = some r := h
 clear h
 replace H := Option.bind_eq_some_iff.mp H
 obtain ⟨⟨t269, t272, t275⟩, A30, H⟩ := H
 replace H : ((piece_Best.f k t269 t272 t275).bind fun bt279 => ((piece_Prove.f k t269 t272 t275).bind fun bt284 => ((piece_Holds.f k t269 t272 t275 bt284.1 bt284.2.1).bind fun bt293 => ((wrackkeep3_ordered.f k).bind fun t295 => (if t295 = true then (if bt279.2.2 = 0 then (if bt284.2.2.2 = 0 then (if bt293.2 = 0 then (if bt293.1 = bt284.2.2.1 then (if (t269.length : Int) > 0 then (wrackkeep3_PieceAbove.j0 k l1 bt279.2.1 (decide (bt279.2.1 > bt284.2.2.1)) t269 t272 t275 bt284.1 bt284.2.1) else (wrackkeep3_PieceAbove.j0 k l1 bt279.2.1 false t269 t272 t275 bt284.1 bt284.2.1)) else (wrackkeep3_PieceAbove.j0 k l1 bt279.2.1 true t269 t272 t275 bt284.1 bt284.2.1)) else (wrackkeep3_PieceAbove.j0 k l1 bt279.2.1 true t269 t272 t275 bt284.1 bt284.2.1)) else (wrackkeep3_PieceAbove.j0 k l1 bt279.2.1 true t269 t272 t275 bt284.1 bt284.2.1)) else (wrackkeep3_PieceAbove.j0 k l1 bt279.2.1 true t269 t272 t275 bt284.1 bt284.2.1)) else (wrackkeep3_PieceAbove.j0 k l1 bt279.2.1 true t269 t272 t275 bt284.1 bt284.2.1)))))) = some r := H
 have A3 := Aside0.mk A30
 clear A30
 replace H := Option.bind_eq_some_iff.mp H
 obtain ⟨⟨t279, t282, t283⟩, A40, H⟩ := H
 replace H : ((piece_Prove.f k t269 t272 t275).bind fun bt284 => ((piece_Holds.f k t269 t272 t275 bt284.1 bt284.2.1).bind fun bt293 => ((wrackkeep3_ordered.f k).bind fun t295 => (if t295 = true then (if t283 = 0 then (if bt284.2.2.2 = 0 then (if bt293.2 = 0 then (if bt293.1 = bt284.2.2.1 then (if (t269.length : Int) > 0 then (wrackkeep3_PieceAbove.j0 k l1 t282 (decide (t282 > bt284.2.2.1)) t269 t272 t275 bt284.1 bt284.2.1) else (wrackkeep3_PieceAbove.j0 k l1 t282 false t269 t272 t275 bt284.1 bt284.2.1)) else (wrackkeep3_PieceAbove.j0 k l1 t282 true t269 t272 t275 bt284.1 bt284.2.1)) else (wrackkeep3_PieceAbove.j0 k l1 t282 true t269 t272 t275 bt284.1 bt284.2.1)) else (wrackkeep3_PieceAbove.j0 k l1 t282 true t269 t272 t275 bt284.1 bt284.2.1)) else (wrackkeep3_PieceAbove.j0 k l1 t282 true t269 t272 t275 bt284.1 bt284.2.1)) else (wrackkeep3_PieceAbove.j0 k l1 t282 true t269 t272 t275 bt284.1 bt284.2.1))))) = some r := H
 have A4 := Aside0.mk A40
 clear A40
 replace H := Option.bind_eq_some_iff.mp H
 obtain ⟨⟨t284, t287, t290, t291⟩, A50, H⟩ := H
 replace H : ((piece_Holds.f k t269 t272 t275 t284 t287).bind fun bt293 => ((wrackkeep3_ordered.f k).bind fun t295 => (if t295 = true then (if t283 = 0 then (if t291 = 0 then (if bt293.2 = 0 then (if bt293.1 = t290 then (if (t269.length : Int) > 0 then (wrackkeep3_PieceAbove.j0 k l1 t282 (decide (t282 > t290)) t269 t272 t275 t284 t287) else (wrackkeep3_PieceAbove.j0 k l1 t282 false t269 t272 t275 t284 t287)) else (wrackkeep3_PieceAbove.j0 k l1 t282 true t269 t272 t275 t284 t287)) else (wrackkeep3_PieceAbove.j0 k l1 t282 true t269 t272 t275 t284 t287)) else (wrackkeep3_PieceAbove.j0 k l1 t282 true t269 t272 t275 t284 t287)) else (wrackkeep3_PieceAbove.j0 k l1 t282 true t269 t272 t275 t284 t287)) else (wrackkeep3_PieceAbove.j0 k l1 t282 true t269 t272 t275 t284 t287)))) = some r := H
 have A5 := Aside0.mk A50
 clear A50
 replace H := Option.bind_eq_some_iff.mp H
 obtain ⟨⟨t293, t294⟩, A60, H⟩ := H
 replace H : ((wrackkeep3_ordered.f k).bind fun t295 => (if t295 = true then (if t283 = 0 then (if t291 = 0 then (if t294 = 0 then (if t293 = t290 then (if (t269.length : Int) > 0 then (wrackkeep3_PieceAbove.j0 k l1 t282 (decide (t282 > t290)) t269 t272 t275 t284 t287) else (wrackkeep3_PieceAbove.j0 k l1 t282 false t269 t272 t275 t284 t287)) else (wrackkeep3_PieceAbove.j0 k l1 t282 true t269 t272 t275 t284 t287)) else (wrackkeep3_PieceAbove.j0 k l1 t282 true t269 t272 t275 t284 t287)) else (wrackkeep3_PieceAbove.j0 k l1 t282 true t269 t272 t275 t284 t287)) else (wrackkeep3_PieceAbove.j0 k l1 t282 true t269 t272 t275 t284 t287)) else (wrackkeep3_PieceAbove.j0 k l1 t282 true t269 t272 t275 t284 t287))) = some r := H
 have A6 := Aside0.mk A60
 clear A60
 have HC7 := Aside0.mk H
 clear H
 go_enter Try.func9, Try.ntmps9
 go_upto_region 5 with (first | ((with_reducible refine gate_callee (f := 48) rfl ?_); refine goesL_ (some 19) rfl rfl Try.func48 (by kernel_rfl) rfl #[.slice A0 l0.length c0] rfl (by (try simp only [List.map_toArray, List.map_cons, List.map_nil]); first | done | rfl | (simp only [List.length_drop, List.length_take]; rfl)) ?_; (with_reducible refine (wrackkeep3_table.calls k _ _ l0 t269 t272 t275 _ ?side1 ?side2 A3.out).mono ?_); (case side1 => repeat (first | exact HR0.out | (with_reducible refine Kd.C_alloc ?_ _) | (with_reducible refine Kd.C_drewN ?_ _) | (with_reducible refine Kd.C_drew ?_))); (case side2 => exact HC0.out); rintro e w8 ⟨v270, v273, v276, rfl, ho0, ho1, ho2, hb⟩; refine ⟨_, rfl, ?_⟩; have n0_ := Aside0.mk (Kd.R_lower ho0 (below_size (by repeat (first | (with_reducible first | exact HB.out | apply below_alloc | apply pw_below_drewN | apply below_drew1) | exact HB.out)))); have n1_ := Aside0.mk (Kd.R_lower ho1 (below_size (by repeat (first | (with_reducible first | exact HB.out | apply below_alloc | apply pw_below_drewN | apply below_drew1) | exact HB.out)))); have n2_ := Aside0.mk (Kd.S_lower ho2 (below_size (by repeat (first | (with_reducible first | exact HB.out | apply below_alloc | apply pw_below_drewN | apply below_drew1) | exact HB.out)))); have n3_ := Aside0.mk (below_step (by repeat (first | (with_reducible first | exact HB.out | apply below_alloc | apply pw_below_drewN | apply below_drew1) | exact HB.out)) hb); clear HB; have HO271 := n0_; have HO274 := n1_; have HO277 := n2_; have HB := n3_; clear n0_ n1_ n2_ n3_; (try clear hb); (try clear hb2); (try clear hk); (try clear hi); (try clear ho0); (try clear ho1); (try clear ho2)) | ((with_reducible refine gate_dst (N := 5) rfl ?_); (try (refine gate_guard (by rfl) ?_; dsimp only)); refine box_event ?hg (N := 5) ?hd (cs := #[.slice none 0 0, .slice none 0 0, .slice none 0 0]) (t := 70) ?hr ?_; (case hd => rfl); (case hg => rfl); (case hr => first | (go_simp; done) | (go_simp; rfl)); intro gb278 hg w9 hbox hb; have n0_ := Aside0.mk (Kd.R_below (by (with_reducible repeat (first | apply Kd.R_alloc | apply Kd.R_drewN | apply Kd.R_drew)); exact HO271.out) hb); have n1_ := Aside0.mk (Kd.R_below (by (with_reducible repeat (first | apply Kd.R_alloc | apply Kd.R_drewN | apply Kd.R_drew)); exact HO274.out) hb); have n2_ := Aside0.mk (Kd.S_below (by (with_reducible repeat (first | apply Kd.S_alloc | apply Kd.S_drewN | apply Kd.S_drew)); exact HO277.out) hb); have n3_ := Aside0.mk (below_step (by repeat (first | (with_reducible first | exact HB.out | apply below_alloc | apply pw_below_drewN | apply below_drew1) | exact HB.out)) hb); have n4_ := Aside0.mk (hbox); have n5_ := Aside0.mk ((by rw [hg]; exact (below_size (by repeat (first | (with_reducible first | exact HB.out | apply below_alloc | apply pw_below_drewN | apply below_drew1) | exact HB.out))) : w.heap.size ≤ gb278)); have n6_ := Aside0.mk ((by rw [hg]; exact (below_size (by repeat (first | (with_reducible first | exact HB.out | apply below_alloc | apply pw_below_drewN | apply below_drew1) | exact HB.out))) : w.heap.size ≤ gb278)); clear HO271; clear HO274; clear HO277; clear HB; have HO271 := n0_; have HO274 := n1_; have HO277 := n2_; have HB := n3_; have BK278 := n4_; have GW278 := n5_; have GE278 := n6_; clear n0_ n1_ n2_ n3_ n4_ n5_ n6_; clear hb hbox hg; obtain ⟨Ao10, co10, eo10⟩ := Kd.R_slice HO271.out; subst eo10; have hcz11_0 : w9.cell? ⟨gb278, 0, none⟩ = some (.slice none 0 0) := (blk_cell BK278.out 0).trans rfl; have hcz11_1 : w9.cell? ⟨gb278, 1, none⟩ = some (.slice none 0 0) := (blk_cell BK278.out 1).trans rfl; have hcz11_2 : w9.cell? ⟨gb278, 2, none⟩ = some (.slice none 0 0) := (blk_cell BK278.out 2).trans rfl; have hfz11_0 := blk_frozen BK278.out 0; have hfz11_1 := blk_frozen BK278.out 1; have hfz11_2 := blk_frozen BK278.out 2; obtain ⟨Ao12, co12, eo12⟩ := Kd.R_slice HO274.out; subst eo12; obtain ⟨Ao13, co13, eo13⟩ := Kd.S_slice HO277.out; subst eo13) | ((with_reducible refine gate_callee (f := 44) rfl ?_); refine goesL_ (some 22) rfl rfl Try.func44 (by kernel_rfl) rfl #[.agg #[.slice Ao10 t269.length co10, .slice Ao12 t272.length co12, .slice Ao13 t275.length co13]] rfl (by (try simp only [List.map_toArray, List.map_cons, List.map_nil]); first | done | rfl | (simp only [List.length_drop, List.length_take]; rfl)) ?_; (with_reducible refine (piece_Best.calls k _ _ t269 _ _ t272 _ _ t275 t279 t282 t283 _ ?side1 ?side2 ?side3 ?side4 ?side5 ?side6 A4.out).mono ?_); (case side1 => refine (Kd.R_reads' (e := 3) (base := w.heap.size) (ok := fun k_ => some k_ ≠ (.slice Ao12 t272.length co12 : Value).ownBlock) (n := t269.length) (c := co10) ?_).2.2; exact (by (with_reducible repeat (first | apply Kd.R_alloc | apply Kd.R_drewN | apply Kd.R_drew)); exact (Kd.R_mono (Kd.R_far (p := ⟨gb278, 2, none⟩) (Kd.R_far (p := ⟨gb278, 1, none⟩) (Kd.R_far (p := ⟨gb278, 0, none⟩) (Kd.R_types HO271.out BK278.out (by decide)) (fun _ hk => hk.2) (.slice Ao10 t269.length co10)) (fun _ hk => hk.2) (.slice Ao12 t272.length co12)) (fun _ hk => hk.2) (.slice Ao13 t275.length co13)) (fun _ h_ => h_.1)))); (case side2 => exact (Kd.R_reads' HO271.out).2.1); (case side3 => refine (Kd.R_reads' (e := 3) (base := w.heap.size) (ok := fun k_ => some k_ ≠ (.slice Ao10 t269.length co10 : Value).ownBlock) (n := t272.length) (c := co12) ?_).2.2; exact (by (with_reducible repeat (first | apply Kd.R_alloc | apply Kd.R_drewN | apply Kd.R_drew)); exact (Kd.R_mono (Kd.R_far (p := ⟨gb278, 2, none⟩) (Kd.R_far (p := ⟨gb278, 1, none⟩) (Kd.R_far (p := ⟨gb278, 0, none⟩) (Kd.R_types HO274.out BK278.out (by decide)) (fun _ hk => hk.2) (.slice Ao10 t269.length co10)) (fun _ hk => hk.2) (.slice Ao12 t272.length co12)) (fun _ hk => hk.2) (.slice Ao13 t275.length co13)) (fun _ h_ => h_.1)))); (case side4 => exact (Kd.R_reads' HO274.out).2.1); (case side5 => refine (Kd.S_reads' (e := 22) (base := w.heap.size) (ok := fun k_ => (some k_ ≠ (.slice Ao10 t269.length co10 : Value).ownBlock ∧ some k_ ≠ (.slice Ao12 t272.length co12 : Value).ownBlock)) (n := t275.length) (c := co13) ?_).2.2; exact (by (with_reducible repeat (first | apply Kd.S_alloc | apply Kd.S_drewN | apply Kd.S_drew)); exact (Kd.S_mono (Kd.S_far (p := ⟨gb278, 2, none⟩) (Kd.S_far (p := ⟨gb278, 1, none⟩) (Kd.S_far (p := ⟨gb278, 0, none⟩) (Kd.S_types HO277.out BK278.out (by decide)) (fun _ hk => hk.2) (.slice Ao10 t269.length co10)) (fun _ hk => hk.2) (.slice Ao12 t272.length co12)) (fun _ hk => hk.2) (.slice Ao13 t275.length co13)) (fun _ h_ => h_.1)))); (case side6 => exact (Kd.S_reads' HO277.out).2.1); rintro e w14 ⟨v280, rfl, ho0, hb⟩; refine ⟨_, rfl, ?_⟩; have n0_ := Aside0.mk (Kd.R_elder' (by (with_reducible repeat (first | apply Kd.R_alloc | apply Kd.R_drewN | apply Kd.R_drew)); exact (Kd.R_mono (Kd.R_far (p := ⟨gb278, 2, none⟩) (Kd.R_far (p := ⟨gb278, 1, none⟩) (Kd.R_far (p := ⟨gb278, 0, none⟩) (Kd.R_types HO271.out BK278.out (by decide)) (fun _ hk => hk.2) (.slice Ao10 t269.length co10)) (fun _ hk => hk.2) (.slice Ao12 t272.length co12)) (fun _ hk => hk.2) (.slice Ao13 t275.length co13)) (fun _ h_ => h_.1))) (Kd.R_base ho0) hb); have n1_ := Aside0.mk (Kd.R_elder' (by (with_reducible repeat (first | apply Kd.R_alloc | apply Kd.R_drewN | apply Kd.R_drew)); exact (Kd.R_mono (Kd.R_far (p := ⟨gb278, 2, none⟩) (Kd.R_far (p := ⟨gb278, 1, none⟩) (Kd.R_far (p := ⟨gb278, 0, none⟩) (Kd.R_types HO274.out BK278.out (by decide)) (fun _ hk => hk.2) (.slice Ao10 t269.length co10)) (fun _ hk => hk.2) (.slice Ao12 t272.length co12)) (fun _ hk => hk.2) (.slice Ao13 t275.length co13)) (fun _ h_ => h_.1))) (Kd.R_base ho0) hb); have n2_ := Aside0.mk (Kd.S_elder' (by (with_reducible repeat (first | apply Kd.S_alloc | apply Kd.S_drewN | apply Kd.S_drew)); exact (Kd.S_mono (Kd.S_far (p := ⟨gb278, 2, none⟩) (Kd.S_far (p := ⟨gb278, 1, none⟩) (Kd.S_far (p := ⟨gb278, 0, none⟩) (Kd.S_types HO277.out BK278.out (by decide)) (fun _ hk => hk.2) (.slice Ao10 t269.length co10)) (fun _ hk => hk.2) (.slice Ao12 t272.length co12)) (fun _ hk => hk.2) (.slice Ao13 t275.length co13)) (fun _ h_ => h_.1))) (Kd.R_base ho0) hb); have n3_ := Aside0.mk (Kd.R_lower (Kd.R_new' (Kd.R_new' ho0 (Kd.R_lt (by (with_reducible repeat (first | apply Kd.R_alloc | apply Kd.R_drewN | apply Kd.R_drew)); exact (Kd.R_mono (Kd.R_far (p := ⟨gb278, 2, none⟩) (Kd.R_far (p := ⟨gb278, 1, none⟩) (Kd.R_far (p := ⟨gb278, 0, none⟩) (Kd.R_types HO271.out BK278.out (by decide)) (fun _ hk => hk.2) (.slice Ao10 t269.length co10)) (fun _ hk => hk.2) (.slice Ao12 t272.length co12)) (fun _ hk => hk.2) (.slice Ao13 t275.length co13)) (fun _ h_ => h_.1))))) (Kd.R_lt (by (with_reducible repeat (first | apply Kd.R_alloc | apply Kd.R_drewN | apply Kd.R_drew)); exact (Kd.R_mono (Kd.R_far (p := ⟨gb278, 2, none⟩) (Kd.R_far (p := ⟨gb278, 1, none⟩) (Kd.R_far (p := ⟨gb278, 0, none⟩) (Kd.R_types HO274.out BK278.out (by decide)) (fun _ hk => hk.2) (.slice Ao10 t269.length co10)) (fun _ hk => hk.2) (.slice Ao12 t272.length co12)) (fun _ hk => hk.2) (.slice Ao13 t275.length co13)) (fun _ h_ => h_.1))))) (below_size (by repeat (first | (with_reducible first | exact HB.out | apply below_alloc | apply pw_below_drewN | apply below_drew1 | refine below_set ?_ GE278.out) | exact HB.out)))); have n4_ := Aside0.mk (blk_below (g := gb278) (o := .cells #[.slice Ao10 t269.length co10, .slice Ao12 t272.length co12, .slice Ao13 t275.length co13] 70 (0, 0)) (by (with_reducible repeat (first | refine blk_drewN ?_ _ | refine blk_drew ?_ | refine blk_alloc ?_ _)); refine blk_put (cs := #[.slice Ao10 t269.length co10, .slice Ao12 t272.length co12, .slice none 0 0]) ?_ 2 _ rfl; (with_reducible repeat (first | refine blk_drewN ?_ _ | refine blk_drew ?_ | refine blk_alloc ?_ _)); refine blk_put (cs := #[.slice Ao10 t269.length co10, .slice none 0 0, .slice none 0 0]) ?_ 1 _ rfl; (with_reducible repeat (first | refine blk_drewN ?_ _ | refine blk_drew ?_ | refine blk_alloc ?_ _)); refine blk_put (cs := #[.slice none 0 0, .slice none 0 0, .slice none 0 0]) ?_ 0 _ rfl; (with_reducible repeat (first | refine blk_drewN ?_ _ | refine blk_drew ?_ | refine blk_alloc ?_ _)); exact BK278.out) hb); have n5_ := Aside0.mk (below_step (by repeat (first | (with_reducible first | exact HB.out | apply below_alloc | apply pw_below_drewN | apply below_drew1 | refine below_set ?_ GE278.out) | exact HB.out)) hb); clear HO271; clear HO274; clear HO277; clear BK278; clear HB; have HO271 := n0_; have HO274 := n1_; have HO277 := n2_; have HO281 := n3_; have BK278 := n4_; have HB := n5_; clear n0_ n1_ n2_ n3_ n4_ n5_; (try clear hb); (try clear hb2); (try clear hk); (try clear hi); (try clear ho0); have hcz15_0 : w14.cell? ⟨gb278, 0, none⟩ = some (.slice Ao10 t269.length co10) := (blk_cell BK278.out 0).trans rfl; have hcz15_1 : w14.cell? ⟨gb278, 1, none⟩ = some (.slice Ao12 t272.length co12) := (blk_cell BK278.out 1).trans rfl; have hcz15_2 : w14.cell? ⟨gb278, 2, none⟩ = some (.slice Ao13 t275.length co13) := (blk_cell BK278.out 2).trans rfl; have hfz15_0 := blk_frozen BK278.out 0; have hfz15_1 := blk_frozen BK278.out 1; have hfz15_2 := blk_frozen BK278.out 2) | ((with_reducible refine gate_callee (f := 49) rfl ?_); refine goesL_ (some 28) rfl rfl Try.func49 (by kernel_rfl) rfl #[.agg #[.slice Ao10 t269.length co10, .slice Ao12 t272.length co12, .slice Ao13 t275.length co13]] rfl (by (try simp only [List.map_toArray, List.map_cons, List.map_nil]); first | done | rfl | (simp only [List.length_drop, List.length_take]; rfl)) ?_; (with_reducible refine (piece_Prove.calls k _ _ t269 _ _ t272 _ _ t275 t284 t287 t290 t291 _ ?side1 ?side2 ?side3 ?side4 ?side5 ?side6 A5.out).mono ?_); (case side1 => repeat (first | exact (Kd.R_reads' HO271.out).2.2 | (with_reducible refine Kd.C_alloc ?_ _) | (with_reducible refine Kd.C_drewN ?_ _) | (with_reducible refine Kd.C_drew ?_))); (case side2 => exact (Kd.R_reads' HO271.out).2.1); (case side3 => repeat (first | exact (Kd.R_reads' HO274.out).2.2 | (with_reducible refine Kd.C_alloc ?_ _) | (with_reducible refine Kd.C_drewN ?_ _) | (with_reducible refine Kd.C_drew ?_))); (case side4 => exact (Kd.R_reads' HO274.out).2.1); (case side5 => repeat (first | exact (Kd.S_reads' HO277.out).2.2 | (with_reducible refine Kd.C_alloc ?_ _) | (with_reducible refine Kd.C_drewN ?_ _) | (with_reducible refine Kd.C_drew ?_))); (case side6 => exact (Kd.S_reads' HO277.out).2.1); rintro e w16 ⟨v285, v288, rfl, ho0, ho1, hb⟩; refine ⟨_, rfl, ?_⟩; have n0_ := Aside0.mk (Kd.R_mono (Kd.R_told (Kd.R_told (Kd.R_old (by (with_reducible repeat (first | apply Kd.R_alloc | apply Kd.R_drewN | apply Kd.R_drew)); exact HO271.out) hb) (Kd.R_base ho0)) (Kd.R_base ho1)) (fun _ h_ => h_.1)); have n1_ := Aside0.mk (Kd.R_mono (Kd.R_told (Kd.R_told (Kd.R_old (by (with_reducible repeat (first | apply Kd.R_alloc | apply Kd.R_drewN | apply Kd.R_drew)); exact HO274.out) hb) (Kd.R_base ho0)) (Kd.R_base ho1)) (fun _ h_ => h_.1)); have n2_ := Aside0.mk (Kd.S_mono (Kd.S_told (Kd.S_told (Kd.S_old (by (with_reducible repeat (first | apply Kd.S_alloc | apply Kd.S_drewN | apply Kd.S_drew)); exact HO277.out) hb) (Kd.R_base ho0)) (Kd.R_base ho1)) (fun _ h_ => h_.1)); have n3_ := Aside0.mk (Kd.R_mono (Kd.R_told (Kd.R_told (Kd.R_old (by (with_reducible repeat (first | apply Kd.R_alloc | apply Kd.R_drewN | apply Kd.R_drew)); exact HO281.out) hb) (Kd.R_base ho0)) (Kd.R_base ho1)) (fun _ h_ => h_.1)); have n4_ := Aside0.mk (Kd.R_lower (Kd.R_new' (Kd.R_new' (Kd.R_new' ho0 (Kd.R_lt (by (with_reducible repeat (first | apply Kd.R_alloc | apply Kd.R_drewN | apply Kd.R_drew)); exact HO271.out))) (Kd.R_lt (by (with_reducible repeat (first | apply Kd.R_alloc | apply Kd.R_drewN | apply Kd.R_drew)); exact HO274.out))) (Kd.R_lt (by (with_reducible repeat (first | apply Kd.R_alloc | apply Kd.R_drewN | apply Kd.R_drew)); exact HO281.out))) (below_size (by repeat (first | (with_reducible first | exact HB.out | apply below_alloc | apply pw_below_drewN | apply below_drew1 | refine below_set ?_ GE278.out) | exact HB.out)))); have n5_ := Aside0.mk (Kd.R_lower (Kd.R_new' (Kd.R_new' (Kd.R_new' ho1 (Kd.R_lt (by (with_reducible repeat (first | apply Kd.R_alloc | apply Kd.R_drewN | apply Kd.R_drew)); exact HO271.out))) (Kd.R_lt (by (with_reducible repeat (first | apply Kd.R_alloc | apply Kd.R_drewN | apply Kd.R_drew)); exact HO274.out))) (Kd.R_lt (by (with_reducible repeat (first | apply Kd.R_alloc | apply Kd.R_drewN | apply Kd.R_drew)); exact HO281.out))) (below_size (by repeat (first | (with_reducible first | exact HB.out | apply below_alloc | apply pw_below_drewN | apply below_drew1 | refine below_set ?_ GE278.out) | exact HB.out)))); have n6_ := Aside0.mk (blk_below (g := gb278) (o := .cells #[.slice Ao10 t269.length co10, .slice Ao12 t272.length co12, .slice Ao13 t275.length co13] 70 (0, 0)) (by (with_reducible repeat (first | refine blk_drewN ?_ _ | refine blk_drew ?_ | refine blk_alloc ?_ _)); exact BK278.out) hb); have n7_ := Aside0.mk (below_step (by repeat (first | (with_reducible first | exact HB.out | apply below_alloc | apply pw_below_drewN | apply below_drew1 | refine below_set ?_ GE278.out) | exact HB.out)) hb); clear HO271; clear HO274; clear HO277; clear HO281; clear BK278; clear HB; have HO271 := n0_; have HO274 := n1_; have HO277 := n2_; have HO281 := n3_; have HO286 := n4_; have HO289 := n5_; have BK278 := n6_; have HB := n7_; clear n0_ n1_ n2_ n3_ n4_ n5_ n6_ n7_; (try clear hb); (try clear hb2); (try clear hk); (try clear hi); (try clear ho0); (try clear ho1)) | ((with_reducible refine gate_dst (N := 9) rfl ?_); (try (refine gate_guard (by rfl) ?_; dsimp only)); refine box_event ?hg (N := 9) ?hd (cs := #[.slice none 0 0, .slice none 0 0]) (t := 79) ?hr ?_; (case hd => rfl); (case hg => rfl); (case hr => first | (go_simp; done) | (go_simp; rfl)); intro gb292 hg w17 hbox hb; have n0_ := Aside0.mk (Kd.R_below (by (with_reducible repeat (first | apply Kd.R_alloc | apply Kd.R_drewN | apply Kd.R_drew)); exact HO271.out) hb); have n1_ := Aside0.mk (Kd.R_below (by (with_reducible repeat (first | apply Kd.R_alloc | apply Kd.R_drewN | apply Kd.R_drew)); exact HO274.out) hb); have n2_ := Aside0.mk (Kd.S_below (by (with_reducible repeat (first | apply Kd.S_alloc | apply Kd.S_drewN | apply Kd.S_drew)); exact HO277.out) hb); have n3_ := Aside0.mk (Kd.R_below (by (with_reducible repeat (first | apply Kd.R_alloc | apply Kd.R_drewN | apply Kd.R_drew)); exact HO281.out) hb); have n4_ := Aside0.mk (Kd.R_below (by (with_reducible repeat (first | apply Kd.R_alloc | apply Kd.R_drewN | apply Kd.R_drew)); exact HO286.out) hb); have n5_ := Aside0.mk (Kd.R_below (by (with_reducible repeat (first | apply Kd.R_alloc | apply Kd.R_drewN | apply Kd.R_drew)); exact HO289.out) hb); have n6_ := Aside0.mk (blk_below (g := gb278) (o := .cells #[.slice Ao10 t269.length co10, .slice Ao12 t272.length co12, .slice Ao13 t275.length co13] 70 (0, 0)) (by (with_reducible repeat (first | refine blk_drewN ?_ _ | refine blk_drew ?_ | refine blk_alloc ?_ _)); exact BK278.out) hb); have n7_ := Aside0.mk (below_step (by repeat (first | (with_reducible first | exact HB.out | apply below_alloc | apply pw_below_drewN | apply below_drew1 | refine below_set ?_ GE278.out) | exact HB.out)) hb); have n8_ := Aside0.mk (hbox); have n9_ := Aside0.mk ((by rw [hg]; exact (below_size (by repeat (first | (with_reducible first | exact HB.out | apply below_alloc | apply pw_below_drewN | apply below_drew1 | refine below_set ?_ GE278.out) | exact HB.out))) : w.heap.size ≤ gb292)); have n10_ := Aside0.mk ((by rw [hg]; exact (below_size (by repeat (first | (with_reducible first | exact HB.out | apply below_alloc | apply pw_below_drewN | apply below_drew1 | refine below_set ?_ GE278.out) | exact HB.out))) : w.heap.size ≤ gb292)); have n11_ := Aside0.mk ((by rw [hg]; exact Nat.ne_of_lt (blk_lt (g := gb278) (o := .cells #[.slice Ao10 t269.length co10, .slice Ao12 t272.length co12, .slice Ao13 t275.length co13] 70 (0, 0)) (by (with_reducible repeat (first | refine blk_drewN ?_ _ | refine blk_drew ?_ | refine blk_alloc ?_ _)); exact BK278.out)) : gb278 ≠ gb292)); have n12_ := Aside0.mk ((by rw [hg]; exact Nat.ne_of_gt (blk_lt (g := gb278) (o := .cells #[.slice Ao10 t269.length co10, .slice Ao12 t272.length co12, .slice Ao13 t275.length co13] 70 (0, 0)) (by (with_reducible repeat (first | refine blk_drewN ?_ _ | refine blk_drew ?_ | refine blk_alloc ?_ _)); exact BK278.out)) : gb292 ≠ gb278)); clear HO271; clear HO274; clear HO277; clear HO281; clear HO286; clear HO289; clear BK278; clear HB; have HO271 := n0_; have HO274 := n1_; have HO277 := n2_; have HO281 := n3_; have HO286 := n4_; have HO289 := n5_; have BK278 := n6_; have HB := n7_; have BK292 := n8_; have GW292 := n9_; have GE292 := n10_; have NB278_292 := n11_; have NB292_278 := n12_; clear n0_ n1_ n2_ n3_ n4_ n5_ n6_ n7_ n8_ n9_ n10_ n11_ n12_; clear hb hbox hg; obtain ⟨Ao18, co18, eo18⟩ := Kd.R_slice HO286.out; subst eo18; have hnb19 := NB292_278.out; have hnc19 := NB278_292.out; have hcz20_0 : w17.cell? ⟨gb292, 0, none⟩ = some (.slice none 0 0) := (blk_cell BK292.out 0).trans rfl; have hcz20_1 : w17.cell? ⟨gb292, 1, none⟩ = some (.slice none 0 0) := (blk_cell BK292.out 1).trans rfl; have hfz20_0 := blk_frozen BK292.out 0; have hfz20_1 := blk_frozen BK292.out 1; obtain ⟨Ao21, co21, eo21⟩ := Kd.R_slice HO289.out; subst eo21; have hcz22_0 : w17.cell? ⟨gb278, 0, none⟩ = some (.slice Ao10 t269.length co10) := (blk_cell BK278.out 0).trans rfl; have hcz22_1 : w17.cell? ⟨gb278, 1, none⟩ = some (.slice Ao12 t272.length co12) := (blk_cell BK278.out 1).trans rfl; have hcz22_2 : w17.cell? ⟨gb278, 2, none⟩ = some (.slice Ao13 t275.length co13) := (blk_cell BK278.out 2).trans rfl; have hfz22_0 := blk_frozen BK278.out 0; have hfz22_1 := blk_frozen BK278.out 1; have hfz22_2 := blk_frozen BK278.out 2) | ((with_reducible refine gate_callee (f := 50) rfl ?_); refine goesL_ (some 35) rfl rfl Try.func50 (by kernel_rfl) rfl #[.agg #[.slice Ao10 t269.length co10, .slice Ao12 t272.length co12, .slice Ao13 t275.length co13], .agg #[.slice Ao18 t284.length co18, .slice Ao21 t287.length co21]] rfl (by (try simp only [List.map_toArray, List.map_cons, List.map_nil]); first | done | rfl | (simp only [List.length_drop, List.length_take]; rfl)) ?_; (with_reducible refine (piece_Holds.calls k _ _ t269 _ _ t272 _ _ t275 _ _ t284 _ _ t287 t293 t294 _ ?side1 ?side2 ?side3 ?side4 ?side5 ?side6 ?side7 ?side8 ?side9 ?side10 A6.out).mono ?_); (case side1 => refine (Kd.R_reads' (e := 3) (base := w.heap.size) (ok := fun k_ => (((some k_ ≠ (.slice Ao12 t272.length co12 : Value).ownBlock ∧ some k_ ≠ (v280 : Value).ownBlock) ∧ some k_ ≠ (.slice Ao18 t284.length co18 : Value).ownBlock) ∧ some k_ ≠ (.slice Ao21 t287.length co21 : Value).ownBlock)) (n := t269.length) (c := co10) ?_).2.2; exact (by (with_reducible repeat (first | apply Kd.R_alloc | apply Kd.R_drewN | apply Kd.R_drew)); exact (Kd.R_mono (Kd.R_far (p := ⟨gb292, 1, none⟩) (Kd.R_far (p := ⟨gb292, 0, none⟩) (Kd.R_types HO271.out BK292.out (by decide)) (fun _ hk => hk.2) (.slice Ao18 t284.length co18)) (fun _ hk => hk.2) (.slice Ao21 t287.length co21)) (fun _ h_ => h_.1)))); (case side2 => exact (Kd.R_reads' HO271.out).2.1); (case side3 => refine (Kd.R_reads' (e := 3) (base := w.heap.size) (ok := fun k_ => (((some k_ ≠ (.slice Ao10 t269.length co10 : Value).ownBlock ∧ some k_ ≠ (v280 : Value).ownBlock) ∧ some k_ ≠ (.slice Ao18 t284.length co18 : Value).ownBlock) ∧ some k_ ≠ (.slice Ao21 t287.length co21 : Value).ownBlock)) (n := t272.length) (c := co12) ?_).2.2; exact (by (with_reducible repeat (first | apply Kd.R_alloc | apply Kd.R_drewN | apply Kd.R_drew)); exact (Kd.R_mono (Kd.R_far (p := ⟨gb292, 1, none⟩) (Kd.R_far (p := ⟨gb292, 0, none⟩) (Kd.R_types HO274.out BK292.out (by decide)) (fun _ hk => hk.2) (.slice Ao18 t284.length co18)) (fun _ hk => hk.2) (.slice Ao21 t287.length co21)) (fun _ h_ => h_.1)))); (case side4 => exact (Kd.R_reads' HO274.out).2.1); (case side5 => refine (Kd.S_reads' (e := 22) (base := w.heap.size) (ok := fun k_ => ((((some k_ ≠ (.slice Ao10 t269.length co10 : Value).ownBlock ∧ some k_ ≠ (.slice Ao12 t272.length co12 : Value).ownBlock) ∧ some k_ ≠ (v280 : Value).ownBlock) ∧ some k_ ≠ (.slice Ao18 t284.length co18 : Value).ownBlock) ∧ some k_ ≠ (.slice Ao21 t287.length co21 : Value).ownBlock)) (n := t275.length) (c := co13) ?_).2.2; exact (by (with_reducible repeat (first | apply Kd.S_alloc | apply Kd.S_drewN | apply Kd.S_drew)); exact (Kd.S_mono (Kd.S_far (p := ⟨gb292, 1, none⟩) (Kd.S_far (p := ⟨gb292, 0, none⟩) (Kd.S_types HO277.out BK292.out (by decide)) (fun _ hk => hk.2) (.slice Ao18 t284.length co18)) (fun _ hk => hk.2) (.slice Ao21 t287.length co21)) (fun _ h_ => h_.1)))); (case side6 => exact (Kd.S_reads' HO277.out).2.1); (case side7 => refine (Kd.R_reads' (e := 3) (base := w.heap.size) (ok := fun k_ => (((some k_ ≠ (.slice Ao21 t287.length co21 : Value).ownBlock ∧ some k_ ≠ (.slice Ao10 t269.length co10 : Value).ownBlock) ∧ some k_ ≠ (.slice Ao12 t272.length co12 : Value).ownBlock) ∧ some k_ ≠ (v280 : Value).ownBlock)) (n := t284.length) (c := co18) ?_).2.2; exact (by (with_reducible repeat (first | apply Kd.R_alloc | apply Kd.R_drewN | apply Kd.R_drew)); exact (Kd.R_mono (Kd.R_far (p := ⟨gb292, 1, none⟩) (Kd.R_far (p := ⟨gb292, 0, none⟩) (Kd.R_types HO286.out BK292.out (by decide)) (fun _ hk => hk.2) (.slice Ao18 t284.length co18)) (fun _ hk => hk.2) (.slice Ao21 t287.length co21)) (fun _ h_ => h_.1)))); (case side8 => exact (Kd.R_reads' HO286.out).2.1); (case side9 => refine (Kd.R_reads' (e := 3) (base := w.heap.size) (ok := fun k_ => (((some k_ ≠ (.slice Ao18 t284.length co18 : Value).ownBlock ∧ some k_ ≠ (.slice Ao10 t269.length co10 : Value).ownBlock) ∧ some k_ ≠ (.slice Ao12 t272.length co12 : Value).ownBlock) ∧ some k_ ≠ (v280 : Value).ownBlock)) (n := t287.length) (c := co21) ?_).2.2; exact (by (with_reducible repeat (first | apply Kd.R_alloc | apply Kd.R_drewN | apply Kd.R_drew)); exact (Kd.R_mono (Kd.R_far (p := ⟨gb292, 1, none⟩) (Kd.R_far (p := ⟨gb292, 0, none⟩) (Kd.R_types HO289.out BK292.out (by decide)) (fun _ hk => hk.2) (.slice Ao18 t284.length co18)) (fun _ hk => hk.2) (.slice Ao21 t287.length co21)) (fun _ h_ => h_.1)))); (case side10 => exact (Kd.R_reads' HO289.out).2.1); rintro e w23 ⟨rfl, hb⟩; refine ⟨_, rfl, ?_⟩; have n0_ := Aside0.mk (Kd.R_below (by (with_reducible repeat (first | apply Kd.R_alloc | apply Kd.R_drewN | apply Kd.R_drew)); exact (Kd.R_mono (Kd.R_far (p := ⟨gb292, 1, none⟩) (Kd.R_far (p := ⟨gb292, 0, none⟩) (Kd.R_types HO271.out BK292.out (by decide)) (fun _ hk => hk.2) (.slice Ao18 t284.length co18)) (fun _ hk => hk.2) (.slice Ao21 t287.length co21)) (fun _ h_ => h_.1))) hb); have n1_ := Aside0.mk (Kd.R_below (by (with_reducible repeat (first | apply Kd.R_alloc | apply Kd.R_drewN | apply Kd.R_drew)); exact (Kd.R_mono (Kd.R_far (p := ⟨gb292, 1, none⟩) (Kd.R_far (p := ⟨gb292, 0, none⟩) (Kd.R_types HO274.out BK292.out (by decide)) (fun _ hk => hk.2) (.slice Ao18 t284.length co18)) (fun _ hk => hk.2) (.slice Ao21 t287.length co21)) (fun _ h_ => h_.1))) hb); have n2_ := Aside0.mk (Kd.S_below (by (with_reducible repeat (first | apply Kd.S_alloc | apply Kd.S_drewN | apply Kd.S_drew)); exact (Kd.S_mono (Kd.S_far (p := ⟨gb292, 1, none⟩) (Kd.S_far (p := ⟨gb292, 0, none⟩) (Kd.S_types HO277.out BK292.out (by decide)) (fun _ hk => hk.2) (.slice Ao18 t284.length co18)) (fun _ hk => hk.2) (.slice Ao21 t287.length co21)) (fun _ h_ => h_.1))) hb); have n3_ := Aside0.mk (Kd.R_below (by (with_reducible repeat (first | apply Kd.R_alloc | apply Kd.R_drewN | apply Kd.R_drew)); exact (Kd.R_mono (Kd.R_far (p := ⟨gb292, 1, none⟩) (Kd.R_far (p := ⟨gb292, 0, none⟩) (Kd.R_types HO281.out BK292.out (by decide)) (fun _ hk => hk.2) (.slice Ao18 t284.length co18)) (fun _ hk => hk.2) (.slice Ao21 t287.length co21)) (fun _ h_ => h_.1))) hb); have n4_ := Aside0.mk (Kd.R_below (by (with_reducible repeat (first | apply Kd.R_alloc | apply Kd.R_drewN | apply Kd.R_drew)); exact (Kd.R_mono (Kd.R_far (p := ⟨gb292, 1, none⟩) (Kd.R_far (p := ⟨gb292, 0, none⟩) (Kd.R_types HO286.out BK292.out (by decide)) (fun _ hk => hk.2) (.slice Ao18 t284.length co18)) (fun _ hk => hk.2) (.slice Ao21 t287.length co21)) (fun _ h_ => h_.1))) hb); have n5_ := Aside0.mk (Kd.R_below (by (with_reducible repeat (first | apply Kd.R_alloc | apply Kd.R_drewN | apply Kd.R_drew)); exact (Kd.R_mono (Kd.R_far (p := ⟨gb292, 1, none⟩) (Kd.R_far (p := ⟨gb292, 0, none⟩) (Kd.R_types HO289.out BK292.out (by decide)) (fun _ hk => hk.2) (.slice Ao18 t284.length co18)) (fun _ hk => hk.2) (.slice Ao21 t287.length co21)) (fun _ h_ => h_.1))) hb); have n6_ := Aside0.mk (blk_below (g := gb278) (o := .cells #[.slice Ao10 t269.length co10, .slice Ao12 t272.length co12, .slice Ao13 t275.length co13] 70 (0, 0)) (by (with_reducible repeat (first | refine blk_drewN ?_ _ | refine blk_drew ?_ | refine blk_alloc ?_ _)); refine blk_far ?_ NB278_292.out _; (with_reducible repeat (first | refine blk_drewN ?_ _ | refine blk_drew ?_ | refine blk_alloc ?_ _)); refine blk_far ?_ NB278_292.out _; (with_reducible repeat (first | refine blk_drewN ?_ _ | refine blk_drew ?_ | refine blk_alloc ?_ _)); exact BK278.out) hb); have n7_ := Aside0.mk (blk_below (g := gb292) (o := .cells #[.slice Ao18 t284.length co18, .slice Ao21 t287.length co21] 79 (0, 0)) (by (with_reducible repeat (first | refine blk_drewN ?_ _ | refine blk_drew ?_ | refine blk_alloc ?_ _)); refine blk_put (cs := #[.slice Ao18 t284.length co18, .slice none 0 0]) ?_ 1 _ rfl; (with_reducible repeat (first | refine blk_drewN ?_ _ | refine blk_drew ?_ | refine blk_alloc ?_ _)); refine blk_put (cs := #[.slice none 0 0, .slice none 0 0]) ?_ 0 _ rfl; (with_reducible repeat (first | refine blk_drewN ?_ _ | refine blk_drew ?_ | refine blk_alloc ?_ _)); exact BK292.out) hb); have n8_ := Aside0.mk (below_step (by repeat (first | (with_reducible first | exact HB.out | apply below_alloc | apply pw_below_drewN | apply below_drew1 | refine below_set ?_ GE278.out | refine below_set ?_ GE292.out) | exact HB.out)) hb); clear HO271; clear HO274; clear HO277; clear HO281; clear HO286; clear HO289; clear BK278; clear BK292; clear HB; have HO271 := n0_; have HO274 := n1_; have HO277 := n2_; have HO281 := n3_; have HO286 := n4_; have HO289 := n5_; have BK278 := n6_; have BK292 := n7_; have HB := n8_; clear n0_ n1_ n2_ n3_ n4_ n5_ n6_ n7_ n8_; (try clear hb); (try clear hb2); (try clear hk); (try clear hi)))
 (try simp only [Act.put, List.setIfInBounds_toArray, List.set_cons_zero, List.set_cons_succ])
 go_cut [67] (fun v67 wc => ∃ (kq : Nat) (x67_6 : Bool), v67 = .bool x67_6 ∧ Aside0 (wrackkeep3_PieceAbove.j0 kq l1 t282 x67_6 t269 t272 t275 t284 t287 = some r) ∧ Aside0 (kq ≤ k) ∧ Aside0 (Kd.R (Kd.int .i64) 3 wc w.heap.size (fun k_ => some k_ ≠ ((.slice Ao12 t272.length co12) : Value).ownBlock ∧ some k_ ≠ ((.slice Ao18 t284.length co18) : Value).ownBlock ∧ some k_ ≠ ((.slice Ao21 t287.length co21) : Value).ownBlock) (.slice Ao10 t269.length co10) t269) ∧ Aside0 (Kd.R (Kd.int .i64) 3 wc w.heap.size (fun k_ => some k_ ≠ ((.slice Ao10 t269.length co10) : Value).ownBlock ∧ some k_ ≠ ((.slice Ao18 t284.length co18) : Value).ownBlock ∧ some k_ ≠ ((.slice Ao21 t287.length co21) : Value).ownBlock) (.slice Ao12 t272.length co12) t272) ∧ Aside0 (Kd.S (Kd.slice 3 (Kd.int .i64)) 22 wc w.heap.size (fun k_ => some k_ ≠ ((.slice Ao10 t269.length co10) : Value).ownBlock ∧ some k_ ≠ ((.slice Ao12 t272.length co12) : Value).ownBlock ∧ some k_ ≠ ((.slice Ao18 t284.length co18) : Value).ownBlock ∧ some k_ ≠ ((.slice Ao21 t287.length co21) : Value).ownBlock) (.slice Ao13 t275.length co13) t275) ∧ Aside0 (Kd.R (Kd.int .i64) 3 wc w.heap.size (fun k_ => some k_ ≠ ((.slice Ao10 t269.length co10) : Value).ownBlock ∧ some k_ ≠ ((.slice Ao12 t272.length co12) : Value).ownBlock ∧ some k_ ≠ ((.slice Ao21 t287.length co21) : Value).ownBlock) (.slice Ao18 t284.length co18) t284) ∧ Aside0 (Kd.R (Kd.int .i64) 3 wc w.heap.size (fun k_ => some k_ ≠ ((.slice Ao10 t269.length co10) : Value).ownBlock ∧ some k_ ≠ ((.slice Ao12 t272.length co12) : Value).ownBlock ∧ some k_ ≠ ((.slice Ao18 t284.length co18) : Value).ownBlock) (.slice Ao21 t287.length co21) t287) ∧ Aside0 (wc.heap[gb278]? = some (.cells #[(.slice Ao10 t269.length co10), (.slice Ao12 t272.length co12), (.slice Ao13 t275.length co13)] 70 (0, 0))) ∧ Aside0 (wc.heap[gb292]? = some (.cells #[(.slice Ao18 t284.length co18), (.slice Ao21 t287.length co21)] 79 (0, 0))) ∧ Aside0 (Below w.heap.size w wc))
 case first =>
  have H := HC7.out
  clear HC7
  replace H := Option.bind_eq_some_iff.mp H
  obtain ⟨t295, A240, H⟩ := H
  replace H : (if t295 = true then (if t283 = 0 then (if t291 = 0 then (if t294 = 0 then (if t293 = t290 then (if (t269.length : Int) > 0 then (wrackkeep3_PieceAbove.j0 k l1 t282 (decide (t282 > t290)) t269 t272 t275 t284 t287) else (wrackkeep3_PieceAbove.j0 k l1 t282 false t269 t272 t275 t284 t287)) else (wrackkeep3_PieceAbove.j0 k l1 t282 true t269 t272 t275 t284 t287)) else (wrackkeep3_PieceAbove.j0 k l1 t282 true t269 t272 t275 t284 t287)) else (wrackkeep3_PieceAbove.j0 k l1 t282 true t269 t272 t275 t284 t287)) else (wrackkeep3_PieceAbove.j0 k l1 t282 true t269 t272 t275 t284 t287)) else (wrackkeep3_PieceAbove.j0 k l1 t282 true t269 t272 t275 t284 t287)) = some r := H
  have A24 := Aside0.mk A240
  clear A240
  by_cases c25 : t295 = true
  ·subst c25
   have H1 : (if t283 = 0 then (if t291 = 0 then (if t294 = 0 then (if t293 = t290 then (if (t269.length : Int) > 0 then (wrackkeep3_PieceAbove.j0 k l1 t282 (decide (t282 > t290)) t269 t272 t275 t284 t287) else (wrackkeep3_PieceAbove.j0 k l1 t282 false t269 t272 t275 t284 t287)) else (wrackkeep3_PieceAbove.j0 k l1 t282 true t269 t272 t275 t284 t287)) else (wrackkeep3_PieceAbove.j0 k l1 t282 true t269 t272 t275 t284 t287)) else (wrackkeep3_PieceAbove.j0 k l1 t282 true t269 t272 t275 t284 t287)) else (wrackkeep3_PieceAbove.j0 k l1 t282 true t269 t272 t275 t284 t287)) = some r := by rw [if_pos rfl] at H; exact H
   clear H
   have H := H1
   clear H1
   by_cases c26 : t283 = 0
   ·rw [if_pos c26] at H
    have c26b0 : (t283 == 0) = true := beq_iff_eq.mpr c26
    have c26b1 : (t283 != 0) = false := bne_eq_false_iff_eq.mpr c26
    clear c26
    (first | rw [c26b0] | (simp only [i64_w, i32_w]; rw [c26b0]) | skip)
    by_cases c27 : t291 = 0
    ·rw [if_pos c27] at H
     have c27b0 : (t291 == 0) = true := beq_iff_eq.mpr c27
     have c27b1 : (t291 != 0) = false := bne_eq_false_iff_eq.mpr c27
     clear c27
     by_cases c28 : t294 = 0
     ·rw [if_pos c28] at H
      have c28b0 : (t294 == 0) = true := beq_iff_eq.mpr c28
      have c28b1 : (t294 != 0) = false := bne_eq_false_iff_eq.mpr c28
      clear c28
      by_cases c29 : t293 = t290
      ·rw [if_pos c29] at H
       have c29b0 : (t293 == t290) = true := beq_iff_eq.mpr c29
       have c29b1 : (t293 != t290) = false := bne_eq_false_iff_eq.mpr c29
       clear c29
       by_cases c30 : (t269.length : Int) > 0
       ·rw [if_pos c30] at H
        have c30b0 : decide (0 < (t269.length : Int)) = true := decide_eq_true c30
        have c30b1 : decide (0 < t269.length) = true := decide_eq_true (by omega)
        clear c30
        have H' := Aside0.mk H
        clear H
        go_wp2_with (first | ((with_reducible refine gate_callee (f := 46) rfl ?_); refine goesL_ (some 38) rfl rfl Try.func46 (by kernel_rfl) rfl #[] rfl (by (try simp only [List.map_toArray, List.map_cons, List.map_nil]); first | done | rfl | (simp only [List.length_drop, List.length_take]; rfl)) ?_; (with_reducible refine (wrackkeep3_ordered.calls k  true _ A24.out).mono ?_); rintro e w31 ⟨rfl, hb⟩; refine ⟨_, rfl, ?_⟩; have n0_ := Aside0.mk (Kd.R_below (by (with_reducible repeat (first | apply Kd.R_alloc | apply Kd.R_drewN | apply Kd.R_drew)); exact HO271.out) hb); have n1_ := Aside0.mk (Kd.R_below (by (with_reducible repeat (first | apply Kd.R_alloc | apply Kd.R_drewN | apply Kd.R_drew)); exact HO274.out) hb); have n2_ := Aside0.mk (Kd.S_below (by (with_reducible repeat (first | apply Kd.S_alloc | apply Kd.S_drewN | apply Kd.S_drew)); exact HO277.out) hb); have n3_ := Aside0.mk (Kd.R_below (by (with_reducible repeat (first | apply Kd.R_alloc | apply Kd.R_drewN | apply Kd.R_drew)); exact HO281.out) hb); have n4_ := Aside0.mk (Kd.R_below (by (with_reducible repeat (first | apply Kd.R_alloc | apply Kd.R_drewN | apply Kd.R_drew)); exact HO286.out) hb); have n5_ := Aside0.mk (Kd.R_below (by (with_reducible repeat (first | apply Kd.R_alloc | apply Kd.R_drewN | apply Kd.R_drew)); exact HO289.out) hb); have n6_ := Aside0.mk (blk_below (g := gb278) (o := .cells #[.slice Ao10 t269.length co10, .slice Ao12 t272.length co12, .slice Ao13 t275.length co13] 70 (0, 0)) (by (with_reducible repeat (first | refine blk_drewN ?_ _ | refine blk_drew ?_ | refine blk_alloc ?_ _)); exact BK278.out) hb); have n7_ := Aside0.mk (blk_below (g := gb292) (o := .cells #[.slice Ao18 t284.length co18, .slice Ao21 t287.length co21] 79 (0, 0)) (by (with_reducible repeat (first | refine blk_drewN ?_ _ | refine blk_drew ?_ | refine blk_alloc ?_ _)); exact BK292.out) hb); have n8_ := Aside0.mk (below_step (by repeat (first | (with_reducible first | exact HB.out | apply below_alloc | apply pw_below_drewN | apply below_drew1 | refine below_set ?_ GE278.out | refine below_set ?_ GE292.out) | exact HB.out)) hb); clear HO271; clear HO274; clear HO277; clear HO281; clear HO286; clear HO289; clear BK278; clear BK292; clear HB; have HO271 := n0_; have HO274 := n1_; have HO277 := n2_; have HO281 := n3_; have HO286 := n4_; have HO289 := n5_; have BK278 := n6_; have BK292 := n7_; have HB := n8_; clear n0_ n1_ n2_ n3_ n4_ n5_ n6_ n7_ n8_; (try clear hb); (try clear hb2); (try clear hk); (try clear hi); have hnb32 := NB278_292.out; have hnc32 := NB292_278.out; have hcz33_0 : w31.cell? ⟨gb278, 0, none⟩ = some (.slice Ao10 t269.length co10) := (blk_cell BK278.out 0).trans rfl; have hcz33_1 : w31.cell? ⟨gb278, 1, none⟩ = some (.slice Ao12 t272.length co12) := (blk_cell BK278.out 1).trans rfl; have hcz33_2 : w31.cell? ⟨gb278, 2, none⟩ = some (.slice Ao13 t275.length co13) := (blk_cell BK278.out 2).trans rfl; have hfz33_0 := blk_frozen BK278.out 0; have hfz33_1 := blk_frozen BK278.out 1; have hfz33_2 := blk_frozen BK278.out 2))
        go_meet
        case rel => exact ⟨_, (decide (t282 > t290)), (by first | rfl | (simp; done) | (simp [*]; done)), H', ⟨by first | omega | exact Nat.le_refl _⟩, ⟨by (with_reducible repeat (first | apply Kd.R_alloc | apply Kd.R_drewN | apply Kd.R_drew)); exact Kd.R_mono HO271.out (fun _ hk => ⟨hk.1.1.1, ⟨hk.1.2, hk.2⟩⟩)⟩, ⟨by (with_reducible repeat (first | apply Kd.R_alloc | apply Kd.R_drewN | apply Kd.R_drew)); exact Kd.R_mono HO274.out (fun _ hk => ⟨hk.1.1.1, ⟨hk.1.2, hk.2⟩⟩)⟩, ⟨by (with_reducible repeat (first | apply Kd.S_alloc | apply Kd.S_drewN | apply Kd.S_drew)); exact Kd.S_mono HO277.out (fun _ hk => ⟨hk.1.1.1.1, ⟨hk.1.1.1.2, ⟨hk.1.2, hk.2⟩⟩⟩)⟩, ⟨by (with_reducible repeat (first | apply Kd.R_alloc | apply Kd.R_drewN | apply Kd.R_drew)); exact Kd.R_mono HO286.out (fun _ hk => ⟨hk.1.1.2, ⟨hk.1.2, hk.1.1.1⟩⟩)⟩, ⟨by (with_reducible repeat (first | apply Kd.R_alloc | apply Kd.R_drewN | apply Kd.R_drew)); exact Kd.R_mono HO289.out (fun _ hk => ⟨hk.1.1.2, ⟨hk.1.2, hk.1.1.1⟩⟩)⟩, ⟨by (with_reducible repeat (first | refine blk_drewN ?_ _ | refine blk_drew ?_ | refine blk_alloc ?_ _)); exact BK278.out⟩, ⟨by (with_reducible repeat (first | refine blk_drewN ?_ _ | refine blk_drew ?_ | refine blk_alloc ?_ _)); exact BK292.out⟩, ⟨by repeat (first | (with_reducible first | exact HB.out | apply below_alloc | apply pw_below_drewN | apply below_drew1 | refine below_set ?_ GE278.out | refine below_set ?_ GE292.out) | exact HB.out)⟩⟩
       ·rw [if_neg c30] at H
        have c30b0 : decide (0 < (t269.length : Int)) = false := decide_eq_false c30
        have c30b1 : decide (0 < t269.length) = false := decide_eq_false (by omega)
        clear c30
        have H' := Aside0.mk H
        clear H
        go_wp2_with (first | ((with_reducible refine gate_callee (f := 46) rfl ?_); refine goesL_ (some 38) rfl rfl Try.func46 (by kernel_rfl) rfl #[] rfl (by (try simp only [List.map_toArray, List.map_cons, List.map_nil]); first | done | rfl | (simp only [List.length_drop, List.length_take]; rfl)) ?_; (with_reducible refine (wrackkeep3_ordered.calls k  true _ A24.out).mono ?_); rintro e w34 ⟨rfl, hb⟩; refine ⟨_, rfl, ?_⟩; have n0_ := Aside0.mk (Kd.R_below (by (with_reducible repeat (first | apply Kd.R_alloc | apply Kd.R_drewN | apply Kd.R_drew)); exact HO271.out) hb); have n1_ := Aside0.mk (Kd.R_below (by (with_reducible repeat (first | apply Kd.R_alloc | apply Kd.R_drewN | apply Kd.R_drew)); exact HO274.out) hb); have n2_ := Aside0.mk (Kd.S_below (by (with_reducible repeat (first | apply Kd.S_alloc | apply Kd.S_drewN | apply Kd.S_drew)); exact HO277.out) hb); have n3_ := Aside0.mk (Kd.R_below (by (with_reducible repeat (first | apply Kd.R_alloc | apply Kd.R_drewN | apply Kd.R_drew)); exact HO281.out) hb); have n4_ := Aside0.mk (Kd.R_below (by (with_reducible repeat (first | apply Kd.R_alloc | apply Kd.R_drewN | apply Kd.R_drew)); exact HO286.out) hb); have n5_ := Aside0.mk (Kd.R_below (by (with_reducible repeat (first | apply Kd.R_alloc | apply Kd.R_drewN | apply Kd.R_drew)); exact HO289.out) hb); have n6_ := Aside0.mk (blk_below (g := gb278) (o := .cells #[.slice Ao10 t269.length co10, .slice Ao12 t272.length co12, .slice Ao13 t275.length co13] 70 (0, 0)) (by (with_reducible repeat (first | refine blk_drewN ?_ _ | refine blk_drew ?_ | refine blk_alloc ?_ _)); exact BK278.out) hb); have n7_ := Aside0.mk (blk_below (g := gb292) (o := .cells #[.slice Ao18 t284.length co18, .slice Ao21 t287.length co21] 79 (0, 0)) (by (with_reducible repeat (first | refine blk_drewN ?_ _ | refine blk_drew ?_ | refine blk_alloc ?_ _)); exact BK292.out) hb); have n8_ := Aside0.mk (below_step (by repeat (first | (with_reducible first | exact HB.out | apply below_alloc | apply pw_below_drewN | apply below_drew1 | refine below_set ?_ GE278.out | refine below_set ?_ GE292.out) | exact HB.out)) hb); clear HO271; clear HO274; clear HO277; clear HO281; clear HO286; clear HO289; clear BK278; clear BK292; clear HB; have HO271 := n0_; have HO274 := n1_; have HO277 := n2_; have HO281 := n3_; have HO286 := n4_; have HO289 := n5_; have BK278 := n6_; have BK292 := n7_; have HB := n8_; clear n0_ n1_ n2_ n3_ n4_ n5_ n6_ n7_ n8_; (try clear hb); (try clear hb2); (try clear hk); (try clear hi); have hnb35 := NB278_292.out; have hnc35 := NB292_278.out; have hcz36_0 : w34.cell? ⟨gb278, 0, none⟩ = some (.slice Ao10 t269.length co10) := (blk_cell BK278.out 0).trans rfl; have hcz36_1 : w34.cell? ⟨gb278, 1, none⟩ = some (.slice Ao12 t272.length co12) := (blk_cell BK278.out 1).trans rfl; have hcz36_2 : w34.cell? ⟨gb278, 2, none⟩ = some (.slice Ao13 t275.length co13) := (blk_cell BK278.out 2).trans rfl; have hfz36_0 := blk_frozen BK278.out 0; have hfz36_1 := blk_frozen BK278.out 1; have hfz36_2 := blk_frozen BK278.out 2))
        go_meet
        case rel => exact ⟨_, (false), (by first | rfl | (simp; done) | (simp [*]; done)), H', ⟨by first | omega | exact Nat.le_refl _⟩, ⟨by (with_reducible repeat (first | apply Kd.R_alloc | apply Kd.R_drewN | apply Kd.R_drew)); exact Kd.R_mono HO271.out (fun _ hk => ⟨hk.1.1.1, ⟨hk.1.2, hk.2⟩⟩)⟩, ⟨by (with_reducible repeat (first | apply Kd.R_alloc | apply Kd.R_drewN | apply Kd.R_drew)); exact Kd.R_mono HO274.out (fun _ hk => ⟨hk.1.1.1, ⟨hk.1.2, hk.2⟩⟩)⟩, ⟨by (with_reducible repeat (first | apply Kd.S_alloc | apply Kd.S_drewN | apply Kd.S_drew)); exact Kd.S_mono HO277.out (fun _ hk => ⟨hk.1.1.1.1, ⟨hk.1.1.1.2, ⟨hk.1.2, hk.2⟩⟩⟩)⟩, ⟨by (with_reducible repeat (first | apply Kd.R_alloc | apply Kd.R_drewN | apply Kd.R_drew)); exact Kd.R_mono HO286.out (fun _ hk => ⟨hk.1.1.2, ⟨hk.1.2, hk.1.1.1⟩⟩)⟩, ⟨by (with_reducible repeat (first | apply Kd.R_alloc | apply Kd.R_drewN | apply Kd.R_drew)); exact Kd.R_mono HO289.out (fun _ hk => ⟨hk.1.1.2, ⟨hk.1.2, hk.1.1.1⟩⟩)⟩, ⟨by (with_reducible repeat (first | refine blk_drewN ?_ _ | refine blk_drew ?_ | refine blk_alloc ?_ _)); exact BK278.out⟩, ⟨by (with_reducible repeat (first | refine blk_drewN ?_ _ | refine blk_drew ?_ | refine blk_alloc ?_ _)); exact BK292.out⟩, ⟨by repeat (first | (with_reducible first | exact HB.out | apply below_alloc | apply pw_below_drewN | apply below_drew1 | refine below_set ?_ GE278.out | refine below_set ?_ GE292.out) | exact HB.out)⟩⟩
      ·rw [if_neg c29] at H
       have c29b0 : (t293 == t290) = false := beq_eq_false_iff_ne.mpr c29
       have c29b1 : (t293 != t290) = true := bne_iff_ne.mpr c29
       have H' := Aside0.mk H
       clear H
       go_wp2_with (first | ((with_reducible refine gate_callee (f := 46) rfl ?_); refine goesL_ (some 38) rfl rfl Try.func46 (by kernel_rfl) rfl #[] rfl (by (try simp only [List.map_toArray, List.map_cons, List.map_nil]); first | done | rfl | (simp only [List.length_drop, List.length_take]; rfl)) ?_; (with_reducible refine (wrackkeep3_ordered.calls k  true _ A24.out).mono ?_); rintro e w37 ⟨rfl, hb⟩; refine ⟨_, rfl, ?_⟩; have n0_ := Aside0.mk (Kd.R_below (by (with_reducible repeat (first | apply Kd.R_alloc | apply Kd.R_drewN | apply Kd.R_drew)); exact HO271.out) hb); have n1_ := Aside0.mk (Kd.R_below (by (with_reducible repeat (first | apply Kd.R_alloc | apply Kd.R_drewN | apply Kd.R_drew)); exact HO274.out) hb); have n2_ := Aside0.mk (Kd.S_below (by (with_reducible repeat (first | apply Kd.S_alloc | apply Kd.S_drewN | apply Kd.S_drew)); exact HO277.out) hb); have n3_ := Aside0.mk (Kd.R_below (by (with_reducible repeat (first | apply Kd.R_alloc | apply Kd.R_drewN | apply Kd.R_drew)); exact HO281.out) hb); have n4_ := Aside0.mk (Kd.R_below (by (with_reducible repeat (first | apply Kd.R_alloc | apply Kd.R_drewN | apply Kd.R_drew)); exact HO286.out) hb); have n5_ := Aside0.mk (Kd.R_below (by (with_reducible repeat (first | apply Kd.R_alloc | apply Kd.R_drewN | apply Kd.R_drew)); exact HO289.out) hb); have n6_ := Aside0.mk (blk_below (g := gb278) (o := .cells #[.slice Ao10 t269.length co10, .slice Ao12 t272.length co12, .slice Ao13 t275.length co13] 70 (0, 0)) (by (with_reducible repeat (first | refine blk_drewN ?_ _ | refine blk_drew ?_ | refine blk_alloc ?_ _)); exact BK278.out) hb); have n7_ := Aside0.mk (blk_below (g := gb292) (o := .cells #[.slice Ao18 t284.length co18, .slice Ao21 t287.length co21] 79 (0, 0)) (by (with_reducible repeat (first | refine blk_drewN ?_ _ | refine blk_drew ?_ | refine blk_alloc ?_ _)); exact BK292.out) hb); have n8_ := Aside0.mk (below_step (by repeat (first | (with_reducible first | exact HB.out | apply below_alloc | apply pw_below_drewN | apply below_drew1 | refine below_set ?_ GE278.out | refine below_set ?_ GE292.out) | exact HB.out)) hb); clear HO271; clear HO274; clear HO277; clear HO281; clear HO286; clear HO289; clear BK278; clear BK292; clear HB; have HO271 := n0_; have HO274 := n1_; have HO277 := n2_; have HO281 := n3_; have HO286 := n4_; have HO289 := n5_; have BK278 := n6_; have BK292 := n7_; have HB := n8_; clear n0_ n1_ n2_ n3_ n4_ n5_ n6_ n7_ n8_; (try clear hb); (try clear hb2); (try clear hk); (try clear hi)))
       go_meet
       case rel => exact ⟨_, (true), (by first | rfl | (simp; done) | (simp [*]; done)), H', ⟨by first | omega | exact Nat.le_refl _⟩, ⟨by (with_reducible repeat (first | apply Kd.R_alloc | apply Kd.R_drewN | apply Kd.R_drew)); exact Kd.R_mono HO271.out (fun _ hk => ⟨hk.1.1.1, ⟨hk.1.2, hk.2⟩⟩)⟩, ⟨by (with_reducible repeat (first | apply Kd.R_alloc | apply Kd.R_drewN | apply Kd.R_drew)); exact Kd.R_mono HO274.out (fun _ hk => ⟨hk.1.1.1, ⟨hk.1.2, hk.2⟩⟩)⟩, ⟨by (with_reducible repeat (first | apply Kd.S_alloc | apply Kd.S_drewN | apply Kd.S_drew)); exact Kd.S_mono HO277.out (fun _ hk => ⟨hk.1.1.1.1, ⟨hk.1.1.1.2, ⟨hk.1.2, hk.2⟩⟩⟩)⟩, ⟨by (with_reducible repeat (first | apply Kd.R_alloc | apply Kd.R_drewN | apply Kd.R_drew)); exact Kd.R_mono HO286.out (fun _ hk => ⟨hk.1.1.2, ⟨hk.1.2, hk.1.1.1⟩⟩)⟩, ⟨by (with_reducible repeat (first | apply Kd.R_alloc | apply Kd.R_drewN | apply Kd.R_drew)); exact Kd.R_mono HO289.out (fun _ hk => ⟨hk.1.1.2, ⟨hk.1.2, hk.1.1.1⟩⟩)⟩, ⟨by (with_reducible repeat (first | refine blk_drewN ?_ _ | refine blk_drew ?_ | refine blk_alloc ?_ _)); exact BK278.out⟩, ⟨by (with_reducible repeat (first | refine blk_drewN ?_ _ | refine blk_drew ?_ | refine blk_alloc ?_ _)); exact BK292.out⟩, ⟨by repeat (first | (with_reducible first | exact HB.out | apply below_alloc | apply pw_below_drewN | apply below_drew1 | refine below_set ?_ GE278.out | refine below_set ?_ GE292.out) | exact HB.out)⟩⟩
     ·rw [if_neg c28] at H
      have c28b0 : (t294 == 0) = false := beq_eq_false_iff_ne.mpr c28
      have c28b1 : (t294 != 0) = true := bne_iff_ne.mpr c28
      have H' := Aside0.mk H
      clear H
      go_wp2_with (first | ((with_reducible refine gate_callee (f := 46) rfl ?_); refine goesL_ (some 38) rfl rfl Try.func46 (by kernel_rfl) rfl #[] rfl (by (try simp only [List.map_toArray, List.map_cons, List.map_nil]); first | done | rfl | (simp only [List.length_drop, List.length_take]; rfl)) ?_; (with_reducible refine (wrackkeep3_ordered.calls k  true _ A24.out).mono ?_); rintro e w38 ⟨rfl, hb⟩; refine ⟨_, rfl, ?_⟩; have n0_ := Aside0.mk (Kd.R_below (by (with_reducible repeat (first | apply Kd.R_alloc | apply Kd.R_drewN | apply Kd.R_drew)); exact HO271.out) hb); have n1_ := Aside0.mk (Kd.R_below (by (with_reducible repeat (first | apply Kd.R_alloc | apply Kd.R_drewN | apply Kd.R_drew)); exact HO274.out) hb); have n2_ := Aside0.mk (Kd.S_below (by (with_reducible repeat (first | apply Kd.S_alloc | apply Kd.S_drewN | apply Kd.S_drew)); exact HO277.out) hb); have n3_ := Aside0.mk (Kd.R_below (by (with_reducible repeat (first | apply Kd.R_alloc | apply Kd.R_drewN | apply Kd.R_drew)); exact HO281.out) hb); have n4_ := Aside0.mk (Kd.R_below (by (with_reducible repeat (first | apply Kd.R_alloc | apply Kd.R_drewN | apply Kd.R_drew)); exact HO286.out) hb); have n5_ := Aside0.mk (Kd.R_below (by (with_reducible repeat (first | apply Kd.R_alloc | apply Kd.R_drewN | apply Kd.R_drew)); exact HO289.out) hb); have n6_ := Aside0.mk (blk_below (g := gb278) (o := .cells #[.slice Ao10 t269.length co10, .slice Ao12 t272.length co12, .slice Ao13 t275.length co13] 70 (0, 0)) (by (with_reducible repeat (first | refine blk_drewN ?_ _ | refine blk_drew ?_ | refine blk_alloc ?_ _)); exact BK278.out) hb); have n7_ := Aside0.mk (blk_below (g := gb292) (o := .cells #[.slice Ao18 t284.length co18, .slice Ao21 t287.length co21] 79 (0, 0)) (by (with_reducible repeat (first | refine blk_drewN ?_ _ | refine blk_drew ?_ | refine blk_alloc ?_ _)); exact BK292.out) hb); have n8_ := Aside0.mk (below_step (by repeat (first | (with_reducible first | exact HB.out | apply below_alloc | apply pw_below_drewN | apply below_drew1 | refine below_set ?_ GE278.out | refine below_set ?_ GE292.out) | exact HB.out)) hb); clear HO271; clear HO274; clear HO277; clear HO281; clear HO286; clear HO289; clear BK278; clear BK292; clear HB; have HO271 := n0_; have HO274 := n1_; have HO277 := n2_; have HO281 := n3_; have HO286 := n4_; have HO289 := n5_; have BK278 := n6_; have BK292 := n7_; have HB := n8_; clear n0_ n1_ n2_ n3_ n4_ n5_ n6_ n7_ n8_; (try clear hb); (try clear hb2); (try clear hk); (try clear hi)))
      go_meet
      case rel => exact ⟨_, (true), (by first | rfl | (simp; done) | (simp [*]; done)), H', ⟨by first | omega | exact Nat.le_refl _⟩, ⟨by (with_reducible repeat (first | apply Kd.R_alloc | apply Kd.R_drewN | apply Kd.R_drew)); exact Kd.R_mono HO271.out (fun _ hk => ⟨hk.1.1.1, ⟨hk.1.2, hk.2⟩⟩)⟩, ⟨by (with_reducible repeat (first | apply Kd.R_alloc | apply Kd.R_drewN | apply Kd.R_drew)); exact Kd.R_mono HO274.out (fun _ hk => ⟨hk.1.1.1, ⟨hk.1.2, hk.2⟩⟩)⟩, ⟨by (with_reducible repeat (first | apply Kd.S_alloc | apply Kd.S_drewN | apply Kd.S_drew)); exact Kd.S_mono HO277.out (fun _ hk => ⟨hk.1.1.1.1, ⟨hk.1.1.1.2, ⟨hk.1.2, hk.2⟩⟩⟩)⟩, ⟨by (with_reducible repeat (first | apply Kd.R_alloc | apply Kd.R_drewN | apply Kd.R_drew)); exact Kd.R_mono HO286.out (fun _ hk => ⟨hk.1.1.2, ⟨hk.1.2, hk.1.1.1⟩⟩)⟩, ⟨by (with_reducible repeat (first | apply Kd.R_alloc | apply Kd.R_drewN | apply Kd.R_drew)); exact Kd.R_mono HO289.out (fun _ hk => ⟨hk.1.1.2, ⟨hk.1.2, hk.1.1.1⟩⟩)⟩, ⟨by (with_reducible repeat (first | refine blk_drewN ?_ _ | refine blk_drew ?_ | refine blk_alloc ?_ _)); exact BK278.out⟩, ⟨by (with_reducible repeat (first | refine blk_drewN ?_ _ | refine blk_drew ?_ | refine blk_alloc ?_ _)); exact BK292.out⟩, ⟨by repeat (first | (with_reducible first | exact HB.out | apply below_alloc | apply pw_below_drewN | apply below_drew1 | refine below_set ?_ GE278.out | refine below_set ?_ GE292.out) | exact HB.out)⟩⟩
    ·rw [if_neg c27] at H
     have c27b0 : (t291 == 0) = false := beq_eq_false_iff_ne.mpr c27
     have c27b1 : (t291 != 0) = true := bne_iff_ne.mpr c27
     have H' := Aside0.mk H
     clear H
     go_wp2_with (first | ((with_reducible refine gate_callee (f := 46) rfl ?_); refine goesL_ (some 38) rfl rfl Try.func46 (by kernel_rfl) rfl #[] rfl (by (try simp only [List.map_toArray, List.map_cons, List.map_nil]); first | done | rfl | (simp only [List.length_drop, List.length_take]; rfl)) ?_; (with_reducible refine (wrackkeep3_ordered.calls k  true _ A24.out).mono ?_); rintro e w39 ⟨rfl, hb⟩; refine ⟨_, rfl, ?_⟩; have n0_ := Aside0.mk (Kd.R_below (by (with_reducible repeat (first | apply Kd.R_alloc | apply Kd.R_drewN | apply Kd.R_drew)); exact HO271.out) hb); have n1_ := Aside0.mk (Kd.R_below (by (with_reducible repeat (first | apply Kd.R_alloc | apply Kd.R_drewN | apply Kd.R_drew)); exact HO274.out) hb); have n2_ := Aside0.mk (Kd.S_below (by (with_reducible repeat (first | apply Kd.S_alloc | apply Kd.S_drewN | apply Kd.S_drew)); exact HO277.out) hb); have n3_ := Aside0.mk (Kd.R_below (by (with_reducible repeat (first | apply Kd.R_alloc | apply Kd.R_drewN | apply Kd.R_drew)); exact HO281.out) hb); have n4_ := Aside0.mk (Kd.R_below (by (with_reducible repeat (first | apply Kd.R_alloc | apply Kd.R_drewN | apply Kd.R_drew)); exact HO286.out) hb); have n5_ := Aside0.mk (Kd.R_below (by (with_reducible repeat (first | apply Kd.R_alloc | apply Kd.R_drewN | apply Kd.R_drew)); exact HO289.out) hb); have n6_ := Aside0.mk (blk_below (g := gb278) (o := .cells #[.slice Ao10 t269.length co10, .slice Ao12 t272.length co12, .slice Ao13 t275.length co13] 70 (0, 0)) (by (with_reducible repeat (first | refine blk_drewN ?_ _ | refine blk_drew ?_ | refine blk_alloc ?_ _)); exact BK278.out) hb); have n7_ := Aside0.mk (blk_below (g := gb292) (o := .cells #[.slice Ao18 t284.length co18, .slice Ao21 t287.length co21] 79 (0, 0)) (by (with_reducible repeat (first | refine blk_drewN ?_ _ | refine blk_drew ?_ | refine blk_alloc ?_ _)); exact BK292.out) hb); have n8_ := Aside0.mk (below_step (by repeat (first | (with_reducible first | exact HB.out | apply below_alloc | apply pw_below_drewN | apply below_drew1 | refine below_set ?_ GE278.out | refine below_set ?_ GE292.out) | exact HB.out)) hb); clear HO271; clear HO274; clear HO277; clear HO281; clear HO286; clear HO289; clear BK278; clear BK292; clear HB; have HO271 := n0_; have HO274 := n1_; have HO277 := n2_; have HO281 := n3_; have HO286 := n4_; have HO289 := n5_; have BK278 := n6_; have BK292 := n7_; have HB := n8_; clear n0_ n1_ n2_ n3_ n4_ n5_ n6_ n7_ n8_; (try clear hb); (try clear hb2); (try clear hk); (try clear hi)))
     go_meet
     case rel => exact ⟨_, (true), (by first | rfl | (simp; done) | (simp [*]; done)), H', ⟨by first | omega | exact Nat.le_refl _⟩, ⟨by (with_reducible repeat (first | apply Kd.R_alloc | apply Kd.R_drewN | apply Kd.R_drew)); exact Kd.R_mono HO271.out (fun _ hk => ⟨hk.1.1.1, ⟨hk.1.2, hk.2⟩⟩)⟩, ⟨by (with_reducible repeat (first | apply Kd.R_alloc | apply Kd.R_drewN | apply Kd.R_drew)); exact Kd.R_mono HO274.out (fun _ hk => ⟨hk.1.1.1, ⟨hk.1.2, hk.2⟩⟩)⟩, ⟨by (with_reducible repeat (first | apply Kd.S_alloc | apply Kd.S_drewN | apply Kd.S_drew)); exact Kd.S_mono HO277.out (fun _ hk => ⟨hk.1.1.1.1, ⟨hk.1.1.1.2, ⟨hk.1.2, hk.2⟩⟩⟩)⟩, ⟨by (with_reducible repeat (first | apply Kd.R_alloc | apply Kd.R_drewN | apply Kd.R_drew)); exact Kd.R_mono HO286.out (fun _ hk => ⟨hk.1.1.2, ⟨hk.1.2, hk.1.1.1⟩⟩)⟩, ⟨by (with_reducible repeat (first | apply Kd.R_alloc | apply Kd.R_drewN | apply Kd.R_drew)); exact Kd.R_mono HO289.out (fun _ hk => ⟨hk.1.1.2, ⟨hk.1.2, hk.1.1.1⟩⟩)⟩, ⟨by (with_reducible repeat (first | refine blk_drewN ?_ _ | refine blk_drew ?_ | refine blk_alloc ?_ _)); exact BK278.out⟩, ⟨by (with_reducible repeat (first | refine blk_drewN ?_ _ | refine blk_drew ?_ | refine blk_alloc ?_ _)); exact BK292.out⟩, ⟨by repeat (first | (with_reducible first | exact HB.out | apply below_alloc | apply pw_below_drewN | apply below_drew1 | refine below_set ?_ GE278.out | refine below_set ?_ GE292.out) | exact HB.out)⟩⟩
   ·rw [if_neg c26] at H
    have c26b0 : (t283 == 0) = false := beq_eq_false_iff_ne.mpr c26
    have c26b1 : (t283 != 0) = true := bne_iff_ne.mpr c26
    (first | rw [c26b0] | (simp only [i64_w, i32_w]; rw [c26b0]) | skip)
    have H' := Aside0.mk H
    clear H
    go_wp2_with (first | ((with_reducible refine gate_callee (f := 46) rfl ?_); refine goesL_ (some 38) rfl rfl Try.func46 (by kernel_rfl) rfl #[] rfl (by (try simp only [List.map_toArray, List.map_cons, List.map_nil]); first | done | rfl | (simp only [List.length_drop, List.length_take]; rfl)) ?_; (with_reducible refine (wrackkeep3_ordered.calls k  true _ A24.out).mono ?_); rintro e w40 ⟨rfl, hb⟩; refine ⟨_, rfl, ?_⟩; have n0_ := Aside0.mk (Kd.R_below (by (with_reducible repeat (first | apply Kd.R_alloc | apply Kd.R_drewN | apply Kd.R_drew)); exact HO271.out) hb); have n1_ := Aside0.mk (Kd.R_below (by (with_reducible repeat (first | apply Kd.R_alloc | apply Kd.R_drewN | apply Kd.R_drew)); exact HO274.out) hb); have n2_ := Aside0.mk (Kd.S_below (by (with_reducible repeat (first | apply Kd.S_alloc | apply Kd.S_drewN | apply Kd.S_drew)); exact HO277.out) hb); have n3_ := Aside0.mk (Kd.R_below (by (with_reducible repeat (first | apply Kd.R_alloc | apply Kd.R_drewN | apply Kd.R_drew)); exact HO281.out) hb); have n4_ := Aside0.mk (Kd.R_below (by (with_reducible repeat (first | apply Kd.R_alloc | apply Kd.R_drewN | apply Kd.R_drew)); exact HO286.out) hb); have n5_ := Aside0.mk (Kd.R_below (by (with_reducible repeat (first | apply Kd.R_alloc | apply Kd.R_drewN | apply Kd.R_drew)); exact HO289.out) hb); have n6_ := Aside0.mk (blk_below (g := gb278) (o := .cells #[.slice Ao10 t269.length co10, .slice Ao12 t272.length co12, .slice Ao13 t275.length co13] 70 (0, 0)) (by (with_reducible repeat (first | refine blk_drewN ?_ _ | refine blk_drew ?_ | refine blk_alloc ?_ _)); exact BK278.out) hb); have n7_ := Aside0.mk (blk_below (g := gb292) (o := .cells #[.slice Ao18 t284.length co18, .slice Ao21 t287.length co21] 79 (0, 0)) (by (with_reducible repeat (first | refine blk_drewN ?_ _ | refine blk_drew ?_ | refine blk_alloc ?_ _)); exact BK292.out) hb); have n8_ := Aside0.mk (below_step (by repeat (first | (with_reducible first | exact HB.out | apply below_alloc | apply pw_below_drewN | apply below_drew1 | refine below_set ?_ GE278.out | refine below_set ?_ GE292.out) | exact HB.out)) hb); clear HO271; clear HO274; clear HO277; clear HO281; clear HO286; clear HO289; clear BK278; clear BK292; clear HB; have HO271 := n0_; have HO274 := n1_; have HO277 := n2_; have HO281 := n3_; have HO286 := n4_; have HO289 := n5_; have BK278 := n6_; have BK292 := n7_; have HB := n8_; clear n0_ n1_ n2_ n3_ n4_ n5_ n6_ n7_ n8_; (try clear hb); (try clear hb2); (try clear hk); (try clear hi)))
    go_meet
    case rel => exact ⟨_, (true), (by first | rfl | (simp; done) | (simp [*]; done)), H', ⟨by first | omega | exact Nat.le_refl _⟩, ⟨by (with_reducible repeat (first | apply Kd.R_alloc | apply Kd.R_drewN | apply Kd.R_drew)); exact Kd.R_mono HO271.out (fun _ hk => ⟨hk.1.1.1, ⟨hk.1.2, hk.2⟩⟩)⟩, ⟨by (with_reducible repeat (first | apply Kd.R_alloc | apply Kd.R_drewN | apply Kd.R_drew)); exact Kd.R_mono HO274.out (fun _ hk => ⟨hk.1.1.1, ⟨hk.1.2, hk.2⟩⟩)⟩, ⟨by (with_reducible repeat (first | apply Kd.S_alloc | apply Kd.S_drewN | apply Kd.S_drew)); exact Kd.S_mono HO277.out (fun _ hk => ⟨hk.1.1.1.1, ⟨hk.1.1.1.2, ⟨hk.1.2, hk.2⟩⟩⟩)⟩, ⟨by (with_reducible repeat (first | apply Kd.R_alloc | apply Kd.R_drewN | apply Kd.R_drew)); exact Kd.R_mono HO286.out (fun _ hk => ⟨hk.1.1.2, ⟨hk.1.2, hk.1.1.1⟩⟩)⟩, ⟨by (with_reducible repeat (first | apply Kd.R_alloc | apply Kd.R_drewN | apply Kd.R_drew)); exact Kd.R_mono HO289.out (fun _ hk => ⟨hk.1.1.2, ⟨hk.1.2, hk.1.1.1⟩⟩)⟩, ⟨by (with_reducible repeat (first | refine blk_drewN ?_ _ | refine blk_drew ?_ | refine blk_alloc ?_ _)); exact BK278.out⟩, ⟨by (with_reducible repeat (first | refine blk_drewN ?_ _ | refine blk_drew ?_ | refine blk_alloc ?_ _)); exact BK292.out⟩, ⟨by repeat (first | (with_reducible first | exact HB.out | apply below_alloc | apply pw_below_drewN | apply below_drew1 | refine below_set ?_ GE278.out | refine below_set ?_ GE292.out) | exact HB.out)⟩⟩
  ·replace c25 := Bool.eq_false_iff.mpr c25
   subst c25
   have H1 : (wrackkeep3_PieceAbove.j0 k l1 t282 true t269 t272 t275 t284 t287) = some r := by rw [if_neg (show ¬ (false = true) by decide)] at H; exact H
   clear H
   have H := H1
   clear H1
   have H' := Aside0.mk H
   clear H
   go_wp2_with (first | ((with_reducible refine gate_callee (f := 46) rfl ?_); refine goesL_ (some 38) rfl rfl Try.func46 (by kernel_rfl) rfl #[] rfl (by (try simp only [List.map_toArray, List.map_cons, List.map_nil]); first | done | rfl | (simp only [List.length_drop, List.length_take]; rfl)) ?_; (with_reducible refine (wrackkeep3_ordered.calls k  false _ A24.out).mono ?_); rintro e w41 ⟨rfl, hb⟩; refine ⟨_, rfl, ?_⟩; have n0_ := Aside0.mk (Kd.R_below (by (with_reducible repeat (first | apply Kd.R_alloc | apply Kd.R_drewN | apply Kd.R_drew)); exact HO271.out) hb); have n1_ := Aside0.mk (Kd.R_below (by (with_reducible repeat (first | apply Kd.R_alloc | apply Kd.R_drewN | apply Kd.R_drew)); exact HO274.out) hb); have n2_ := Aside0.mk (Kd.S_below (by (with_reducible repeat (first | apply Kd.S_alloc | apply Kd.S_drewN | apply Kd.S_drew)); exact HO277.out) hb); have n3_ := Aside0.mk (Kd.R_below (by (with_reducible repeat (first | apply Kd.R_alloc | apply Kd.R_drewN | apply Kd.R_drew)); exact HO281.out) hb); have n4_ := Aside0.mk (Kd.R_below (by (with_reducible repeat (first | apply Kd.R_alloc | apply Kd.R_drewN | apply Kd.R_drew)); exact HO286.out) hb); have n5_ := Aside0.mk (Kd.R_below (by (with_reducible repeat (first | apply Kd.R_alloc | apply Kd.R_drewN | apply Kd.R_drew)); exact HO289.out) hb); have n6_ := Aside0.mk (blk_below (g := gb278) (o := .cells #[.slice Ao10 t269.length co10, .slice Ao12 t272.length co12, .slice Ao13 t275.length co13] 70 (0, 0)) (by (with_reducible repeat (first | refine blk_drewN ?_ _ | refine blk_drew ?_ | refine blk_alloc ?_ _)); exact BK278.out) hb); have n7_ := Aside0.mk (blk_below (g := gb292) (o := .cells #[.slice Ao18 t284.length co18, .slice Ao21 t287.length co21] 79 (0, 0)) (by (with_reducible repeat (first | refine blk_drewN ?_ _ | refine blk_drew ?_ | refine blk_alloc ?_ _)); exact BK292.out) hb); have n8_ := Aside0.mk (below_step (by repeat (first | (with_reducible first | exact HB.out | apply below_alloc | apply pw_below_drewN | apply below_drew1 | refine below_set ?_ GE278.out | refine below_set ?_ GE292.out) | exact HB.out)) hb); clear HO271; clear HO274; clear HO277; clear HO281; clear HO286; clear HO289; clear BK278; clear BK292; clear HB; have HO271 := n0_; have HO274 := n1_; have HO277 := n2_; have HO281 := n3_; have HO286 := n4_; have HO289 := n5_; have BK278 := n6_; have BK292 := n7_; have HB := n8_; clear n0_ n1_ n2_ n3_ n4_ n5_ n6_ n7_ n8_; (try clear hb); (try clear hb2); (try clear hk); (try clear hi)))
   go_meet
   case rel => exact ⟨_, (true), (by first | rfl | (simp; done) | (simp [*]; done)), H', ⟨by first | omega | exact Nat.le_refl _⟩, ⟨by (with_reducible repeat (first | apply Kd.R_alloc | apply Kd.R_drewN | apply Kd.R_drew)); exact Kd.R_mono HO271.out (fun _ hk => ⟨hk.1.1.1, ⟨hk.1.2, hk.2⟩⟩)⟩, ⟨by (with_reducible repeat (first | apply Kd.R_alloc | apply Kd.R_drewN | apply Kd.R_drew)); exact Kd.R_mono HO274.out (fun _ hk => ⟨hk.1.1.1, ⟨hk.1.2, hk.2⟩⟩)⟩, ⟨by (with_reducible repeat (first | apply Kd.S_alloc | apply Kd.S_drewN | apply Kd.S_drew)); exact Kd.S_mono HO277.out (fun _ hk => ⟨hk.1.1.1.1, ⟨hk.1.1.1.2, ⟨hk.1.2, hk.2⟩⟩⟩)⟩, ⟨by (with_reducible repeat (first | apply Kd.R_alloc | apply Kd.R_drewN | apply Kd.R_drew)); exact Kd.R_mono HO286.out (fun _ hk => ⟨hk.1.1.2, ⟨hk.1.2, hk.1.1.1⟩⟩)⟩, ⟨by (with_reducible repeat (first | apply Kd.R_alloc | apply Kd.R_drewN | apply Kd.R_drew)); exact Kd.R_mono HO289.out (fun _ hk => ⟨hk.1.1.2, ⟨hk.1.2, hk.1.1.1⟩⟩)⟩, ⟨by (with_reducible repeat (first | refine blk_drewN ?_ _ | refine blk_drew ?_ | refine blk_alloc ?_ _)); exact BK278.out⟩, ⟨by (with_reducible repeat (first | refine blk_drewN ?_ _ | refine blk_drew ?_ | refine blk_alloc ?_ _)); exact BK292.out⟩, ⟨by repeat (first | (with_reducible first | exact HB.out | apply below_alloc | apply pw_below_drewN | apply below_drew1 | refine below_set ?_ GE278.out | refine below_set ?_ GE292.out) | exact HB.out)⟩⟩
 case rest =>
  clear HC7
  try clear c1
  try clear c2
  try clear p2
  try clear c3
  try clear p3
  try clear c4
  try clear c5
  try clear c9
  try clear c19
  try clear c25
  try clear c26
  try clear c26b0
  try clear c26b1
  try clear c27
  try clear c27b0
  try clear c27b1
  try clear c28
  try clear c28b0
  try clear c28b1
  try clear c29
  try clear c29b0
  try clear c29b1
  try clear c30
  try clear c30b0
  try clear c30b1
  try clear c32
  try clear c35
  try clear hcz11_0
  try clear hcz11_1
  try clear hcz11_2
  try clear hcz15_0
  try clear hcz15_1
  try clear hcz15_2
  try clear hcz20_0
  try clear hcz20_1
  try clear hcz22_0
  try clear hcz22_1
  try clear hcz22_2
  try clear hcz33_0
  try clear hcz33_1
  try clear hcz33_2
  try clear hcz36_0
  try clear hcz36_1
  try clear hcz36_2
  try clear hfz11_0
  try clear hfz11_1
  try clear hfz11_2
  try clear hfz15_0
  try clear hfz15_1
  try clear hfz15_2
  try clear hfz20_0
  try clear hfz20_1
  try clear hfz22_0
  try clear hfz22_1
  try clear hfz22_2
  try clear hfz33_0
  try clear hfz33_1
  try clear hfz33_2
  try clear hfz36_0
  try clear hfz36_1
  try clear hfz36_2
  obtain ⟨kq, x67_6, rfl, HA, HJ6, HO_279000, HO_279001, HO_279002, HO_293000, HO_293001, BK278, BK292, HB⟩ := hcut
  cases kq with
  | zero => exact absurd HA.out (by simp [wrackkeep3_PieceAbove.j0])
  | succ kj6 =>
   have H := HA.out
   clear HA
   simp only [wrackkeep3_PieceAbove.j0] at H
   by_cases c42 : x67_6 = true
   ·subst c42
    have H1 : (some false) = some r := by rw [if_pos rfl] at H; exact H
    clear H
    have H := H1
    clear H1
    obtain rfl := Option.some.inj H
    go_wp2
    go_ret
    exact ⟨by first | rfl | (simp [errW_none, errW_some] <;> rfl) | (simp [*, errW_none, errW_some] <;> rfl), by repeat (first | (with_reducible first | exact HB.out | apply below_alloc | apply pw_below_drewN | apply below_drew1 | refine below_set ?_ GE278.out | refine below_set ?_ GE292.out) | exact HB.out)⟩
   ·replace c42 := Bool.eq_false_iff.mpr c42
    subst c42
    have H1 : (wrackkeep3_PieceAbove.l0 kj6 t282 (t284.length : Int) 0 t269 t272 t275 t284 t287 l1) = some r := by rw [if_neg (show ¬ (false = true) by decide)] at H; exact H
    clear H
    have H := H1
    clear H1
    have H' := Aside0.mk H
    clear H
    go_wp2_with (first | ((with_reducible refine gate_dst (N := 70) rfl ?_); (try (refine gate_guard (by rfl) ?_; dsimp only)); refine box_event ?hg (N := 70) ?hd (cs := #[.slice A1 l1.length c1]) (t := 66) ?hr ?_; (case hd => rfl); (case hg => rfl); (case hr => first | (go_simp; done) | (go_simp; rfl)); intro g296 hg w43 hbox hb; have n0_ := Aside0.mk (Kd.R_below (by (with_reducible repeat (first | apply Kd.R_alloc | apply Kd.R_drewN | apply Kd.R_drew)); exact HO_279000.out) hb); have n1_ := Aside0.mk (Kd.R_below (by (with_reducible repeat (first | apply Kd.R_alloc | apply Kd.R_drewN | apply Kd.R_drew)); exact HO_279001.out) hb); have n2_ := Aside0.mk (Kd.S_below (by (with_reducible repeat (first | apply Kd.S_alloc | apply Kd.S_drewN | apply Kd.S_drew)); exact HO_279002.out) hb); have n3_ := Aside0.mk (Kd.R_below (by (with_reducible repeat (first | apply Kd.R_alloc | apply Kd.R_drewN | apply Kd.R_drew)); exact HO_293000.out) hb); have n4_ := Aside0.mk (Kd.R_below (by (with_reducible repeat (first | apply Kd.R_alloc | apply Kd.R_drewN | apply Kd.R_drew)); exact HO_293001.out) hb); have n5_ := Aside0.mk (blk_below (g := gb278) (o := .cells #[.slice Ao10 t269.length co10, .slice Ao12 t272.length co12, .slice Ao13 t275.length co13] 70 (0, 0)) (by (with_reducible repeat (first | refine blk_drewN ?_ _ | refine blk_drew ?_ | refine blk_alloc ?_ _)); exact BK278.out) hb); have n6_ := Aside0.mk (blk_below (g := gb292) (o := .cells #[.slice Ao18 t284.length co18, .slice Ao21 t287.length co21] 79 (0, 0)) (by (with_reducible repeat (first | refine blk_drewN ?_ _ | refine blk_drew ?_ | refine blk_alloc ?_ _)); exact BK292.out) hb); have n7_ := Aside0.mk (below_step (by repeat (first | (with_reducible first | exact HB.out | apply below_alloc | apply pw_below_drewN | apply below_drew1 | refine below_set ?_ GE278.out | refine below_set ?_ GE292.out) | exact HB.out)) hb); have n8_ := Aside0.mk ((show IsS66 w w43 g296 l1 from ⟨_, _, hbox, (by rw [hg]; exact (below_size (by repeat (first | (with_reducible first | exact HB.out | apply below_alloc | apply pw_below_drewN | apply below_drew1 | refine below_set ?_ GE278.out | refine below_set ?_ GE292.out) | exact HB.out))) : w.heap.size ≤ g296), HR1.out, HC1.out⟩)); have n9_ := Aside0.mk ((by rw [hg]; exact Nat.ne_of_lt (blk_lt (g := gb278) (o := .cells #[.slice Ao10 t269.length co10, .slice Ao12 t272.length co12, .slice Ao13 t275.length co13] 70 (0, 0)) (by (with_reducible repeat (first | refine blk_drewN ?_ _ | refine blk_drew ?_ | refine blk_alloc ?_ _)); exact BK278.out)) : gb278 ≠ g296)); have n10_ := Aside0.mk ((by rw [hg]; exact Nat.ne_of_gt (blk_lt (g := gb278) (o := .cells #[.slice Ao10 t269.length co10, .slice Ao12 t272.length co12, .slice Ao13 t275.length co13] 70 (0, 0)) (by (with_reducible repeat (first | refine blk_drewN ?_ _ | refine blk_drew ?_ | refine blk_alloc ?_ _)); exact BK278.out)) : g296 ≠ gb278)); have n11_ := Aside0.mk ((by rw [hg]; exact Nat.ne_of_lt (blk_lt (g := gb292) (o := .cells #[.slice Ao18 t284.length co18, .slice Ao21 t287.length co21] 79 (0, 0)) (by (with_reducible repeat (first | refine blk_drewN ?_ _ | refine blk_drew ?_ | refine blk_alloc ?_ _)); exact BK292.out)) : gb292 ≠ g296)); have n12_ := Aside0.mk ((by rw [hg]; exact Nat.ne_of_gt (blk_lt (g := gb292) (o := .cells #[.slice Ao18 t284.length co18, .slice Ao21 t287.length co21] 79 (0, 0)) (by (with_reducible repeat (first | refine blk_drewN ?_ _ | refine blk_drew ?_ | refine blk_alloc ?_ _)); exact BK292.out)) : g296 ≠ gb292)); clear HO_279000; clear HO_279001; clear HO_279002; clear HO_293000; clear HO_293001; clear BK278; clear BK292; clear HB; have HO_279000 := n0_; have HO_279001 := n1_; have HO_279002 := n2_; have HO_293000 := n3_; have HO_293001 := n4_; have BK278 := n5_; have BK292 := n6_; have HB := n7_; have HI296 := n8_; have NB278_296 := n9_; have NB296_278 := n10_; have NB292_296 := n11_; have NB296_292 := n12_; clear n0_ n1_ n2_ n3_ n4_ n5_ n6_ n7_ n8_ n9_ n10_ n11_ n12_; clear hb hbox hg; have hnb44 := NB292_278.out; have hnc44 := NB278_292.out; have hnb45 := NB292_296.out; have hnc45 := NB296_292.out; have hcz46_0 : w43.cell? ⟨gb292, 0, none⟩ = some (.slice Ao18 t284.length co18) := (blk_cell BK292.out 0).trans rfl; have hcz46_1 : w43.cell? ⟨gb292, 1, none⟩ = some (.slice Ao21 t287.length co21) := (blk_cell BK292.out 1).trans rfl; have hfz46_0 := blk_frozen BK292.out 0; have hfz46_1 := blk_frozen BK292.out 1))
    go_loopg [74] kj6 (fun kq v74 w' => ∃ (x74_2 : Int) (x279000_2 : List Int) (x279001_2 : List Int) (x293000_2 : List Int) (x293001_2 : List Int) (x297000_2 : List Int) (u279000 : Value) (u279001 : Value) (u293000 : Value) (u293001 : Value), v74 = .int .i64 x74_2 ∧ Aside0 (wrackkeep3_PieceAbove.l0 kq t282 (t284.length : Int) x74_2 x279000_2 x279001_2 t275 x293000_2 x293001_2 x297000_2 = some r) ∧ Aside0 (kq ≤ kj6) ∧ Aside0 (Kd.R (Kd.int .i64) 3 w' w.heap.size (fun k_ => some k_ ≠ (u279001 : Value).ownBlock ∧ some k_ ≠ (u293000 : Value).ownBlock ∧ some k_ ≠ (u293001 : Value).ownBlock) u279000 x279000_2) ∧ Aside0 (Kd.R (Kd.int .i64) 3 w' w.heap.size (fun k_ => some k_ ≠ (u279000 : Value).ownBlock ∧ some k_ ≠ (u293000 : Value).ownBlock ∧ some k_ ≠ (u293001 : Value).ownBlock) u279001 x279001_2) ∧ Aside0 (Kd.S (Kd.slice 3 (Kd.int .i64)) 22 w' w.heap.size (fun k_ => some k_ ≠ (u279000 : Value).ownBlock ∧ some k_ ≠ (u279001 : Value).ownBlock ∧ some k_ ≠ (u293000 : Value).ownBlock ∧ some k_ ≠ (u293001 : Value).ownBlock) (.slice Ao13 t275.length co13) t275) ∧ Aside0 (Kd.R (Kd.int .i64) 3 w' w.heap.size (fun k_ => some k_ ≠ (u279000 : Value).ownBlock ∧ some k_ ≠ (u279001 : Value).ownBlock ∧ some k_ ≠ (u293001 : Value).ownBlock) u293000 x293000_2) ∧ Aside0 (Kd.R (Kd.int .i64) 3 w' w.heap.size (fun k_ => some k_ ≠ (u279000 : Value).ownBlock ∧ some k_ ≠ (u279001 : Value).ownBlock ∧ some k_ ≠ (u293000 : Value).ownBlock) u293001 x293001_2) ∧ Aside0 (w'.heap[gb278]? = some (.cells #[u279000, u279001, (.slice Ao13 t275.length co13)] 70 (0, 0))) ∧ Aside0 (w'.heap[gb292]? = some (.cells #[u293000, u293001] 79 (0, 0))) ∧ Aside0 (IsS66 w w' g296 x297000_2) ∧ Aside0 (Below w.heap.size w w'))
    case atStart => exact ⟨(0), (t269), (t272), (t284), (t287), (l1), (.slice Ao10 t269.length co10), (.slice Ao12 t272.length co12), (.slice Ao18 t284.length co18), (.slice Ao21 t287.length co21), (by first | rfl | (simp; done) | (simp [*]; done)), H', ⟨Nat.le_refl _⟩, ⟨by (with_reducible repeat (first | apply Kd.R_alloc | apply Kd.R_drewN | apply Kd.R_drew)); exact HO_279000.out⟩, ⟨by (with_reducible repeat (first | apply Kd.R_alloc | apply Kd.R_drewN | apply Kd.R_drew)); exact HO_279001.out⟩, ⟨by (with_reducible repeat (first | apply Kd.S_alloc | apply Kd.S_drewN | apply Kd.S_drew)); exact HO_279002.out⟩, ⟨by (with_reducible repeat (first | apply Kd.R_alloc | apply Kd.R_drewN | apply Kd.R_drew)); exact HO_293000.out⟩, ⟨by (with_reducible repeat (first | apply Kd.R_alloc | apply Kd.R_drewN | apply Kd.R_drew)); exact HO_293001.out⟩, ⟨by (with_reducible repeat (first | refine blk_drewN ?_ _ | refine blk_drew ?_ | refine blk_alloc ?_ _)); exact BK278.out⟩, ⟨by (with_reducible repeat (first | refine blk_drewN ?_ _ | refine blk_drew ?_ | refine blk_alloc ?_ _)); exact BK292.out⟩, ⟨by repeat (first | (with_reducible first | exact HI296.out | apply IsS66.alloc | apply IsS66.drewN | apply IsS66.drew | apply IsS66.set_0 | refine IsS66.far ?_ NB296_278.out _ | refine IsS66.far ?_ NB296_292.out _) | exact HI296.out)⟩, ⟨by repeat (first | (with_reducible first | exact HB.out | apply below_alloc | apply pw_below_drewN | apply below_drew1 | refine below_set ?_ (IsS66.ge HI296.out) | refine below_set ?_ GE278.out | refine below_set ?_ GE292.out) | exact HB.out)⟩⟩
    case round =>
     clear H'
     try clear c1
     try clear c2
     try clear p2
     try clear c3
     try clear p3
     try clear c4
     try clear c5
     try clear c9
     try clear c19
     try clear c25
     try clear c26
     try clear c26b0
     try clear c26b1
     try clear c27
     try clear c27b0
     try clear c27b1
     try clear c28
     try clear c28b0
     try clear c28b1
     try clear c29
     try clear c29b0
     try clear c29b1
     try clear c30
     try clear c30b0
     try clear c30b1
     try clear c32
     try clear c35
     try clear c42
     try clear c44
     try clear c45
     try clear c46
     try clear hcz11_0
     try clear hcz11_1
     try clear hcz11_2
     try clear hcz15_0
     try clear hcz15_1
     try clear hcz15_2
     try clear hcz20_0
     try clear hcz20_1
     try clear hcz22_0
     try clear hcz22_1
     try clear hcz22_2
     try clear hcz33_0
     try clear hcz33_1
     try clear hcz33_2
     try clear hcz36_0
     try clear hcz36_1
     try clear hcz36_2
     try clear hcz46_0
     try clear hcz46_1
     try clear hfz11_0
     try clear hfz11_1
     try clear hfz11_2
     try clear hfz15_0
     try clear hfz15_1
     try clear hfz15_2
     try clear hfz20_0
     try clear hfz20_1
     try clear hfz22_0
     try clear hfz22_1
     try clear hfz22_2
     try clear hfz33_0
     try clear hfz33_1
     try clear hfz33_2
     try clear hfz36_0
     try clear hfz36_1
     try clear hfz36_2
     try clear hfz46_0
     try clear hfz46_1
     try clear p2
     try clear p3
     obtain ⟨x74_2, x279000_2, x279001_2, x293000_2, x293001_2, x297000_2, u279000, u279001, u293000, u293001, rfl, HA, HK2, HO_279000, HO_279001, HO_279002, HO_293000, HO_293001, BK278, BK292, HI296, HB⟩ := hrel
     cases gk with
     | zero => exact absurd HA.out (by simp [wrackkeep3_PieceAbove.l0])
     | succ k2 =>
      have H := HA.out
      clear HA
      simp only [wrackkeep3_PieceAbove.l0] at H
      by_cases c47 : x74_2 < (t284.length : Int)
      ·rw [if_pos c47] at H
       have c47b0 : decide (x74_2 < (t284.length : Int)) = true := decide_eq_true c47
       clear c47
       by_cases c48 : 0 ≤ x74_2
       ·rw [if_pos c48] at H
        have c48b0 : decide (0 ≤ x74_2) = true := decide_eq_true c48
        clear c48
        by_cases c49 : x74_2 < (x293000_2.length : Int)
        ·rw [if_pos c49] at H
         have c49b0 : decide (x74_2 < (x293000_2.length : Int)) = true := decide_eq_true c49
         clear c49
         replace H := Option.bind_eq_some_iff.mp H
         obtain ⟨⟨t298, t299⟩, A500, H⟩ := H
         replace H : (if x74_2 < (x293001_2.length : Int) then ((wrackmake_Stream_Next.f t299 9).bind fun bt301 => (wrackkeep3_PieceAbove.l0 k2 t282 (t284.length : Int) (wrap64 (x74_2 + 1)) x279000_2 x279001_2 t275 (x293000_2.set (x74_2 : Int).toNat (wrap64 ((wrap64 ((rd x293000_2 x74_2) + t298)) - 2))) (x293001_2.set (x74_2 : Int).toNat (wrap64 ((wrap64 ((rd x293001_2 x74_2) + bt301.1)) - 2))) bt301.2)) else (none)) = some r := H
         have A50 := Aside0.mk A500
         clear A500
         by_cases c51 : x74_2 < (x293001_2.length : Int)
         ·rw [if_pos c51] at H
          have c51b0 : decide (x74_2 < (x293001_2.length : Int)) = true := decide_eq_true c51
          clear c51
          replace H := Option.bind_eq_some_iff.mp H
          obtain ⟨⟨t301, t302⟩, A520, H⟩ := H
          replace H : (wrackkeep3_PieceAbove.l0 k2 t282 (t284.length : Int) (wrap64 (x74_2 + 1)) x279000_2 x279001_2 t275 (x293000_2.set (x74_2 : Int).toNat (wrap64 ((wrap64 ((rd x293000_2 x74_2) + t298)) - 2))) (x293001_2.set (x74_2 : Int).toNat (wrap64 ((wrap64 ((rd x293001_2 x74_2) + t301)) - 2))) t302) = some r := H
          have A52 := Aside0.mk A520
          clear A520
          obtain ⟨y303, hy303⟩ : ∃ y_ : List Int, y_ = (x293000_2.set (x74_2 : Int).toNat (wrap64 ((wrap64 ((rd x293000_2 x74_2) + t298)) - 2))) := ⟨_, rfl⟩
          replace H : (wrackkeep3_PieceAbove.l0 k2 t282 (t284.length : Int) (wrap64 (x74_2 + 1)) x279000_2 x279001_2 t275 y303 (x293001_2.set (x74_2 : Int).toNat (wrap64 ((wrap64 ((rd x293001_2 x74_2) + t301)) - 2))) t302) = some r := by first | (rw [hy303]; with_reducible exact H) | (have H2_ := (Option.bind_some _ _).symm.trans H; rw [hy303]; with_reducible exact H2_) | (have H2_ := (Option.bind_some _ _).symm.trans H; with_reducible exact H2_) | with_reducible exact H | (rw [hy303]; exact H) | exact H
          have Ny303 := Aside0.mk hy303
          clear hy303
          obtain ⟨y304, hy304⟩ : ∃ y_ : List Int, y_ = (x293001_2.set (x74_2 : Int).toNat (wrap64 ((wrap64 ((rd x293001_2 x74_2) + t301)) - 2))) := ⟨_, rfl⟩
          replace H : (wrackkeep3_PieceAbove.l0 k2 t282 (t284.length : Int) (wrap64 (x74_2 + 1)) x279000_2 x279001_2 t275 y303 y304 t302) = some r := by first | (rw [hy304]; with_reducible exact H) | (have H2_ := (Option.bind_some _ _).symm.trans H; rw [hy304]; with_reducible exact H2_) | (have H2_ := (Option.bind_some _ _).symm.trans H; with_reducible exact H2_) | with_reducible exact H | (rw [hy304]; exact H) | exact H
          have Ny304 := Aside0.mk hy304
          clear hy304
          have H' := Aside0.mk H
          clear H
          try go_wp2
          have n0_ := Aside0.mk (Kd.R_drew HO_279000.out)
          have n1_ := Aside0.mk (Kd.R_drew HO_279001.out)
          have n2_ := Aside0.mk (Kd.S_drew HO_279002.out)
          have n3_ := Aside0.mk (Kd.R_drew HO_293000.out)
          have n4_ := Aside0.mk (Kd.R_drew HO_293001.out)
          have n5_ := Aside0.mk (blk_drew BK278.out)
          have n6_ := Aside0.mk (blk_drew BK292.out)
          have n7_ := Aside0.mk (IsS66.drew HI296.out)
          have n8_ := Aside0.mk (below_drew1 HB.out)
          clear HO_279000
          clear HO_279001
          clear HO_279002
          clear HO_293000
          clear HO_293001
          clear BK278
          clear BK292
          clear HI296
          clear HB
          have HO_279000 := n0_
          have HO_279001 := n1_
          have HO_279002 := n2_
          have HO_293000 := n3_
          have HO_293001 := n4_
          have BK278 := n5_
          have BK292 := n6_
          have HI296 := n7_
          have HB := n8_
          clear n0_ n1_ n2_ n3_ n4_ n5_ n6_ n7_ n8_
          obtain ⟨Ao56, co56, eo56⟩ := Kd.R_slice HO_293000.out
          (first | subst eo56 | (injection eo56 with f1_ f2_ f3_; have f4_ := f1_.symm; have f5_ := f3_.symm; clear f1_ f2_ f3_; subst f4_; subst f5_))
          have p297 : 0 ≤ (x74_2 : Int) := of_decide_eq_true (by first | (with_reducible assumption) | assumption)
          have q297 : x74_2 < (x293000_2.length : Int) := of_decide_eq_true (by first | (with_reducible assumption) | assumption)
          obtain ⟨ad297, e297, hx297_0⟩ := Kd.at_int (Kd.R_reads' HO_293000.out).2.2 x74_2 p297 q297
          cases e297
          replace p297 := eq_true p297
          replace q297 := eq_true q297
          obtain ⟨Ao57, co57, eo57⟩ := Kd.R_slice HO_293001.out
          (first | subst eo57 | (injection eo57 with f1_ f2_ f3_; have f4_ := f1_.symm; have f5_ := f3_.symm; clear f1_ f2_ f3_; subst f4_; subst f5_))
          have p300 : 0 ≤ (x74_2 : Int) := of_decide_eq_true (by first | (with_reducible assumption) | assumption)
          have q300 : x74_2 < (x293001_2.length : Int) := of_decide_eq_true (by first | (with_reducible assumption) | assumption)
          obtain ⟨ad300, e300, hx300_0⟩ := Kd.at_int (Kd.R_reads' HO_293001.out).2.2 x74_2 p300 q300
          cases e300
          replace p300 := eq_true p300
          replace q300 := eq_true q300
          refine start2_ (n := 28) (S1 := fun w' => w'.cell? ⟨gb292, 0, none⟩ = some (.slice (some ad297) x293000_2.length co56) ∧ w'.cell? ⟨gb292, 1, none⟩ = some (.slice (some ad300) x293001_2.length co57) ∧ w'.cell? (ad297.add (x74_2).toNat) = some (.int .i64 (rd x293000_2 x74_2)) ∧ w'.cell? (ad300.add (x74_2).toNat) = some (.int .i64 (rd x293001_2 x74_2))) (S2 := fun w' => w'.cell? ⟨gb292, 0, none⟩ = some (.slice (some ad297) x293000_2.length co56) ∧ w'.cell? ⟨gb292, 1, none⟩ = some (.slice (some ad300) x293001_2.length co57) ∧ w'.cell? (ad300.add (x74_2).toNat) = some (.int .i64 (rd x293001_2 x74_2))) (d1 := [25, 27]) (d2 := [27]) #[false, false, false, false, false, false, false, false, false, false, false, false, false, false, false, false, false, false, false, false, false, false, false, false, false, false, false, false] (by kernel_rfl) rfl rfl ⟨(blk_cell BK292.out 0).trans rfl, (blk_cell BK292.out 1).trans rfl, hx297_0, hx300_0⟩ ⟨(blk_cell BK292.out 0).trans rfl, (blk_cell BK292.out 1).trans rfl, hx300_0⟩ (fun hHeld hHeld2 => ?_)
          generalize wr.drew = w55 at HO_279000 HO_279001 HO_279002 HO_293000 HO_293001 BK278 BK292 HI296 HB hHeld hHeld2 ⊢
          refine pureT_ (i := 0) (N := some 77) (v := ?_) (a' := ?_) #[true, false, false, false, false, false, false, false, false, false, false, false, false, false, false, false, false, false, false, false, false, false, false, false, false, false, false, false] rfl rfl (by kernel_rfl) (fun _ _ _ h => h) (Or.inl ⟨by rfl, ?_⟩) ?_ ?_
          rotate_left
          ·intro w'
           go_simp
           with_reducible rfl
          rotate_left
          ·simp only [Act.put, List.setIfInBounds_toArray, List.set_cons_zero, List.set_cons_succ, i64_w, i32_w]
           rfl
          refine pureT_ (i := 2) (N := some 79) (v := ?_) (a' := ?_) #[true, false, true, false, false, false, false, false, false, false, false, false, false, false, false, false, false, false, false, false, false, false, false, false, false, false, false, false] rfl rfl (by kernel_rfl) (fun _ _ _ h => h) (Or.inl ⟨by rfl, ?_⟩) ?_ ?_
          rotate_left
          ·intro w'
           go_simp
           with_reducible rfl
          rotate_left
          ·simp only [Act.put, List.setIfInBounds_toArray, List.set_cons_zero, List.set_cons_succ, i64_w, i32_w]
           rfl
          refine pureT_ (i := 3) (N := some 80) (v := ?_) (a' := ?_) #[true, false, true, true, false, false, false, false, false, false, false, false, false, false, false, false, false, false, false, false, false, false, false, false, false, false, false, false] rfl rfl (by kernel_rfl) (fun _ _ _ h => h) (Or.inl ⟨by rfl, ?_⟩) ?_ ?_
          rotate_left
          ·intro w'
           go_simp
           with_reducible rfl
          rotate_left
          ·simp only [Act.put, List.setIfInBounds_toArray, List.set_cons_zero, List.set_cons_succ, i64_w, i32_w]
           rfl
          refine pureT_ (i := 5) (N := some 82) (v := ?_) (a' := ?_) #[true, false, true, true, false, true, false, false, false, false, false, false, false, false, false, false, false, false, false, false, false, false, false, false, false, false, false, false] rfl rfl (by kernel_rfl) (fun _ _ _ h => h) (Or.inl ⟨by rfl, ?_⟩) ?_ ?_
          rotate_left
          ·intro w'
           go_simp
           with_reducible rfl
          rotate_left
          ·simp only [Act.put, List.setIfInBounds_toArray, List.set_cons_zero, List.set_cons_succ, i64_w, i32_w]
           rfl
          refine pureT_ (i := 6) (N := some 83) (v := ?_) (a' := ?_) #[true, false, true, true, false, true, true, false, false, false, false, false, false, false, false, false, false, false, false, false, false, false, false, false, false, false, false, false] rfl rfl (by kernel_rfl) (fun _ _ _ h => h) (Or.inl ⟨by rfl, ?_⟩) ?_ ?_
          rotate_left
          ·intro w'
           go_simp
           with_reducible rfl
          rotate_left
          ·simp only [Act.put, List.setIfInBounds_toArray, List.set_cons_zero, List.set_cons_succ, i64_w, i32_w]
           rfl
          refine pureT_ (i := 8) (N := some 85) (v := ?_) (a' := ?_) #[true, false, true, true, false, true, true, false, true, false, false, false, false, false, false, false, false, false, false, false, false, false, false, false, false, false, false, false] rfl rfl (by kernel_rfl) (fun _ _ _ h => h) (Or.inl ⟨by rfl, ?_⟩) ?_ ?_
          rotate_left
          ·intro w'
           go_simp
           with_reducible rfl
          rotate_left
          ·simp only [Act.put, List.setIfInBounds_toArray, List.set_cons_zero, List.set_cons_succ, i64_w, i32_w]
           rfl
          refine pureT_ (i := 11) (N := some 88) (v := ?_) (a' := ?_) #[true, false, true, true, false, true, true, false, true, false, false, true, false, false, false, false, false, false, false, false, false, false, false, false, false, false, false, false] rfl rfl (by kernel_rfl) (fun _ _ _ h => h) (Or.inl ⟨by rfl, ?_⟩) ?_ ?_
          rotate_left
          ·intro w'
           go_simp
           with_reducible rfl
          rotate_left
          ·simp only [Act.put, List.setIfInBounds_toArray, List.set_cons_zero, List.set_cons_succ, i64_w, i32_w]
           rfl
          refine pureT_ (i := 15) (N := some 92) (v := ?_) (a' := ?_) #[true, false, true, true, false, true, true, false, true, false, false, true, false, false, false, true, false, false, false, false, false, false, false, false, false, false, false, false] rfl rfl (by kernel_rfl) (fun _ _ _ h => h) (Or.inl ⟨by rfl, ?_⟩) ?_ ?_
          rotate_left
          ·intro w'
           go_simp
           with_reducible rfl
          rotate_left
          ·simp only [Act.put, List.setIfInBounds_toArray, List.set_cons_zero, List.set_cons_succ, i64_w, i32_w]
           rfl
          refine pureT_ (i := 17) (N := some 94) (v := ?_) (a' := ?_) #[true, false, true, true, false, true, true, false, true, false, false, true, false, false, false, true, false, true, false, false, false, false, false, false, false, false, false, false] rfl rfl (by kernel_rfl) (fun _ _ _ h => h) (Or.inl ⟨by rfl, ?_⟩) ?_ ?_
          rotate_left
          ·intro w'
           go_simp
           with_reducible rfl
          rotate_left
          ·simp only [Act.put, List.setIfInBounds_toArray, List.set_cons_zero, List.set_cons_succ, i64_w, i32_w]
           rfl
          refine pureT_ (i := 20) (N := some 97) (v := ?_) (a' := ?_) #[true, false, true, true, false, true, true, false, true, false, false, true, false, false, false, true, false, true, false, false, true, false, false, false, false, false, false, false] rfl rfl (by kernel_rfl) (fun _ _ _ h => h) (Or.inl ⟨by rfl, ?_⟩) ?_ ?_
          rotate_left
          ·intro w'
           go_simp
           with_reducible rfl
          rotate_left
          ·simp only [Act.put, List.setIfInBounds_toArray, List.set_cons_zero, List.set_cons_succ, i64_w, i32_w]
           rfl
          refine takeA_ (i := 1) (N := some 78) (v := ?_) (a' := ?_) #[true, true, true, true, false, true, true, false, true, false, false, true, false, false, false, true, false, true, false, false, true, false, false, false, false, false, false, false] rfl rfl (by kernel_rfl) (fun _ _ _ h => h) (Or.inl ⟨by rfl, ?_⟩) hHeld ?_ ?_
          rotate_left
          ·rintro w' ⟨s0, s1, s2, s3⟩
           go_simp
           with_reducible rfl
          rotate_left
          ·simp only [Act.put, List.setIfInBounds_toArray, List.set_cons_zero, List.set_cons_succ, i64_w, i32_w]
           rfl
          refine takeA_ (i := 7) (N := some 84) (v := ?_) (a' := ?_) #[true, true, true, true, false, true, true, true, true, false, false, true, false, false, false, true, false, true, false, false, true, false, false, false, false, false, false, false] rfl rfl (by kernel_rfl) (fun _ _ _ h => h) (Or.inl ⟨by rfl, ?_⟩) hHeld ?_ ?_
          rotate_left
          ·rintro w' ⟨s0, s1, s2, s3⟩
           go_simp
           with_reducible rfl
          rotate_left
          ·simp only [Act.put, List.setIfInBounds_toArray, List.set_cons_zero, List.set_cons_succ, i64_w, i32_w]
           rfl
          refine pureT_ (i := 9) (N := some 86) (v := ?_) (a' := ?_) #[true, true, true, true, false, true, true, true, true, true, false, true, false, false, false, true, false, true, false, false, true, false, false, false, false, false, false, false] rfl rfl (by kernel_rfl) (fun _ _ _ h => h) (Or.inl ⟨by rfl, ?_⟩) ?_ ?_
          rotate_left
          ·intro w'
           go_simp
           with_reducible rfl
          rotate_left
          ·simp only [Act.put, List.setIfInBounds_toArray, List.set_cons_zero, List.set_cons_succ, i64_w, i32_w]
           rfl
          refine takeA_ (i := 10) (N := some 87) (v := ?_) (a' := ?_) #[true, true, true, true, false, true, true, true, true, true, true, true, false, false, false, true, false, true, false, false, true, false, false, false, false, false, false, false] rfl rfl (by kernel_rfl) (fun _ _ _ h => h) (Or.inl ⟨by rfl, ?_⟩) hHeld ?_ ?_
          rotate_left
          ·rintro w' ⟨s0, s1, s2, s3⟩
           go_simp
           with_reducible rfl
          rotate_left
          ·simp only [Act.put, List.setIfInBounds_toArray, List.set_cons_zero, List.set_cons_succ, i64_w, i32_w]
           rfl
          refine takeA_ (i := 16) (N := some 93) (v := ?_) (a' := ?_) #[true, true, true, true, false, true, true, true, true, true, true, true, false, false, false, true, true, true, false, false, true, false, false, false, false, false, false, false] rfl rfl (by kernel_rfl) (fun _ _ _ h => h) (Or.inl ⟨by rfl, ?_⟩) hHeld ?_ ?_
          rotate_left
          ·rintro w' ⟨s0, s1, s2, s3⟩
           go_simp
           with_reducible rfl
          rotate_left
          ·simp only [Act.put, List.setIfInBounds_toArray, List.set_cons_zero, List.set_cons_succ, i64_w, i32_w]
           rfl
          refine pureT_ (i := 18) (N := some 95) (v := ?_) (a' := ?_) #[true, true, true, true, false, true, true, true, true, true, true, true, false, false, false, true, true, true, true, false, true, false, false, false, false, false, false, false] rfl rfl (by kernel_rfl) (fun _ _ _ h => h) (Or.inl ⟨by rfl, ?_⟩) ?_ ?_
          rotate_left
          ·intro w'
           go_simp
           with_reducible rfl
          rotate_left
          ·simp only [Act.put, List.setIfInBounds_toArray, List.set_cons_zero, List.set_cons_succ, i64_w, i32_w]
           rfl
          refine takeA_ (i := 19) (N := some 96) (v := ?_) (a' := ?_) #[true, true, true, true, false, true, true, true, true, true, true, true, false, false, false, true, true, true, true, true, true, false, false, false, false, false, false, false] rfl rfl (by kernel_rfl) (fun _ _ _ h => h) (Or.inl ⟨by rfl, ?_⟩) hHeld ?_ ?_
          rotate_left
          ·rintro w' ⟨s0, s1, s2, s3⟩
           go_simp
           with_reducible rfl
          rotate_left
          ·simp only [Act.put, List.setIfInBounds_toArray, List.set_cons_zero, List.set_cons_succ, i64_w, i32_w]
           rfl
          refine takeB_ (i := 4) (N := some 81) (v := ?_) (a' := ?_) #[true, true, true, true, true, true, true, true, true, true, true, true, false, false, false, true, true, true, true, true, true, false, false, false, false, false, false, false] rfl rfl (by kernel_rfl) (fun _ _ _ h => h) (Or.inl ⟨by rfl, ?_⟩) hHeld2 ?_ ?_
          rotate_left
          ·rintro w' ⟨s0, s1, s2⟩
           go_simp
           with_reducible rfl
          rotate_left
          ·simp only [Act.put, List.setIfInBounds_toArray, List.set_cons_zero, List.set_cons_succ, i64_w, i32_w]
           rfl
          refine oneT_ (i := 12) (N := some 89) #[true, true, true, true, true, true, true, true, true, true, true, true, true, false, false, true, true, true, true, true, true, false, false, false, false, false, false, false] rfl rfl (by kernel_rfl) (fun K hK => ?_)
          refine goes_ Try.func42 (by kernel_rfl) rfl #[.pointer (some ⟨g296, 0, none⟩), .int .i64 9] (by rfl) rfl rfl (by (try simp only [List.map_toArray, List.map_cons, List.map_nil]); first | done | rfl | (simp only [List.length_drop, List.length_take]; rfl)) ?_
          with_reducible refine (wrackmake_Stream_Next.calls g296 x297000_2 9 t298 t299 w _ ?side1 ?side2 A50.out).mono ?_
          (case side1 => repeat (first | (with_reducible first | exact HI296.out | apply IsS66.alloc | apply IsS66.drewN | apply IsS66.drew | apply IsS66.set_0 | refine IsS66.far ?_ NB296_278.out _ | refine IsS66.far ?_ NB296_292.out _) | exact HI296.out))
          (case side2 => repeat (first | (with_reducible first | exact HB.out | apply below_alloc | apply pw_below_drewN | apply below_drew1 | refine below_set ?_ (IsS66.ge HI296.out) | refine below_set ?_ GE278.out | refine below_set ?_ GE292.out) | exact HB.out))
          rintro e w58 ⟨rfl, hi, hb, hk⟩
          have HS2_ := keep_cell hk (hHeld.2.2.1) (by first | (rw [add_block]; exact Kd.own_blk (IsS66.own_ne HI296.out HO_293000.out (by decide))) | (show (Addr.add _ _).block ≠ _; rw [add_block]; exact Kd.own_blk (IsS66.own_ne HI296.out HO_293000.out (by decide))) | exact Kd.own_blk (IsS66.own_ne HI296.out HO_293000.out (by decide)))
          have HS3_ := keep_cell hk (hHeld.2.2.2) (by first | (rw [add_block]; exact Kd.own_blk (IsS66.own_ne HI296.out HO_293001.out (by decide))) | (show (Addr.add _ _).block ≠ _; rw [add_block]; exact Kd.own_blk (IsS66.own_ne HI296.out HO_293001.out (by decide))) | exact Kd.own_blk (IsS66.own_ne HI296.out HO_293001.out (by decide)))
          refine ⟨_, rfl, ?_⟩
          have n0_ := Aside0.mk (Kd.R_mono (Kd.R_keep (IsS66.apart (show IsS66 w _ g296 x297000_2 from by repeat (first | (with_reducible first | exact HI296.out | apply IsS66.alloc | apply IsS66.drewN | apply IsS66.drew | apply IsS66.set_0 | refine IsS66.far ?_ NB296_278.out _ | refine IsS66.far ?_ NB296_292.out _) | exact HI296.out)) (by (with_reducible repeat (first | apply Kd.R_alloc | apply Kd.R_drewN | apply Kd.R_drew)); exact HO_279000.out) (by decide)) hk (fun _ h => h.2)) (fun _ h => h.1))
          have n1_ := Aside0.mk (Kd.R_mono (Kd.R_keep (IsS66.apart (show IsS66 w _ g296 x297000_2 from by repeat (first | (with_reducible first | exact HI296.out | apply IsS66.alloc | apply IsS66.drewN | apply IsS66.drew | apply IsS66.set_0 | refine IsS66.far ?_ NB296_278.out _ | refine IsS66.far ?_ NB296_292.out _) | exact HI296.out)) (by (with_reducible repeat (first | apply Kd.R_alloc | apply Kd.R_drewN | apply Kd.R_drew)); exact HO_279001.out) (by decide)) hk (fun _ h => h.2)) (fun _ h => h.1))
          have n2_ := Aside0.mk (Kd.S_mono (Kd.S_keep (IsS66.apartS (show IsS66 w _ g296 x297000_2 from by repeat (first | (with_reducible first | exact HI296.out | apply IsS66.alloc | apply IsS66.drewN | apply IsS66.drew | apply IsS66.set_0 | refine IsS66.far ?_ NB296_278.out _ | refine IsS66.far ?_ NB296_292.out _) | exact HI296.out)) (by (with_reducible repeat (first | apply Kd.S_alloc | apply Kd.S_drewN | apply Kd.S_drew)); exact HO_279002.out) (by decide)) hk (fun _ h => h.2)) (fun _ h => h.1))
          have n3_ := Aside0.mk (Kd.R_mono (Kd.R_keep (IsS66.apart (show IsS66 w _ g296 x297000_2 from by repeat (first | (with_reducible first | exact HI296.out | apply IsS66.alloc | apply IsS66.drewN | apply IsS66.drew | apply IsS66.set_0 | refine IsS66.far ?_ NB296_278.out _ | refine IsS66.far ?_ NB296_292.out _) | exact HI296.out)) (by (with_reducible repeat (first | apply Kd.R_alloc | apply Kd.R_drewN | apply Kd.R_drew)); exact HO_293000.out) (by decide)) hk (fun _ h => h.2)) (fun _ h => h.1))
          have n4_ := Aside0.mk (Kd.R_mono (Kd.R_keep (IsS66.apart (show IsS66 w _ g296 x297000_2 from by repeat (first | (with_reducible first | exact HI296.out | apply IsS66.alloc | apply IsS66.drewN | apply IsS66.drew | apply IsS66.set_0 | refine IsS66.far ?_ NB296_278.out _ | refine IsS66.far ?_ NB296_292.out _) | exact HI296.out)) (by (with_reducible repeat (first | apply Kd.R_alloc | apply Kd.R_drewN | apply Kd.R_drew)); exact HO_293001.out) (by decide)) hk (fun _ h => h.2)) (fun _ h => h.1))
          have n5_ := Aside0.mk (KeepBut.blk hk (g' := gb278) (o := .cells #[u279000, u279001, .slice Ao13 t275.length co13] 70 (0, 0)) (by (with_reducible repeat (first | refine blk_drewN ?_ _ | refine blk_drew ?_ | refine blk_alloc ?_ _)); exact BK278.out) NB278_296.out (by simp))
          have n6_ := Aside0.mk (KeepBut.blk hk (g' := gb292) (o := .cells #[.slice (some ad297) x293000_2.length co56, .slice (some ad300) x293001_2.length co57] 79 (0, 0)) (by (with_reducible repeat (first | refine blk_drewN ?_ _ | refine blk_drew ?_ | refine blk_alloc ?_ _)); exact BK292.out) NB292_296.out (by simp))
          have n7_ := Aside0.mk (hb)
          have n8_ := Aside0.mk (hi)
          clear HO_279000
          clear HO_279001
          clear HO_279002
          clear HO_293000
          clear HO_293001
          clear BK278
          clear BK292
          clear HB
          clear HI296
          have HO_279000 := n0_
          have HO_279001 := n1_
          have HO_279002 := n2_
          have HO_293000 := n3_
          have HO_293001 := n4_
          have BK278 := n5_
          have BK292 := n6_
          have HB := n7_
          have HI296 := n8_
          clear n0_ n1_ n2_ n3_ n4_ n5_ n6_ n7_ n8_
          (try clear hb)
          (try clear hb2)
          (try clear hk)
          (try clear hi)
          refine hK.out _ _ ⟨(blk_cell BK292.out 0).trans rfl, (blk_cell BK292.out 1).trans rfl, HS2_, HS3_⟩ ⟨(blk_cell BK292.out 0).trans rfl, (blk_cell BK292.out 1).trans rfl, HS3_⟩ (fun hHeld hHeld2 => ?_)
          clear hK K
          refine normT_ (a' := ?_) ?_ ?_
          rotate_left
          ·show Act.put _ (some 89) _ = _
           simp only [Act.put, List.setIfInBounds_toArray, List.set_cons_zero, List.set_cons_succ, i64_w, i32_w]
           rfl
          refine pureT_ (i := 13) (N := some 90) (v := ?_) (a' := ?_) #[true, true, true, true, true, true, true, true, true, true, true, true, true, true, false, true, true, true, true, true, true, false, false, false, false, false, false, false] rfl rfl (by kernel_rfl) (fun _ _ _ h => h) (Or.inl ⟨by rfl, ?_⟩) ?_ ?_
          rotate_left
          ·intro w'
           go_simp
           with_reducible rfl
          rotate_left
          ·simp only [Act.put, List.setIfInBounds_toArray, List.set_cons_zero, List.set_cons_succ, i64_w, i32_w]
           rfl
          refine pureT_ (i := 14) (N := some 91) (v := ?_) (a' := ?_) #[true, true, true, true, true, true, true, true, true, true, true, true, true, true, true, true, true, true, true, true, true, false, false, false, false, false, false, false] rfl rfl (by kernel_rfl) (fun _ _ _ h => h) (Or.inl ⟨by rfl, ?_⟩) ?_ ?_
          rotate_left
          ·intro w'
           go_simp
           with_reducible rfl
          rotate_left
          ·simp only [Act.put, List.setIfInBounds_toArray, List.set_cons_zero, List.set_cons_succ, i64_w, i32_w]
           rfl
          refine oneT_ (i := 21) (N := some 98) #[true, true, true, true, true, true, true, true, true, true, true, true, true, true, true, true, true, true, true, true, true, true, false, false, false, false, false, false] rfl rfl (by kernel_rfl) (fun K hK => ?_)
          refine goes_ Try.func42 (by kernel_rfl) rfl #[.pointer (some ⟨g296, 0, none⟩), .int .i64 9] (by rfl) rfl rfl (by (try simp only [List.map_toArray, List.map_cons, List.map_nil]); first | done | rfl | (simp only [List.length_drop, List.length_take]; rfl)) ?_
          with_reducible refine (wrackmake_Stream_Next.calls g296 t299 9 t301 t302 w _ ?side1 ?side2 A52.out).mono ?_
          (case side1 => repeat (first | (with_reducible first | exact HI296.out | apply IsS66.alloc | apply IsS66.drewN | apply IsS66.drew | apply IsS66.set_0 | refine IsS66.far ?_ NB296_278.out _ | refine IsS66.far ?_ NB296_292.out _) | exact HI296.out))
          (case side2 => repeat (first | (with_reducible first | exact HB.out | apply below_alloc | apply pw_below_drewN | apply below_drew1 | refine below_set ?_ (IsS66.ge HI296.out) | refine below_set ?_ GE278.out | refine below_set ?_ GE292.out) | exact HB.out))
          rintro e w59 ⟨rfl, hi, hb, hk⟩
          have HS2_ := keep_cell hk (hHeld.2.2.1) (by first | (rw [add_block]; exact Kd.own_blk (IsS66.own_ne HI296.out HO_293000.out (by decide))) | (show (Addr.add _ _).block ≠ _; rw [add_block]; exact Kd.own_blk (IsS66.own_ne HI296.out HO_293000.out (by decide))) | exact Kd.own_blk (IsS66.own_ne HI296.out HO_293000.out (by decide)))
          have HS3_ := keep_cell hk (hHeld.2.2.2) (by first | (rw [add_block]; exact Kd.own_blk (IsS66.own_ne HI296.out HO_293001.out (by decide))) | (show (Addr.add _ _).block ≠ _; rw [add_block]; exact Kd.own_blk (IsS66.own_ne HI296.out HO_293001.out (by decide))) | exact Kd.own_blk (IsS66.own_ne HI296.out HO_293001.out (by decide)))
          refine ⟨_, rfl, ?_⟩
          have n0_ := Aside0.mk (Kd.R_mono (Kd.R_keep (IsS66.apart (show IsS66 w _ g296 t299 from by repeat (first | (with_reducible first | exact HI296.out | apply IsS66.alloc | apply IsS66.drewN | apply IsS66.drew | apply IsS66.set_0 | refine IsS66.far ?_ NB296_278.out _ | refine IsS66.far ?_ NB296_292.out _) | exact HI296.out)) (by (with_reducible repeat (first | apply Kd.R_alloc | apply Kd.R_drewN | apply Kd.R_drew)); exact HO_279000.out) (by decide)) hk (fun _ h => h.2)) (fun _ h => h.1))
          have n1_ := Aside0.mk (Kd.R_mono (Kd.R_keep (IsS66.apart (show IsS66 w _ g296 t299 from by repeat (first | (with_reducible first | exact HI296.out | apply IsS66.alloc | apply IsS66.drewN | apply IsS66.drew | apply IsS66.set_0 | refine IsS66.far ?_ NB296_278.out _ | refine IsS66.far ?_ NB296_292.out _) | exact HI296.out)) (by (with_reducible repeat (first | apply Kd.R_alloc | apply Kd.R_drewN | apply Kd.R_drew)); exact HO_279001.out) (by decide)) hk (fun _ h => h.2)) (fun _ h => h.1))
          have n2_ := Aside0.mk (Kd.S_mono (Kd.S_keep (IsS66.apartS (show IsS66 w _ g296 t299 from by repeat (first | (with_reducible first | exact HI296.out | apply IsS66.alloc | apply IsS66.drewN | apply IsS66.drew | apply IsS66.set_0 | refine IsS66.far ?_ NB296_278.out _ | refine IsS66.far ?_ NB296_292.out _) | exact HI296.out)) (by (with_reducible repeat (first | apply Kd.S_alloc | apply Kd.S_drewN | apply Kd.S_drew)); exact HO_279002.out) (by decide)) hk (fun _ h => h.2)) (fun _ h => h.1))
          have n3_ := Aside0.mk (Kd.R_mono (Kd.R_keep (IsS66.apart (show IsS66 w _ g296 t299 from by repeat (first | (with_reducible first | exact HI296.out | apply IsS66.alloc | apply IsS66.drewN | apply IsS66.drew | apply IsS66.set_0 | refine IsS66.far ?_ NB296_278.out _ | refine IsS66.far ?_ NB296_292.out _) | exact HI296.out)) (by (with_reducible repeat (first | apply Kd.R_alloc | apply Kd.R_drewN | apply Kd.R_drew)); exact HO_293000.out) (by decide)) hk (fun _ h => h.2)) (fun _ h => h.1))
          have n4_ := Aside0.mk (Kd.R_mono (Kd.R_keep (IsS66.apart (show IsS66 w _ g296 t299 from by repeat (first | (with_reducible first | exact HI296.out | apply IsS66.alloc | apply IsS66.drewN | apply IsS66.drew | apply IsS66.set_0 | refine IsS66.far ?_ NB296_278.out _ | refine IsS66.far ?_ NB296_292.out _) | exact HI296.out)) (by (with_reducible repeat (first | apply Kd.R_alloc | apply Kd.R_drewN | apply Kd.R_drew)); exact HO_293001.out) (by decide)) hk (fun _ h => h.2)) (fun _ h => h.1))
          have n5_ := Aside0.mk (KeepBut.blk hk (g' := gb278) (o := .cells #[u279000, u279001, .slice Ao13 t275.length co13] 70 (0, 0)) (by (with_reducible repeat (first | refine blk_drewN ?_ _ | refine blk_drew ?_ | refine blk_alloc ?_ _)); exact BK278.out) NB278_296.out (by simp))
          have n6_ := Aside0.mk (KeepBut.blk hk (g' := gb292) (o := .cells #[.slice (some ad297) x293000_2.length co56, .slice (some ad300) x293001_2.length co57] 79 (0, 0)) (by (with_reducible repeat (first | refine blk_drewN ?_ _ | refine blk_drew ?_ | refine blk_alloc ?_ _)); exact BK292.out) NB292_296.out (by simp))
          have n7_ := Aside0.mk (hb)
          have n8_ := Aside0.mk (hi)
          clear HO_279000
          clear HO_279001
          clear HO_279002
          clear HO_293000
          clear HO_293001
          clear BK278
          clear BK292
          clear HB
          clear HI296
          have HO_279000 := n0_
          have HO_279001 := n1_
          have HO_279002 := n2_
          have HO_293000 := n3_
          have HO_293001 := n4_
          have BK278 := n5_
          have BK292 := n6_
          have HB := n7_
          have HI296 := n8_
          clear n0_ n1_ n2_ n3_ n4_ n5_ n6_ n7_ n8_
          (try clear hb)
          (try clear hb2)
          (try clear hk)
          (try clear hi)
          have p53 : 0 ≤ (x74_2 : Int) := of_decide_eq_true (by first | (with_reducible assumption) | assumption)
          have q53 : (x74_2 : Int) < ((x293000_2.length : Int) : Int) := of_decide_eq_true (by first | (with_reducible assumption) | assumption)
          obtain ⟨go53, co53, eo53, gb53, gl53, cl53, HG53⟩ := Kd.R_form HO_293000.out (by omega)
          (first | cases eo53 | (injection eo53 with ea_ en_ ec_; (first | subst ea_ | (injection ea_ with ea_; subst ea_)); subst ec_; clear en_))
          have GB53 := Aside0.mk gb53
          have GG53 := Aside0.mk HG53
          clear gb53 gl53 HG53
          (first | simp only [add_plain] at hx297_0 | skip)
          obtain ⟨hx53_0, hf53_0⟩ := Kd.R_celln 0 HO_293000.out (x74_2 : Int) p53 q53
          replace p53 := eq_true p53
          replace q53 := eq_true q53
          have HN296_go53 := Aside0.mk (show g296 ≠ go53 from by have h_ := IsS66.own_ne HI296.out HO_293000.out (by decide); intro e_; exact h_ (by rw [e_]; rfl))
          have HP60 := Kd.R_putn HO_293000.out (x74_2 : Int) (wrap64 ((wrap64 ((rd x293000_2 x74_2) + t298)) - 2))
          rw [← Ny303.out] at HP60
          have HQ60 := Aside0.mk HP60
          clear HP60
          have p54 : 0 ≤ (x74_2 : Int) := of_decide_eq_true (by first | (with_reducible assumption) | assumption)
          have q54 : (x74_2 : Int) < ((x293001_2.length : Int) : Int) := of_decide_eq_true (by first | (with_reducible assumption) | assumption)
          obtain ⟨go54, co54, eo54, gb54, gl54, cl54, HG54⟩ := Kd.R_form HO_293001.out (by omega)
          (first | cases eo54 | (injection eo54 with ea_ en_ ec_; (first | subst ea_ | (injection ea_ with ea_; subst ea_)); subst ec_; clear en_))
          have GB54 := Aside0.mk gb54
          have GG54 := Aside0.mk HG54
          clear gb54 gl54 HG54
          (first | simp only [add_plain] at hx300_0 | skip)
          obtain ⟨hx54_0, hf54_0⟩ := Kd.R_celln 0 (Kd.R_far (p := ⟨go53, (x74_2 : Int).toNat, none⟩) (Kd.R_mono HO_293001.out (fun k_ hk => (⟨hk, fun e_ => hk.2.2 (by rw [e_]; rfl)⟩ : _ ∧ k_ ≠ go53))) (fun _ hk => hk.2) (.int .i64 (wrap64 ((wrap64 ((rd x293000_2 x74_2) + t298)) - 2)))) (x74_2 : Int) p54 q54
          replace p54 := eq_true p54
          replace q54 := eq_true q54
          have HN296_go54 := Aside0.mk (show g296 ≠ go54 from by have h_ := IsS66.own_ne HI296.out HO_293001.out (by decide); intro e_; exact h_ (by rw [e_]; rfl))
          have HP61 := Kd.R_putn (Kd.R_far (p := ⟨go53, (x74_2 : Int).toNat, none⟩) (Kd.R_mono HO_293001.out (fun k_ hk => (⟨hk, fun e_ => hk.2.2 (by rw [e_]; rfl)⟩ : _ ∧ k_ ≠ go53))) (fun _ hk => hk.2) (.int .i64 (wrap64 ((wrap64 ((rd x293000_2 x74_2) + t298)) - 2)))) (x74_2 : Int) (wrap64 ((wrap64 ((rd x293001_2 x74_2) + t301)) - 2))
          rw [← Ny304.out] at HP61
          have HQ61 := Aside0.mk HP61
          clear HP61
          refine hK.out _ _ ⟨(blk_cell BK292.out 0).trans rfl, (blk_cell BK292.out 1).trans rfl, HS2_, HS3_⟩ ⟨(blk_cell BK292.out 0).trans rfl, (blk_cell BK292.out 1).trans rfl, HS3_⟩ (fun hHeld hHeld2 => ?_)
          clear hK K
          refine normT_ (a' := ?_) ?_ ?_
          rotate_left
          ·show Act.put _ (some 98) _ = _
           simp only [Act.put, List.setIfInBounds_toArray, List.set_cons_zero, List.set_cons_succ, i64_w, i32_w]
           rfl
          refine pureT_ (i := 22) (N := some 99) (v := ?_) (a' := ?_) #[true, true, true, true, true, true, true, true, true, true, true, true, true, true, true, true, true, true, true, true, true, true, true, false, false, false, false, false] rfl rfl (by kernel_rfl) (fun _ _ _ h => h) (Or.inl ⟨by rfl, ?_⟩) ?_ ?_
          rotate_left
          ·intro w'
           go_simp
           with_reducible rfl
          rotate_left
          ·simp only [Act.put, List.setIfInBounds_toArray, List.set_cons_zero, List.set_cons_succ, i64_w, i32_w]
           rfl
          refine pureT_ (i := 23) (N := some 100) (v := ?_) (a' := ?_) #[true, true, true, true, true, true, true, true, true, true, true, true, true, true, true, true, true, true, true, true, true, true, true, true, false, false, false, false] rfl rfl (by kernel_rfl) (fun _ _ _ h => h) (Or.inl ⟨by rfl, ?_⟩) ?_ ?_
          rotate_left
          ·intro w'
           go_simp
           with_reducible rfl
          rotate_left
          ·simp only [Act.put, List.setIfInBounds_toArray, List.set_cons_zero, List.set_cons_succ, i64_w, i32_w]
           rfl
          refine pureT_ (i := 24) (N := some 101) (v := ?_) (a' := ?_) #[true, true, true, true, true, true, true, true, true, true, true, true, true, true, true, true, true, true, true, true, true, true, true, true, true, false, false, false] rfl rfl (by kernel_rfl) (fun _ _ _ h => h) (Or.inl ⟨by rfl, ?_⟩) ?_ ?_
          rotate_left
          ·intro w'
           go_simp
           with_reducible rfl
          rotate_left
          ·simp only [Act.put, List.setIfInBounds_toArray, List.set_cons_zero, List.set_cons_succ, i64_w, i32_w]
           rfl
          refine midT_ (i := 25) (N := none) #[true, true, true, true, true, true, true, true, true, true, true, true, true, true, true, true, true, true, true, true, true, true, true, true, true, true, false, false] rfl rfl (by kernel_rfl) (by decide) (fun K hK => ?_)
          refine skip_ (w1 := ?_) (by rfl) rfl ?_ ?_
          rotate_left
          ·go_simp
           rfl
          refine hK.out _ _ ⟨(by first | exact (cell_far (by have h_ := Kd.R_ne HO_293000.out BK292.out (by decide); first | exact Kd.own_blk h_ | (intro e_; exact h_ (by rw [← e_]; rfl)) | (intro e_; exact h_ (by rw [e_]; rfl)) | exact fun e_ => h_ (congrArg some e_)) _).trans (hHeld2.1) | assumption), (by first | exact (cell_far (by have h_ := Kd.R_ne HO_293000.out BK292.out (by decide); first | exact Kd.own_blk h_ | (intro e_; exact h_ (by rw [← e_]; rfl)) | (intro e_; exact h_ (by rw [e_]; rfl)) | exact fun e_ => h_ (congrArg some e_)) _).trans (hHeld2.2.1) | assumption), (by first | assumption | (simp only [add_plain]; assumption))⟩ (fun hHeld2 => ?_)
          clear hK K
          refine pureT_ (i := 26) (N := some 102) (v := ?_) (a' := ?_) #[true, true, true, true, true, true, true, true, true, true, true, true, true, true, true, true, true, true, true, true, true, true, true, true, true, true, true, false] rfl rfl (by kernel_rfl) (fun _ _ _ h => h) (Or.inl ⟨by rfl, ?_⟩) ?_ ?_
          rotate_left
          ·intro w'
           go_simp
           with_reducible rfl
          rotate_left
          ·simp only [Act.put, List.setIfInBounds_toArray, List.set_cons_zero, List.set_cons_succ, i64_w, i32_w]
           rfl
          refine lastT_ (i := 27) (N := none) #[true, true, true, true, true, true, true, true, true, true, true, true, true, true, true, true, true, true, true, true, true, true, true, true, true, true, true, true] rfl rfl (by kernel_rfl) (by decide) (by decide) (fun K hK => ?_)
          refine skip_ (w1 := ?_) (by rfl) rfl ?_ ?_
          rotate_left
          ·go_simp
           rfl
          refine hK.out _ _ ?_
          clear hK K
          refine doneT_ (by kernel_rfl) ?_ _
          try go_wp2
          go_roundg k2
          case measure => have := HJ6.out; have := HK2.out; omega
          case rel => exact ⟨(wrap64 (x74_2 + 1)), (x279000_2), (x279001_2), (y303), (y304), (t302), (u279000), (u279001), (.slice (some ⟨go53, 0, none⟩) x293000_2.length co56), (.slice (some ⟨go54, 0, none⟩) x293001_2.length co57), (by first | rfl | (simp; done) | (simp [*]; done)), H', ⟨by have := HJ6.out; have := HK2.out; omega⟩, ⟨by (with_reducible repeat (first | apply Kd.R_alloc | apply Kd.R_drewN | apply Kd.R_drew)); exact Kd.R_mono (Kd.R_far (p := ⟨go54, (x74_2 : Int).toNat, none⟩) (Kd.R_far (p := ⟨go53, (x74_2 : Int).toNat, none⟩) (Kd.R_mono (Kd.R_mono HO_279000.out (fun k_ hk => (⟨hk, fun e_ => hk.2.1 (by rw [e_]; rfl)⟩ : _ ∧ k_ ≠ go53))) (fun k_ hk => (⟨hk, fun e_ => hk.1.2.2 (by rw [e_]; rfl)⟩ : _ ∧ k_ ≠ go54))) (fun _ hk => hk.1.2) (.int .i64 (wrap64 ((wrap64 ((rd x293000_2 x74_2) + t298)) - 2)))) (fun _ hk => hk.2) (.int .i64 (wrap64 ((wrap64 ((rd x293001_2 x74_2) + t301)) - 2)))) (fun _ hk => ⟨hk.1.1.1, ⟨hk.1.1.2.1, hk.1.1.2.2⟩⟩)⟩, ⟨by (with_reducible repeat (first | apply Kd.R_alloc | apply Kd.R_drewN | apply Kd.R_drew)); exact Kd.R_mono (Kd.R_far (p := ⟨go54, (x74_2 : Int).toNat, none⟩) (Kd.R_far (p := ⟨go53, (x74_2 : Int).toNat, none⟩) (Kd.R_mono (Kd.R_mono HO_279001.out (fun k_ hk => (⟨hk, fun e_ => hk.2.1 (by rw [e_]; rfl)⟩ : _ ∧ k_ ≠ go53))) (fun k_ hk => (⟨hk, fun e_ => hk.1.2.2 (by rw [e_]; rfl)⟩ : _ ∧ k_ ≠ go54))) (fun _ hk => hk.1.2) (.int .i64 (wrap64 ((wrap64 ((rd x293000_2 x74_2) + t298)) - 2)))) (fun _ hk => hk.2) (.int .i64 (wrap64 ((wrap64 ((rd x293001_2 x74_2) + t301)) - 2)))) (fun _ hk => ⟨hk.1.1.1, ⟨hk.1.1.2.1, hk.1.1.2.2⟩⟩)⟩, ⟨by (with_reducible repeat (first | apply Kd.S_alloc | apply Kd.S_drewN | apply Kd.S_drew)); exact Kd.S_mono (Kd.S_far (p := ⟨go54, (x74_2 : Int).toNat, none⟩) (Kd.S_far (p := ⟨go53, (x74_2 : Int).toNat, none⟩) (Kd.S_mono (Kd.S_mono HO_279002.out (fun k_ hk => (⟨hk, fun e_ => hk.2.2.1 (by rw [e_]; rfl)⟩ : _ ∧ k_ ≠ go53))) (fun k_ hk => (⟨hk, fun e_ => hk.1.2.2.2 (by rw [e_]; rfl)⟩ : _ ∧ k_ ≠ go54))) (fun _ hk => hk.1.2) (.int .i64 (wrap64 ((wrap64 ((rd x293000_2 x74_2) + t298)) - 2)))) (fun _ hk => hk.2) (.int .i64 (wrap64 ((wrap64 ((rd x293001_2 x74_2) + t301)) - 2)))) (fun _ hk => ⟨hk.1.1.1, ⟨hk.1.1.2.1, ⟨hk.1.1.2.2.1, hk.1.1.2.2.2⟩⟩⟩)⟩, ⟨by (with_reducible repeat (first | apply Kd.R_alloc | apply Kd.R_drewN | apply Kd.R_drew)); exact Kd.R_mono (Kd.R_far (p := ⟨go54, (x74_2 : Int).toNat, none⟩) (Kd.R_mono HQ60.out (fun k_ hk => (⟨hk, fun e_ => hk.2.2 (by rw [e_]; rfl)⟩ : _ ∧ k_ ≠ go54))) (fun _ hk => hk.2) (.int .i64 (wrap64 ((wrap64 ((rd x293001_2 x74_2) + t301)) - 2)))) (fun _ hk => ⟨hk.1.1, ⟨hk.1.2.1, hk.1.2.2⟩⟩)⟩, ⟨by (with_reducible repeat (first | apply Kd.R_alloc | apply Kd.R_drewN | apply Kd.R_drew)); exact Kd.R_mono HQ61.out (fun _ hk => ⟨hk.1.1, ⟨hk.1.2.1, hk.1.2.2⟩⟩)⟩, ⟨by (with_reducible repeat (first | refine blk_drewN ?_ _ | refine blk_drew ?_ | refine blk_alloc ?_ _)); refine blk_far ?_ (by have h_ := Kd.R_ne HO_293001.out BK278.out (by decide); intro e_; exact h_ (by rw [e_]; rfl)) _; (with_reducible repeat (first | refine blk_drewN ?_ _ | refine blk_drew ?_ | refine blk_alloc ?_ _)); refine blk_far ?_ (by have h_ := Kd.R_ne HO_293000.out BK278.out (by decide); intro e_; exact h_ (by rw [e_]; rfl)) _; (with_reducible repeat (first | refine blk_drewN ?_ _ | refine blk_drew ?_ | refine blk_alloc ?_ _)); exact BK278.out⟩, ⟨by (with_reducible repeat (first | refine blk_drewN ?_ _ | refine blk_drew ?_ | refine blk_alloc ?_ _)); refine blk_far ?_ (by have h_ := Kd.R_ne HO_293001.out BK292.out (by decide); intro e_; exact h_ (by rw [e_]; rfl)) _; (with_reducible repeat (first | refine blk_drewN ?_ _ | refine blk_drew ?_ | refine blk_alloc ?_ _)); refine blk_far ?_ (by have h_ := Kd.R_ne HO_293000.out BK292.out (by decide); intro e_; exact h_ (by rw [e_]; rfl)) _; (with_reducible repeat (first | refine blk_drewN ?_ _ | refine blk_drew ?_ | refine blk_alloc ?_ _)); exact BK292.out⟩, ⟨by repeat (first | (with_reducible first | exact HI296.out | apply IsS66.alloc | apply IsS66.drewN | apply IsS66.drew | apply IsS66.set_0 | refine IsS66.far ?_ HN296_go53.out _ | refine IsS66.far ?_ HN296_go54.out _ | refine IsS66.far ?_ NB296_278.out _ | refine IsS66.far ?_ NB296_292.out _) | exact HI296.out)⟩, ⟨by repeat (first | (with_reducible first | exact HB.out | apply below_alloc | apply pw_below_drewN | apply below_drew1 | refine below_set ?_ GB53.out | refine below_set ?_ GB54.out | refine below_set ?_ (IsS66.ge HI296.out) | refine below_set ?_ GE278.out | refine below_set ?_ GE292.out) | exact HB.out)⟩⟩
         ·rw [if_neg c51] at H
          exact absurd H (by simp)
        ·rw [if_neg c49] at H
         exact absurd H (by simp)
       ·rw [if_neg c48] at H
        exact absurd H (by simp)
      ·rw [if_neg c47] at H
       have c47b0 : decide (x74_2 < (t284.length : Int)) = false := decide_eq_false c47
       clear c47
       replace H := Option.bind_eq_some_iff.mp H
       obtain ⟨⟨t305, t306⟩, A620, H⟩ := H
       replace H : (if t306 = 17 then (some true) else (if t306 = 0 then (if (x279000_2.length : Int) = 0 then (some true) else (some (decide (t282 ≤ t305)))) else (some false))) = some r := H
       have A62 := Aside0.mk A620
       clear A620
       by_cases c63 : t306 = 17
       ·rw [if_pos c63] at H
        have c63b0 : (t306 == 17) = true := beq_iff_eq.mpr c63
        have c63b1 : (t306 != 17) = false := bne_eq_false_iff_eq.mpr c63
        clear c63
        obtain rfl := Option.some.inj H
        have hnb64 := NB278_292.out
        have hnc64 := NB292_278.out
        have hnb65 := NB278_296.out
        have hnc65 := NB296_278.out
        have hcz66_0 : wr.cell? ⟨gb278, 0, none⟩ = some (u279000) := (blk_cell BK278.out 0).trans rfl
        have hcz66_1 : wr.cell? ⟨gb278, 1, none⟩ = some (u279001) := (blk_cell BK278.out 1).trans rfl
        have hcz66_2 : wr.cell? ⟨gb278, 2, none⟩ = some (.slice Ao13 t275.length co13) := (blk_cell BK278.out 2).trans rfl
        have hfz66_0 := blk_frozen BK278.out 0
        have hfz66_1 := blk_frozen BK278.out 1
        have hfz66_2 := blk_frozen BK278.out 2
        have hnb67 := NB292_296.out
        have hnc67 := NB296_292.out
        have hcz68_0 : wr.cell? ⟨gb292, 0, none⟩ = some (u293000) := (blk_cell BK292.out 0).trans rfl
        have hcz68_1 : wr.cell? ⟨gb292, 1, none⟩ = some (u293001) := (blk_cell BK292.out 1).trans rfl
        have hfz68_0 := blk_frozen BK292.out 0
        have hfz68_1 := blk_frozen BK292.out 1
        obtain ⟨Ao69, co69, eo69⟩ := Kd.R_slice HO_279000.out
        subst eo69
        obtain ⟨Ao70, co70, eo70⟩ := Kd.R_slice HO_279001.out
        subst eo70
        obtain ⟨Ao71, co71, eo71⟩ := Kd.R_slice HO_293000.out
        subst eo71
        obtain ⟨Ao72, co72, eo72⟩ := Kd.R_slice HO_293001.out
        subst eo72
        go_wp2_with (first | ((with_reducible refine gate_callee (f := 50) rfl ?_); refine goesL_ (some 107) rfl rfl Try.func50 (by kernel_rfl) rfl #[.agg #[.slice Ao69 x279000_2.length co69, .slice Ao70 x279001_2.length co70, .slice Ao13 t275.length co13], .agg #[.slice Ao71 x293000_2.length co71, .slice Ao72 x293001_2.length co72]] rfl (by (try simp only [List.map_toArray, List.map_cons, List.map_nil]); first | done | rfl | (simp only [List.length_drop, List.length_take]; rfl)) ?_; (with_reducible refine (piece_Holds.calls k2 _ _ x279000_2 _ _ x279001_2 _ _ t275 _ _ x293000_2 _ _ x293001_2 t305 t306 _ ?side1 ?side2 ?side3 ?side4 ?side5 ?side6 ?side7 ?side8 ?side9 ?side10 A62.out).mono ?_); (case side1 => repeat (first | exact (Kd.R_reads' HO_279000.out).2.2 | (with_reducible refine Kd.C_alloc ?_ _) | (with_reducible refine Kd.C_drewN ?_ _) | (with_reducible refine Kd.C_drew ?_))); (case side2 => exact (Kd.R_reads' HO_279000.out).2.1); (case side3 => repeat (first | exact (Kd.R_reads' HO_279001.out).2.2 | (with_reducible refine Kd.C_alloc ?_ _) | (with_reducible refine Kd.C_drewN ?_ _) | (with_reducible refine Kd.C_drew ?_))); (case side4 => exact (Kd.R_reads' HO_279001.out).2.1); (case side5 => repeat (first | exact (Kd.S_reads' HO_279002.out).2.2 | (with_reducible refine Kd.C_alloc ?_ _) | (with_reducible refine Kd.C_drewN ?_ _) | (with_reducible refine Kd.C_drew ?_))); (case side6 => exact (Kd.S_reads' HO_279002.out).2.1); (case side7 => repeat (first | exact (Kd.R_reads' HO_293000.out).2.2 | (with_reducible refine Kd.C_alloc ?_ _) | (with_reducible refine Kd.C_drewN ?_ _) | (with_reducible refine Kd.C_drew ?_))); (case side8 => exact (Kd.R_reads' HO_293000.out).2.1); (case side9 => repeat (first | exact (Kd.R_reads' HO_293001.out).2.2 | (with_reducible refine Kd.C_alloc ?_ _) | (with_reducible refine Kd.C_drewN ?_ _) | (with_reducible refine Kd.C_drew ?_))); (case side10 => exact (Kd.R_reads' HO_293001.out).2.1); rintro e w73 ⟨rfl, hb⟩; refine ⟨_, rfl, ?_⟩; have n0_ := Aside0.mk (Kd.R_below (by (with_reducible repeat (first | apply Kd.R_alloc | apply Kd.R_drewN | apply Kd.R_drew)); exact HO_279000.out) hb); have n1_ := Aside0.mk (Kd.R_below (by (with_reducible repeat (first | apply Kd.R_alloc | apply Kd.R_drewN | apply Kd.R_drew)); exact HO_279001.out) hb); have n2_ := Aside0.mk (Kd.S_below (by (with_reducible repeat (first | apply Kd.S_alloc | apply Kd.S_drewN | apply Kd.S_drew)); exact HO_279002.out) hb); have n3_ := Aside0.mk (Kd.R_below (by (with_reducible repeat (first | apply Kd.R_alloc | apply Kd.R_drewN | apply Kd.R_drew)); exact HO_293000.out) hb); have n4_ := Aside0.mk (Kd.R_below (by (with_reducible repeat (first | apply Kd.R_alloc | apply Kd.R_drewN | apply Kd.R_drew)); exact HO_293001.out) hb); have n5_ := Aside0.mk (blk_below (g := gb278) (o := .cells #[.slice Ao69 x279000_2.length co69, .slice Ao70 x279001_2.length co70, .slice Ao13 t275.length co13] 70 (0, 0)) (by (with_reducible repeat (first | refine blk_drewN ?_ _ | refine blk_drew ?_ | refine blk_alloc ?_ _)); exact BK278.out) hb); have n6_ := Aside0.mk (blk_below (g := gb292) (o := .cells #[.slice Ao71 x293000_2.length co71, .slice Ao72 x293001_2.length co72] 79 (0, 0)) (by (with_reducible repeat (first | refine blk_drewN ?_ _ | refine blk_drew ?_ | refine blk_alloc ?_ _)); exact BK292.out) hb); have n7_ := Aside0.mk (IsS66.below (by repeat (first | (with_reducible first | exact HI296.out | apply IsS66.alloc | apply IsS66.drewN | apply IsS66.drew | apply IsS66.set_0 | refine IsS66.far ?_ NB296_278.out _ | refine IsS66.far ?_ NB296_292.out _) | exact HI296.out)) hb); have n8_ := Aside0.mk (below_step (by repeat (first | (with_reducible first | exact HB.out | apply below_alloc | apply pw_below_drewN | apply below_drew1 | refine below_set ?_ (IsS66.ge HI296.out) | refine below_set ?_ GE278.out | refine below_set ?_ GE292.out) | exact HB.out)) hb); clear HO_279000; clear HO_279001; clear HO_279002; clear HO_293000; clear HO_293001; clear BK278; clear BK292; clear HI296; clear HB; have HO_279000 := n0_; have HO_279001 := n1_; have HO_279002 := n2_; have HO_293000 := n3_; have HO_293001 := n4_; have BK278 := n5_; have BK292 := n6_; have HI296 := n7_; have HB := n8_; clear n0_ n1_ n2_ n3_ n4_ n5_ n6_ n7_ n8_; (try clear hb); (try clear hb2); (try clear hk); (try clear hi)))
        go_ret
        exact ⟨by first | rfl | (simp [errW_none, errW_some] <;> rfl) | (simp [*, errW_none, errW_some] <;> rfl), by repeat (first | (with_reducible first | exact HB.out | apply below_alloc | apply pw_below_drewN | apply below_drew1 | refine below_set ?_ (IsS66.ge HI296.out) | refine below_set ?_ GE278.out | refine below_set ?_ GE292.out) | exact HB.out)⟩
       ·rw [if_neg c63] at H
        have c63b0 : (t306 == 17) = false := beq_eq_false_iff_ne.mpr c63
        have c63b1 : (t306 != 17) = true := bne_iff_ne.mpr c63
        by_cases c74 : t306 = 0
        ·rw [if_pos c74] at H
         have c74b0 : (t306 == 0) = true := beq_iff_eq.mpr c74
         have c74b1 : (t306 != 0) = false := bne_eq_false_iff_eq.mpr c74
         clear c74
         by_cases c75 : (x279000_2.length : Int) = 0
         ·rw [if_pos c75] at H
          have c75b0 : ((x279000_2.length : Int) == 0) = true := beq_iff_eq.mpr c75
          have c75b1 : ((x279000_2.length : Int) != 0) = false := bne_eq_false_iff_eq.mpr c75
          clear c75
          obtain rfl := Option.some.inj H
          have hnb76 := NB278_292.out
          have hnc76 := NB292_278.out
          have hnb77 := NB278_296.out
          have hnc77 := NB296_278.out
          have hcz78_0 : wr.cell? ⟨gb278, 0, none⟩ = some (u279000) := (blk_cell BK278.out 0).trans rfl
          have hcz78_1 : wr.cell? ⟨gb278, 1, none⟩ = some (u279001) := (blk_cell BK278.out 1).trans rfl
          have hcz78_2 : wr.cell? ⟨gb278, 2, none⟩ = some (.slice Ao13 t275.length co13) := (blk_cell BK278.out 2).trans rfl
          have hfz78_0 := blk_frozen BK278.out 0
          have hfz78_1 := blk_frozen BK278.out 1
          have hfz78_2 := blk_frozen BK278.out 2
          have hnb79 := NB292_296.out
          have hnc79 := NB296_292.out
          have hcz80_0 : wr.cell? ⟨gb292, 0, none⟩ = some (u293000) := (blk_cell BK292.out 0).trans rfl
          have hcz80_1 : wr.cell? ⟨gb292, 1, none⟩ = some (u293001) := (blk_cell BK292.out 1).trans rfl
          have hfz80_0 := blk_frozen BK292.out 0
          have hfz80_1 := blk_frozen BK292.out 1
          obtain ⟨Ao81, co81, eo81⟩ := Kd.R_slice HO_279000.out
          subst eo81
          obtain ⟨Ao82, co82, eo82⟩ := Kd.R_slice HO_279001.out
          subst eo82
          obtain ⟨Ao83, co83, eo83⟩ := Kd.R_slice HO_293000.out
          subst eo83
          obtain ⟨Ao84, co84, eo84⟩ := Kd.R_slice HO_293001.out
          subst eo84
          go_wp2_with (first | ((with_reducible refine gate_callee (f := 50) rfl ?_); refine goesL_ (some 107) rfl rfl Try.func50 (by kernel_rfl) rfl #[.agg #[.slice Ao81 x279000_2.length co81, .slice Ao82 x279001_2.length co82, .slice Ao13 t275.length co13], .agg #[.slice Ao83 x293000_2.length co83, .slice Ao84 x293001_2.length co84]] rfl (by (try simp only [List.map_toArray, List.map_cons, List.map_nil]); first | done | rfl | (simp only [List.length_drop, List.length_take]; rfl)) ?_; (with_reducible refine (piece_Holds.calls k2 _ _ x279000_2 _ _ x279001_2 _ _ t275 _ _ x293000_2 _ _ x293001_2 t305 t306 _ ?side1 ?side2 ?side3 ?side4 ?side5 ?side6 ?side7 ?side8 ?side9 ?side10 A62.out).mono ?_); (case side1 => repeat (first | exact (Kd.R_reads' HO_279000.out).2.2 | (with_reducible refine Kd.C_alloc ?_ _) | (with_reducible refine Kd.C_drewN ?_ _) | (with_reducible refine Kd.C_drew ?_))); (case side2 => exact (Kd.R_reads' HO_279000.out).2.1); (case side3 => repeat (first | exact (Kd.R_reads' HO_279001.out).2.2 | (with_reducible refine Kd.C_alloc ?_ _) | (with_reducible refine Kd.C_drewN ?_ _) | (with_reducible refine Kd.C_drew ?_))); (case side4 => exact (Kd.R_reads' HO_279001.out).2.1); (case side5 => repeat (first | exact (Kd.S_reads' HO_279002.out).2.2 | (with_reducible refine Kd.C_alloc ?_ _) | (with_reducible refine Kd.C_drewN ?_ _) | (with_reducible refine Kd.C_drew ?_))); (case side6 => exact (Kd.S_reads' HO_279002.out).2.1); (case side7 => repeat (first | exact (Kd.R_reads' HO_293000.out).2.2 | (with_reducible refine Kd.C_alloc ?_ _) | (with_reducible refine Kd.C_drewN ?_ _) | (with_reducible refine Kd.C_drew ?_))); (case side8 => exact (Kd.R_reads' HO_293000.out).2.1); (case side9 => repeat (first | exact (Kd.R_reads' HO_293001.out).2.2 | (with_reducible refine Kd.C_alloc ?_ _) | (with_reducible refine Kd.C_drewN ?_ _) | (with_reducible refine Kd.C_drew ?_))); (case side10 => exact (Kd.R_reads' HO_293001.out).2.1); rintro e w85 ⟨rfl, hb⟩; refine ⟨_, rfl, ?_⟩; have n0_ := Aside0.mk (Kd.R_below (by (with_reducible repeat (first | apply Kd.R_alloc | apply Kd.R_drewN | apply Kd.R_drew)); exact HO_279000.out) hb); have n1_ := Aside0.mk (Kd.R_below (by (with_reducible repeat (first | apply Kd.R_alloc | apply Kd.R_drewN | apply Kd.R_drew)); exact HO_279001.out) hb); have n2_ := Aside0.mk (Kd.S_below (by (with_reducible repeat (first | apply Kd.S_alloc | apply Kd.S_drewN | apply Kd.S_drew)); exact HO_279002.out) hb); have n3_ := Aside0.mk (Kd.R_below (by (with_reducible repeat (first | apply Kd.R_alloc | apply Kd.R_drewN | apply Kd.R_drew)); exact HO_293000.out) hb); have n4_ := Aside0.mk (Kd.R_below (by (with_reducible repeat (first | apply Kd.R_alloc | apply Kd.R_drewN | apply Kd.R_drew)); exact HO_293001.out) hb); have n5_ := Aside0.mk (blk_below (g := gb278) (o := .cells #[.slice Ao81 x279000_2.length co81, .slice Ao82 x279001_2.length co82, .slice Ao13 t275.length co13] 70 (0, 0)) (by (with_reducible repeat (first | refine blk_drewN ?_ _ | refine blk_drew ?_ | refine blk_alloc ?_ _)); exact BK278.out) hb); have n6_ := Aside0.mk (blk_below (g := gb292) (o := .cells #[.slice Ao83 x293000_2.length co83, .slice Ao84 x293001_2.length co84] 79 (0, 0)) (by (with_reducible repeat (first | refine blk_drewN ?_ _ | refine blk_drew ?_ | refine blk_alloc ?_ _)); exact BK292.out) hb); have n7_ := Aside0.mk (IsS66.below (by repeat (first | (with_reducible first | exact HI296.out | apply IsS66.alloc | apply IsS66.drewN | apply IsS66.drew | apply IsS66.set_0 | refine IsS66.far ?_ NB296_278.out _ | refine IsS66.far ?_ NB296_292.out _) | exact HI296.out)) hb); have n8_ := Aside0.mk (below_step (by repeat (first | (with_reducible first | exact HB.out | apply below_alloc | apply pw_below_drewN | apply below_drew1 | refine below_set ?_ (IsS66.ge HI296.out) | refine below_set ?_ GE278.out | refine below_set ?_ GE292.out) | exact HB.out)) hb); clear HO_279000; clear HO_279001; clear HO_279002; clear HO_293000; clear HO_293001; clear BK278; clear BK292; clear HI296; clear HB; have HO_279000 := n0_; have HO_279001 := n1_; have HO_279002 := n2_; have HO_293000 := n3_; have HO_293001 := n4_; have BK278 := n5_; have BK292 := n6_; have HI296 := n7_; have HB := n8_; clear n0_ n1_ n2_ n3_ n4_ n5_ n6_ n7_ n8_; (try clear hb); (try clear hb2); (try clear hk); (try clear hi); have hcz86_0 : w85.cell? ⟨gb278, 0, none⟩ = some (.slice Ao81 x279000_2.length co81) := (blk_cell BK278.out 0).trans rfl; have hcz86_1 : w85.cell? ⟨gb278, 1, none⟩ = some (.slice Ao82 x279001_2.length co82) := (blk_cell BK278.out 1).trans rfl; have hcz86_2 : w85.cell? ⟨gb278, 2, none⟩ = some (.slice Ao13 t275.length co13) := (blk_cell BK278.out 2).trans rfl; have hfz86_0 := blk_frozen BK278.out 0; have hfz86_1 := blk_frozen BK278.out 1; have hfz86_2 := blk_frozen BK278.out 2))
          go_ret
          exact ⟨by first | rfl | (simp [errW_none, errW_some] <;> rfl) | (simp [*, errW_none, errW_some] <;> rfl), by repeat (first | (with_reducible first | exact HB.out | apply below_alloc | apply pw_below_drewN | apply below_drew1 | refine below_set ?_ (IsS66.ge HI296.out) | refine below_set ?_ GE278.out | refine below_set ?_ GE292.out) | exact HB.out)⟩
         ·rw [if_neg c75] at H
          have c75b0 : ((x279000_2.length : Int) == 0) = false := beq_eq_false_iff_ne.mpr c75
          have c75b1 : ((x279000_2.length : Int) != 0) = true := bne_iff_ne.mpr c75
          have c75b2 : ¬ (x279000_2 = []) := fun h_ => c75 (by rw [h_]; rfl)
          obtain rfl := Option.some.inj H
          have hnb87 := NB278_292.out
          have hnc87 := NB292_278.out
          have hnb88 := NB278_296.out
          have hnc88 := NB296_278.out
          have hcz89_0 : wr.cell? ⟨gb278, 0, none⟩ = some (u279000) := (blk_cell BK278.out 0).trans rfl
          have hcz89_1 : wr.cell? ⟨gb278, 1, none⟩ = some (u279001) := (blk_cell BK278.out 1).trans rfl
          have hcz89_2 : wr.cell? ⟨gb278, 2, none⟩ = some (.slice Ao13 t275.length co13) := (blk_cell BK278.out 2).trans rfl
          have hfz89_0 := blk_frozen BK278.out 0
          have hfz89_1 := blk_frozen BK278.out 1
          have hfz89_2 := blk_frozen BK278.out 2
          have hnb90 := NB292_296.out
          have hnc90 := NB296_292.out
          have hcz91_0 : wr.cell? ⟨gb292, 0, none⟩ = some (u293000) := (blk_cell BK292.out 0).trans rfl
          have hcz91_1 : wr.cell? ⟨gb292, 1, none⟩ = some (u293001) := (blk_cell BK292.out 1).trans rfl
          have hfz91_0 := blk_frozen BK292.out 0
          have hfz91_1 := blk_frozen BK292.out 1
          obtain ⟨Ao92, co92, eo92⟩ := Kd.R_slice HO_279000.out
          subst eo92
          obtain ⟨Ao93, co93, eo93⟩ := Kd.R_slice HO_279001.out
          subst eo93
          obtain ⟨Ao94, co94, eo94⟩ := Kd.R_slice HO_293000.out
          subst eo94
          obtain ⟨Ao95, co95, eo95⟩ := Kd.R_slice HO_293001.out
          subst eo95
          go_wp2_with (first | ((with_reducible refine gate_callee (f := 50) rfl ?_); refine goesL_ (some 107) rfl rfl Try.func50 (by kernel_rfl) rfl #[.agg #[.slice Ao92 x279000_2.length co92, .slice Ao93 x279001_2.length co93, .slice Ao13 t275.length co13], .agg #[.slice Ao94 x293000_2.length co94, .slice Ao95 x293001_2.length co95]] rfl (by (try simp only [List.map_toArray, List.map_cons, List.map_nil]); first | done | rfl | (simp only [List.length_drop, List.length_take]; rfl)) ?_; (with_reducible refine (piece_Holds.calls k2 _ _ x279000_2 _ _ x279001_2 _ _ t275 _ _ x293000_2 _ _ x293001_2 t305 t306 _ ?side1 ?side2 ?side3 ?side4 ?side5 ?side6 ?side7 ?side8 ?side9 ?side10 A62.out).mono ?_); (case side1 => repeat (first | exact (Kd.R_reads' HO_279000.out).2.2 | (with_reducible refine Kd.C_alloc ?_ _) | (with_reducible refine Kd.C_drewN ?_ _) | (with_reducible refine Kd.C_drew ?_))); (case side2 => exact (Kd.R_reads' HO_279000.out).2.1); (case side3 => repeat (first | exact (Kd.R_reads' HO_279001.out).2.2 | (with_reducible refine Kd.C_alloc ?_ _) | (with_reducible refine Kd.C_drewN ?_ _) | (with_reducible refine Kd.C_drew ?_))); (case side4 => exact (Kd.R_reads' HO_279001.out).2.1); (case side5 => repeat (first | exact (Kd.S_reads' HO_279002.out).2.2 | (with_reducible refine Kd.C_alloc ?_ _) | (with_reducible refine Kd.C_drewN ?_ _) | (with_reducible refine Kd.C_drew ?_))); (case side6 => exact (Kd.S_reads' HO_279002.out).2.1); (case side7 => repeat (first | exact (Kd.R_reads' HO_293000.out).2.2 | (with_reducible refine Kd.C_alloc ?_ _) | (with_reducible refine Kd.C_drewN ?_ _) | (with_reducible refine Kd.C_drew ?_))); (case side8 => exact (Kd.R_reads' HO_293000.out).2.1); (case side9 => repeat (first | exact (Kd.R_reads' HO_293001.out).2.2 | (with_reducible refine Kd.C_alloc ?_ _) | (with_reducible refine Kd.C_drewN ?_ _) | (with_reducible refine Kd.C_drew ?_))); (case side10 => exact (Kd.R_reads' HO_293001.out).2.1); rintro e w96 ⟨rfl, hb⟩; refine ⟨_, rfl, ?_⟩; have n0_ := Aside0.mk (Kd.R_below (by (with_reducible repeat (first | apply Kd.R_alloc | apply Kd.R_drewN | apply Kd.R_drew)); exact HO_279000.out) hb); have n1_ := Aside0.mk (Kd.R_below (by (with_reducible repeat (first | apply Kd.R_alloc | apply Kd.R_drewN | apply Kd.R_drew)); exact HO_279001.out) hb); have n2_ := Aside0.mk (Kd.S_below (by (with_reducible repeat (first | apply Kd.S_alloc | apply Kd.S_drewN | apply Kd.S_drew)); exact HO_279002.out) hb); have n3_ := Aside0.mk (Kd.R_below (by (with_reducible repeat (first | apply Kd.R_alloc | apply Kd.R_drewN | apply Kd.R_drew)); exact HO_293000.out) hb); have n4_ := Aside0.mk (Kd.R_below (by (with_reducible repeat (first | apply Kd.R_alloc | apply Kd.R_drewN | apply Kd.R_drew)); exact HO_293001.out) hb); have n5_ := Aside0.mk (blk_below (g := gb278) (o := .cells #[.slice Ao92 x279000_2.length co92, .slice Ao93 x279001_2.length co93, .slice Ao13 t275.length co13] 70 (0, 0)) (by (with_reducible repeat (first | refine blk_drewN ?_ _ | refine blk_drew ?_ | refine blk_alloc ?_ _)); exact BK278.out) hb); have n6_ := Aside0.mk (blk_below (g := gb292) (o := .cells #[.slice Ao94 x293000_2.length co94, .slice Ao95 x293001_2.length co95] 79 (0, 0)) (by (with_reducible repeat (first | refine blk_drewN ?_ _ | refine blk_drew ?_ | refine blk_alloc ?_ _)); exact BK292.out) hb); have n7_ := Aside0.mk (IsS66.below (by repeat (first | (with_reducible first | exact HI296.out | apply IsS66.alloc | apply IsS66.drewN | apply IsS66.drew | apply IsS66.set_0 | refine IsS66.far ?_ NB296_278.out _ | refine IsS66.far ?_ NB296_292.out _) | exact HI296.out)) hb); have n8_ := Aside0.mk (below_step (by repeat (first | (with_reducible first | exact HB.out | apply below_alloc | apply pw_below_drewN | apply below_drew1 | refine below_set ?_ (IsS66.ge HI296.out) | refine below_set ?_ GE278.out | refine below_set ?_ GE292.out) | exact HB.out)) hb); clear HO_279000; clear HO_279001; clear HO_279002; clear HO_293000; clear HO_293001; clear BK278; clear BK292; clear HI296; clear HB; have HO_279000 := n0_; have HO_279001 := n1_; have HO_279002 := n2_; have HO_293000 := n3_; have HO_293001 := n4_; have BK278 := n5_; have BK292 := n6_; have HI296 := n7_; have HB := n8_; clear n0_ n1_ n2_ n3_ n4_ n5_ n6_ n7_ n8_; (try clear hb); (try clear hb2); (try clear hk); (try clear hi); have hcz97_0 : w96.cell? ⟨gb278, 0, none⟩ = some (.slice Ao92 x279000_2.length co92) := (blk_cell BK278.out 0).trans rfl; have hcz97_1 : w96.cell? ⟨gb278, 1, none⟩ = some (.slice Ao93 x279001_2.length co93) := (blk_cell BK278.out 1).trans rfl; have hcz97_2 : w96.cell? ⟨gb278, 2, none⟩ = some (.slice Ao13 t275.length co13) := (blk_cell BK278.out 2).trans rfl; have hfz97_0 := blk_frozen BK278.out 0; have hfz97_1 := blk_frozen BK278.out 1; have hfz97_2 := blk_frozen BK278.out 2))
          go_ret
          exact ⟨by first | rfl | (simp [errW_none, errW_some] <;> rfl) | (simp [*, errW_none, errW_some] <;> rfl), by repeat (first | (with_reducible first | exact HB.out | apply below_alloc | apply pw_below_drewN | apply below_drew1 | refine below_set ?_ (IsS66.ge HI296.out) | refine below_set ?_ GE278.out | refine below_set ?_ GE292.out) | exact HB.out)⟩
        ·rw [if_neg c74] at H
         have c74b0 : (t306 == 0) = false := beq_eq_false_iff_ne.mpr c74
         have c74b1 : (t306 != 0) = true := bne_iff_ne.mpr c74
         obtain rfl := Option.some.inj H
         have hnb98 := NB278_292.out
         have hnc98 := NB292_278.out
         have hnb99 := NB278_296.out
         have hnc99 := NB296_278.out
         have hcz100_0 : wr.cell? ⟨gb278, 0, none⟩ = some (u279000) := (blk_cell BK278.out 0).trans rfl
         have hcz100_1 : wr.cell? ⟨gb278, 1, none⟩ = some (u279001) := (blk_cell BK278.out 1).trans rfl
         have hcz100_2 : wr.cell? ⟨gb278, 2, none⟩ = some (.slice Ao13 t275.length co13) := (blk_cell BK278.out 2).trans rfl
         have hfz100_0 := blk_frozen BK278.out 0
         have hfz100_1 := blk_frozen BK278.out 1
         have hfz100_2 := blk_frozen BK278.out 2
         have hnb101 := NB292_296.out
         have hnc101 := NB296_292.out
         have hcz102_0 : wr.cell? ⟨gb292, 0, none⟩ = some (u293000) := (blk_cell BK292.out 0).trans rfl
         have hcz102_1 : wr.cell? ⟨gb292, 1, none⟩ = some (u293001) := (blk_cell BK292.out 1).trans rfl
         have hfz102_0 := blk_frozen BK292.out 0
         have hfz102_1 := blk_frozen BK292.out 1
         obtain ⟨Ao103, co103, eo103⟩ := Kd.R_slice HO_279000.out
         subst eo103
         obtain ⟨Ao104, co104, eo104⟩ := Kd.R_slice HO_279001.out
         subst eo104
         obtain ⟨Ao105, co105, eo105⟩ := Kd.R_slice HO_293000.out
         subst eo105
         obtain ⟨Ao106, co106, eo106⟩ := Kd.R_slice HO_293001.out
         subst eo106
         go_wp2_with (first | ((with_reducible refine gate_callee (f := 50) rfl ?_); refine goesL_ (some 107) rfl rfl Try.func50 (by kernel_rfl) rfl #[.agg #[.slice Ao103 x279000_2.length co103, .slice Ao104 x279001_2.length co104, .slice Ao13 t275.length co13], .agg #[.slice Ao105 x293000_2.length co105, .slice Ao106 x293001_2.length co106]] rfl (by (try simp only [List.map_toArray, List.map_cons, List.map_nil]); first | done | rfl | (simp only [List.length_drop, List.length_take]; rfl)) ?_; (with_reducible refine (piece_Holds.calls k2 _ _ x279000_2 _ _ x279001_2 _ _ t275 _ _ x293000_2 _ _ x293001_2 t305 t306 _ ?side1 ?side2 ?side3 ?side4 ?side5 ?side6 ?side7 ?side8 ?side9 ?side10 A62.out).mono ?_); (case side1 => repeat (first | exact (Kd.R_reads' HO_279000.out).2.2 | (with_reducible refine Kd.C_alloc ?_ _) | (with_reducible refine Kd.C_drewN ?_ _) | (with_reducible refine Kd.C_drew ?_))); (case side2 => exact (Kd.R_reads' HO_279000.out).2.1); (case side3 => repeat (first | exact (Kd.R_reads' HO_279001.out).2.2 | (with_reducible refine Kd.C_alloc ?_ _) | (with_reducible refine Kd.C_drewN ?_ _) | (with_reducible refine Kd.C_drew ?_))); (case side4 => exact (Kd.R_reads' HO_279001.out).2.1); (case side5 => repeat (first | exact (Kd.S_reads' HO_279002.out).2.2 | (with_reducible refine Kd.C_alloc ?_ _) | (with_reducible refine Kd.C_drewN ?_ _) | (with_reducible refine Kd.C_drew ?_))); (case side6 => exact (Kd.S_reads' HO_279002.out).2.1); (case side7 => repeat (first | exact (Kd.R_reads' HO_293000.out).2.2 | (with_reducible refine Kd.C_alloc ?_ _) | (with_reducible refine Kd.C_drewN ?_ _) | (with_reducible refine Kd.C_drew ?_))); (case side8 => exact (Kd.R_reads' HO_293000.out).2.1); (case side9 => repeat (first | exact (Kd.R_reads' HO_293001.out).2.2 | (with_reducible refine Kd.C_alloc ?_ _) | (with_reducible refine Kd.C_drewN ?_ _) | (with_reducible refine Kd.C_drew ?_))); (case side10 => exact (Kd.R_reads' HO_293001.out).2.1); rintro e w107 ⟨rfl, hb⟩; refine ⟨_, rfl, ?_⟩; have n0_ := Aside0.mk (Kd.R_below (by (with_reducible repeat (first | apply Kd.R_alloc | apply Kd.R_drewN | apply Kd.R_drew)); exact HO_279000.out) hb); have n1_ := Aside0.mk (Kd.R_below (by (with_reducible repeat (first | apply Kd.R_alloc | apply Kd.R_drewN | apply Kd.R_drew)); exact HO_279001.out) hb); have n2_ := Aside0.mk (Kd.S_below (by (with_reducible repeat (first | apply Kd.S_alloc | apply Kd.S_drewN | apply Kd.S_drew)); exact HO_279002.out) hb); have n3_ := Aside0.mk (Kd.R_below (by (with_reducible repeat (first | apply Kd.R_alloc | apply Kd.R_drewN | apply Kd.R_drew)); exact HO_293000.out) hb); have n4_ := Aside0.mk (Kd.R_below (by (with_reducible repeat (first | apply Kd.R_alloc | apply Kd.R_drewN | apply Kd.R_drew)); exact HO_293001.out) hb); have n5_ := Aside0.mk (blk_below (g := gb278) (o := .cells #[.slice Ao103 x279000_2.length co103, .slice Ao104 x279001_2.length co104, .slice Ao13 t275.length co13] 70 (0, 0)) (by (with_reducible repeat (first | refine blk_drewN ?_ _ | refine blk_drew ?_ | refine blk_alloc ?_ _)); exact BK278.out) hb); have n6_ := Aside0.mk (blk_below (g := gb292) (o := .cells #[.slice Ao105 x293000_2.length co105, .slice Ao106 x293001_2.length co106] 79 (0, 0)) (by (with_reducible repeat (first | refine blk_drewN ?_ _ | refine blk_drew ?_ | refine blk_alloc ?_ _)); exact BK292.out) hb); have n7_ := Aside0.mk (IsS66.below (by repeat (first | (with_reducible first | exact HI296.out | apply IsS66.alloc | apply IsS66.drewN | apply IsS66.drew | apply IsS66.set_0 | refine IsS66.far ?_ NB296_278.out _ | refine IsS66.far ?_ NB296_292.out _) | exact HI296.out)) hb); have n8_ := Aside0.mk (below_step (by repeat (first | (with_reducible first | exact HB.out | apply below_alloc | apply pw_below_drewN | apply below_drew1 | refine below_set ?_ (IsS66.ge HI296.out) | refine below_set ?_ GE278.out | refine below_set ?_ GE292.out) | exact HB.out)) hb); clear HO_279000; clear HO_279001; clear HO_279002; clear HO_293000; clear HO_293001; clear BK278; clear BK292; clear HI296; clear HB; have HO_279000 := n0_; have HO_279001 := n1_; have HO_279002 := n2_; have HO_293000 := n3_; have HO_293001 := n4_; have BK278 := n5_; have BK292 := n6_; have HI296 := n7_; have HB := n8_; clear n0_ n1_ n2_ n3_ n4_ n5_ n6_ n7_ n8_; (try clear hb); (try clear hb2); (try clear hk); (try clear hi)))
         go_ret
         exact ⟨by first | rfl | (simp [errW_none, errW_some] <;> rfl) | (simp [*, errW_none, errW_some] <;> rfl), by repeat (first | (with_reducible first | exact HB.out | apply below_alloc | apply pw_below_drewN | apply below_drew1 | refine below_set ?_ (IsS66.ge HI296.out) | refine below_set ?_ GE278.out | refine below_set ?_ GE292.out) | exact HB.out)⟩
def wrackkeep3_PieceAbove.Pure : Prop := ∀ (l0 : List Int) (l1 : List Int), l0.length ≤ maxLen → l0.length * 8 ≤ 140737488351232 → (∀ x ∈ l0, (Lit.int .i64 x).wf = true) → l1.length ≤ maxLen → l1.length * 8 ≤ 140737488351232 → (∀ x ∈ l1, (Lit.int .i64 x).wf = true) → ∃ k, wrackkeep3_PieceAbove.f k l0 l1 = some true
theorem wrackkeep3_PieceAbove.walk (P : wrackkeep3_PieceAbove.Pure) (a0 : Option Addr) (len0 cap0 : Nat) (z0 : List Int) (a1 : Option Addr) (len1 cap1 : Nat) (z1 : List Int) (w : World) (w0 : (a0 = none ∧ len0 = 0 ∧ cap0 = 0 ∧ z0 = []) ∨ ∃ x, a0 = some x ∧ len0 ≤ cap0 ∧ cap0 ≤ maxLen ∧ z0.length = cap0 ∧ (∀ i, i < z0.length → w.cell? (x.add i) = some (.int .i64 (z0.getD i 0))) ∧ ∀ n ∈ z0, (Lit.int .i64 n).wf = true) (y0 : len0 * 8 ≤ 140737488351232) (w1 : (a1 = none ∧ len1 = 0 ∧ cap1 = 0 ∧ z1 = []) ∨ ∃ x, a1 = some x ∧ len1 ≤ cap1 ∧ cap1 ≤ maxLen ∧ z1.length = cap1 ∧ (∀ i, i < z1.length → w.cell? (x.add i) = some (.int .i64 (z1.getD i 0))) ∧ ∀ n ∈ z1, (Lit.int .i64 n).wf = true) (y1 : len1 * 8 ≤ 140737488351232) :
  Calls Try.prog 9 #[.slice a0 len0 cap0, .slice a1 len1 cap1] w fun e w' => e = .returned (.bool true) ∧ Below w.heap.size w w' := by
 obtain ⟨l0, rfl, hr0, hm0, hw0, hc0⟩ := ReadsInt.ofRowC w0
 obtain ⟨l1, rfl, hr1, hm1, hw1, hc1⟩ := ReadsInt.ofRowC w1
 obtain ⟨k, h⟩ := P l0 l1 hm0 y0 hw0 hm1 y1 hw1
 refine (wrackkeep3_PieceAbove.calls k _ _ l0 _ _ l1 true w (Kd.C_of_reads (d := (0 : Int)) (h1 := fun _ => rfl) hr0) hc0 (Kd.C_of_reads (d := (0 : Int)) (h1 := fun _ => rfl) hr1) hc1 h).mono ?_
 rintro e w' ⟨rfl, hd⟩
 exact ⟨rfl, hd⟩
end Go.Proofs.Ytehkplafehlkgaa.PPieceAbove
namespace Go.Proofs.YtehkplafehlkgaaW.Plib
open Go.RowKit Go.Proofs.YtehkplafehlkgaaW.PrintWords Go.Proofs.YtehkplafehlkgaaW.PrintMore
theorem w64 {n : Int} (h0 : -9223372036854775808 ≤ n) (h1 : n ≤ 9223372036854775807) : wrap64 n = n := by unfold wrap64; omega
theorem below_val {x n : Int} (hn : 0 < n) (hn2 : n ≤ 9223372036854775807) : (if Int.tmod x n < 0 then wrap64 (Int.tmod x n + n) else Int.tmod x n) = x % n := by
 have h4 := Int.emod_nonneg x (show n ≠ 0 by omega)
 have h5 := Int.emod_lt_of_pos x hn
 have h6 : (n.natAbs : Int) = n := by omega
 rw [Int.tmod_eq_emod]
 by_cases hc : 0 ≤ x ∨ n ∣ x
 ·rw [if_pos hc, if_neg (by omega)]; omega
 ·rw [if_neg hc, h6]
  by_cases h7 : x % n - n < 0
  ·rw [if_pos h7, w64 (by omega) (by omega)]; omega
  ·omega
def Gets {α : Type} (g : Nat → Option α) (P : α → Prop) : Prop := ∃ r, P r ∧ ∃ K, ∀ k, K ≤ k → g k = some r
namespace Gets
variable {α β : Type} {g : Nat → Option α} {P Q : α → Prop} {R : β → Prop}
theorem ret {r : α} (h : P r) : Gets (fun _ => some r) P := ⟨r, h, 0, fun _ _ => rfl⟩
theorem up (h : Gets (fun k => g (k + 1)) P) : Gets g P := by
 obtain ⟨r, hr, K, hK⟩ := h
 refine ⟨r, hr, K + 1, fun k hk => ?_⟩
 obtain ⟨m, rfl⟩ : ∃ m, k = m + 1 := ⟨k - 1, by omega⟩
 exact hK m (by omega)
theorem imp (h : Gets g P) (hi : ∀ r, P r → Q r) : Gets g Q := by
 obtain ⟨r, hr, K, hK⟩ := h
 exact ⟨r, hi r hr, K, hK⟩
theorem bind {f : Nat → α → Option β} (h : Gets g P) (hf : ∀ r, P r → Gets (fun k => f k r) R) : Gets (fun k => (g k).bind (f k)) R := by
 obtain ⟨r, hr, K, hK⟩ := h
 obtain ⟨q, hq, L, hL⟩ := hf r hr
 refine ⟨q, hq, max K L, fun k hk => ?_⟩
 show (g k).bind (f k) = some q
 rw [hK k (by omega), Option.bind_some]
 exact hL k (by omega)
theorem get (h : Gets g P) : ∃ k r, g k = some r ∧ P r := by
 obtain ⟨r, hr, K, hK⟩ := h
 exact ⟨K, r, hK K (Nat.le_refl _), hr⟩
theorem congr {g' : Nat → Option α} (h : Gets g P) (e : ∀ k, g' k = g k) : Gets g' P := by
 obtain ⟨r, hr, K, hK⟩ := h
 exact ⟨r, hr, K, fun k hk => (e k).trans (hK k hk)⟩
end Gets
end Go.Proofs.YtehkplafehlkgaaW.Plib
namespace Go.Proofs.YtehkplafehlkgaaW.Plib
open Go.RowKit Go.Proofs.YtehkplafehlkgaaW.PrintWords Go.Proofs.YtehkplafehlkgaaW.PrintMore
theorem wraps_i64 (n : Int) (h0 : 0 ≤ n) (h1 : n < 2 ^ 62) : IntKind.i64.wrap n = n := by rw [IntKind.wrap_i64]; omega
theorem and64 {a b : Nat} (ha : a < 2 ^ 62) (hb : b < 2 ^ 62) : Go.bits .and .i64 (a : Int) (b : Int) = ((a &&& b : Nat) : Int) := (bits_nat .i64 62 (by decide) wraps_i64 a b ha hb).1
theorem or64 {a b : Nat} (ha : a < 2 ^ 62) (hb : b < 2 ^ 62) : Go.bits .or .i64 (a : Int) (b : Int) = ((a ||| b : Nat) : Int) := (bits_nat .i64 62 (by decide) wraps_i64 a b ha hb).2
theorem shr64 (a q : Nat) (hq : q ≤ 64) : shr .i64 (a : Int) (q : Int) = ((a / 2 ^ q : Nat) : Int) := by
 unfold shr
 rw [Int.toNat_natCast, show IntKind.i64.bits = 64 from rfl, Nat.min_eq_left hq]
 simp
theorem shl64 (q : Nat) (hq : q < 62) : shl .i64 1 (q : Int) = ((2 ^ q : Nat) : Int) := by
 unfold shl
 rw [Int.toNat_natCast, show IntKind.i64.bits = 64 from rfl, Nat.min_eq_left (by omega), Int.one_mul]
 have h : 2 ^ q < 2 ^ 62 := Nat.pow_lt_pow_right (by omega) hq
 rw [show (2 : Int) ^ q = ((2 ^ q : Nat) : Int) by simp]
 exact wraps_i64 _ (Int.natCast_nonneg _) (by exact_mod_cast h)
theorem has64 (a q : Nat) (ha : a < 2 ^ 62) (hq : q < 62) : (Go.bits .and .i64 (shr .i64 (a : Int) (q : Int)) 1 = 0) ↔ a.testBit q = false := by
 rw [shr64 a q (by omega)]
 have h1 : a / 2 ^ q < 2 ^ 62 := Nat.lt_of_le_of_lt (Nat.div_le_self _ _) ha
 rw [show (1 : Int) = ((1 : Nat) : Int) from rfl, show (0 : Int) = ((0 : Nat) : Int) from rfl, and64 h1 (by decide), Int.ofNat_inj, Nat.and_one_is_mod, Nat.testBit_eq_decide_div_mod_eq]
 simp
theorem put64 (a q : Nat) (ha : a < 2 ^ 62) (hq : q < 62) : Go.bits .or .i64 (a : Int) (shl .i64 1 (q : Int)) = ((a ||| 2 ^ q : Nat) : Int) := by
 rw [shl64 q hq]
 exact or64 ha (Nat.pow_lt_pow_right (by omega) hq)
theorem put_lt {a q n : Nat} (ha : a < 2 ^ n) (hq : q < n) : a ||| 2 ^ q < 2 ^ n := Nat.or_lt_two_pow ha (Nat.pow_lt_pow_right (by omega) hq)
end Go.Proofs.YtehkplafehlkgaaW.Plib
namespace Go.Proofs.Ytehkplafehlkgaa.Pure.BestPieceAbove
set_option linter.unusedSimpArgs false
open Go.RowKit Go.Proofs.Ytehkplafehlkgaa.PPieceAbove Go.Proofs.YtehkplafehlkgaaW.PrintWords Go.Proofs.YtehkplafehlkgaaW.PrintLast Go.Proofs.YtehkplafehlkgaaW.PrintMore Go.Proofs.YtehkplafehlkgaaW.Plib
theorem gd_set {α : Type} (xs : List α) (i j : Nat) (v d : α) : (xs.set i v).getD j d = if i = j ∧ i < xs.length then v else xs.getD j d := by
 rw [List.getD_eq_getElem?_getD, List.getD_eq_getElem?_getD, List.getElem?_set]
 by_cases h : i = j
 ·by_cases h2 : i < xs.length
  ·simp [h, h2, h ▸ h2]
  ·have h3 : ¬ j < xs.length := h ▸ h2
   simp [h, h3, List.getElem?_eq_none (show xs.length ≤ j by omega)]
 ·simp [h]
structure TabOk (n : Nat) (F L : List Int) (N : List (List Int)) : Prop where
 n12 : n ≤ 12
 f : F.length = n
 l : L.length = n
 m : N.length = n
 row : ∀ i, i < n → (N.getD i []).length = n
 wf : ∀ i, i < n → -1000000 ≤ F.getD i 0 ∧ F.getD i 0 ≤ 1000000
 wl : ∀ i, i < n → -1000000 ≤ L.getD i 0 ∧ L.getD i 0 ≤ 1000000
 wn : ∀ i k, i < n → k < n → -1000000 ≤ (N.getD i []).getD k 0 ∧ (N.getD i []).getD k 0 ≤ 1000000
def wt (L : List Int) (N : List (List Int)) : Nat → List Nat → Int
 | i, [] => L.getD i 0
 | i, k :: o => (N.getD i []).getD k 0 + wt L N k o
def tot (F L : List Int) (N : List (List Int)) : List Nat → Int
 | [] => 0
 | i :: o => F.getD i 0 + wt L N i o
def Comp (n s : Nat) (o : List Nat) : Prop := o.Nodup ∧ ∀ k, k ∈ o ↔ k < n ∧ s.testBit k = false
theorem put_bit (s k j : Nat) : (s ||| 2 ^ k).testBit j = (s.testBit j || decide (k = j)) := by rw [Nat.testBit_or, Nat.testBit_two_pow]
theorem Comp.cons {n s k : Nat} {o : List Nat} (hk : k < n) (hs : s.testBit k = false) (h : Comp n (s ||| 2 ^ k) o) : Comp n s (k :: o) := by
 refine ⟨List.nodup_cons.2 ⟨fun hm => ?_, h.1⟩, fun j => ?_⟩
 ·have := ((h.2 k).1 hm).2
  rw [put_bit] at this
  simp at this
 ·rw [List.mem_cons, h.2 j, put_bit]
  constructor
  ·rintro (rfl | ⟨h1, h2⟩)
   ·exact ⟨hk, hs⟩
   ·exact ⟨h1, by revert h2; cases s.testBit j <;> simp⟩
  ·rintro ⟨h1, h2⟩
   by_cases e : j = k
   ·exact .inl e
   ·exact .inr ⟨h1, by rw [h2]; simp; omega⟩
theorem Comp.uncons {n s k : Nat} {o : List Nat} (h : Comp n s (k :: o)) : k < n ∧ s.testBit k = false ∧ Comp n (s ||| 2 ^ k) o := by
 have h1 := (h.2 k).1 (List.mem_cons_self)
 have h2 := List.nodup_cons.1 h.1
 refine ⟨h1.1, h1.2, h2.2, fun j => ?_⟩
 rw [put_bit]
 constructor
 ·intro hj
  have h3 := (h.2 j).1 (List.mem_cons_of_mem _ hj)
  refine ⟨h3.1, ?_⟩
  rw [h3.2]
  have : k ≠ j := fun e => h2.1 (e ▸ hj)
  simp [this]
 ·rintro ⟨h3, h4⟩
  have h5 : s.testBit j = false ∧ k ≠ j := by revert h4; cases s.testBit j <;> simp
  exact (List.mem_cons.1 ((h.2 j).2 ⟨h3, h5.1⟩)).resolve_left (fun e => h5.2 e.symm)
theorem Comp.exists (n s : Nat) : ∃ o, Comp n s o := by
 refine ⟨(List.range n).filter (fun k => !s.testBit k), List.Pairwise.filter _ List.nodup_range, fun k => ?_⟩
 rw [List.mem_filter, List.mem_range]
 simp
theorem nodup_len : ∀ (n : Nat) (o : List Nat), o.Nodup → (∀ k ∈ o, k < n) → o.length ≤ n := by
 intro n o h hm
 have h1 := List.Nodup.length_le_of_subset h (l₂ := List.range n) (fun k hk => List.mem_range.2 (hm k hk))
 rwa [List.length_range] at h1
theorem Comp.len {n s : Nat} {o : List Nat} (h : Comp n s o) : o.length ≤ n := nodup_len n o h.1 (fun k hk => ((h.2 k).1 hk).1)
theorem wt_bound {n : Nat} {F L : List Int} {N : List (List Int)} (T : TabOk n F L N) : ∀ (o : List Nat) (i : Nat), i < n → (∀ k ∈ o, k < n) → -1000000 * ((o.length : Int) + 1) ≤ wt L N i o ∧ wt L N i o ≤ 1000000 * ((o.length : Int) + 1)
 | [], i, hi, _ => by have := T.wl i hi; simp only [wt, List.length_nil]; omega
 | k :: o, i, hi, ho => by
  have hk := ho k List.mem_cons_self
  have h1 := wt_bound T o k hk (fun j hj => ho j (List.mem_cons_of_mem _ hj))
  have h2 := T.wn i k hi hk
  simp only [wt, List.length_cons]
  omega
theorem wt_comp {n s i : Nat} {F L : List Int} {N : List (List Int)} (T : TabOk n F L N) (hi : i < n) {o : List Nat} (h : Comp n s o) : -13000000 ≤ wt L N i o ∧ wt L N i o ≤ 13000000 := by
 have h1 := wt_bound T o i hi (fun k hk => ((h.2 k).1 hk).1)
 have h2 := h.len
 have := T.n12
 omega
theorem full_eq {n s : Nat} (hs : s < 2 ^ n) (h : ∀ k, k < n → s.testBit k = true) : s = 2 ^ n - 1 := by
 apply Nat.eq_of_testBit_eq
 intro j
 rw [Nat.testBit_two_pow_sub_one]
 by_cases hj : j < n
 ·rw [h j hj]; simp [hj]
 ·rw [Nat.testBit_lt_two_pow (Nat.lt_of_lt_of_le hs (Nat.pow_le_pow_right (by omega) (by omega)))]; simp [hj]
theorem put_gt {s k : Nat} (h : s.testBit k = false) : s < s ||| 2 ^ k := by
 rcases Nat.lt_or_eq_of_le (Nat.left_le_or (n := s) (m := 2 ^ k)) with h1 | h1
 ·exact h1
 ·have := put_bit s k k
  rw [← h1, h] at this
  simp at this
def Good (n : Nat) (L : List Int) (N : List (List Int)) (s i : Nat) (v : Int) : Prop := (∀ o, Comp n s o → wt L N i o ≤ v) ∧ ∃ o, Comp n s o ∧ wt L N i o = v
def RowGood (n : Nat) (L : List Int) (N : List (List Int)) (s : Nat) (row : List Int) : Prop := row.length = n ∧ ∀ i, i < n → Good n L N s i (row.getD i 0)
def Part (n : Nat) (L : List Int) (N : List (List Int)) (s i q : Nat) (v : Int) : Prop :=
 (∀ k o, k < q → k < n → s.testBit k = false → Comp n (s ||| 2 ^ k) o → (N.getD i []).getD k 0 + wt L N k o ≤ v) ∧ ((∀ k, k < n → s.testBit k = true) → L.getD i 0 ≤ v) ∧ (v = -1099511627776 ∨ ∃ o, Comp n s o ∧ wt L N i o = v)
theorem Part.good {n s i : Nat} {F L : List Int} {N : List (List Int)} {v : Int} (T : TabOk n F L N) (hi : i < n) (h : Part n L N s i n v) : Good n L N s i v := by
 have up : ∀ o, Comp n s o → wt L N i o ≤ v := by
  intro o ho
  cases o with
  | nil =>
   refine h.2.1 fun k hk => ?_
   cases hb : s.testBit k with
   | true => rfl
   | false => exact absurd ((ho.2 k).2 ⟨hk, hb⟩) (by simp)
  | cons k o =>
   obtain ⟨h1, h2, h3⟩ := ho.uncons
   exact h.1 k o h1 h1 h2 h3
 refine ⟨up, h.2.2.resolve_left fun e => ?_⟩
 obtain ⟨o, ho⟩ := Comp.exists n s
 have h1 := up o ho
 have h2 := wt_comp T hi ho
 omega
theorem Part.bound {n s i q : Nat} {F L : List Int} {N : List (List Int)} {v : Int} (T : TabOk n F L N) (hi : i < n) (h : Part n L N s i q v) : -1099511627776 ≤ v ∧ v ≤ 13000000 := by
 rcases h.2.2 with e | ⟨o, ho, e⟩
 ·omega
 ·have := wt_comp T hi ho; omega
theorem Good.bound {n s i : Nat} {F L : List Int} {N : List (List Int)} {v : Int} (T : TabOk n F L N) (hi : i < n) (h : Good n L N s i v) : -13000000 ≤ v ∧ v ≤ 13000000 := by
 obtain ⟨o, ho, e⟩ := h.2
 have := wt_comp T hi ho; omega
theorem Part.skip {n s i q : Nat} {L : List Int} {N : List (List Int)} {v : Int} (h : Part n L N s i q v) (hq : s.testBit q = true) : Part n L N s i (q + 1) v :=
 ⟨fun k o hk hn hb ho => by
  rcases Nat.lt_or_eq_of_le (Nat.lt_succ_iff.1 hk) with h1 | rfl
  ·exact h.1 k o h1 hn hb ho
  ·rw [hq] at hb; exact absurd hb (by decide), h.2.1, h.2.2⟩
theorem Part.step {n s i q : Nat} {L : List Int} {N : List (List Int)} {v u : Int} (h : Part n L N s i q v) (hn : q < n) (hq : s.testBit q = false) (hu : Good n L N (s ||| 2 ^ q) q u) : Part n L N s i (q + 1) (mx v ((N.getD i []).getD q 0 + u)) := by
 have m1 : v ≤ mx v ((N.getD i []).getD q 0 + u) := by unfold mx; split <;> omega
 have m2 : (N.getD i []).getD q 0 + u ≤ mx v ((N.getD i []).getD q 0 + u) := by unfold mx; split <;> omega
 refine ⟨fun k o hk hn hb ho => ?_, fun hf => Int.le_trans (h.2.1 hf) m1, ?_⟩
 ·rcases Nat.lt_or_eq_of_le (Nat.lt_succ_iff.1 hk) with h1 | rfl
  ·exact Int.le_trans (h.1 k o h1 hn hb ho) m1
  ·have := hu.1 o ho; omega
 ·by_cases c : v < (N.getD i []).getD q 0 + u
  ·obtain ⟨o, ho, e⟩ := hu.2
   refine .inr ⟨q :: o, Comp.cons hn hq ho, ?_⟩
   simp only [wt, mx, if_pos c, e]
  ·rw [show mx v ((N.getD i []).getD q 0 + u) = v by unfold mx; rw [if_neg c]]
   exact h.2.2
def Inv (n : Nat) (L : List Int) (N X : List (List Int)) (s : Nat) : Prop := X.length = 2 ^ n ∧ ∀ t, s < t → t < 2 ^ n → RowGood n L N t (X.getD t [])
def InvI (n : Nat) (L : List Int) (N X : List (List Int)) (s i : Nat) : Prop := Inv n L N X s ∧ (X.getD s []).length = n ∧ ∀ j, j < i → j < n → Good n L N s j ((X.getD s []).getD j 0)
theorem at_row (X : List (List Int)) (s : Nat) : rd_L1 X (s : Int) = X.getD s [] := by simp only [rd_L1, Int.toNat_natCast]
theorem at_one (X : List Int) (i : Nat) : rd X (i : Int) = X.getD i 0 := by simp only [rd, Int.toNat_natCast]
theorem w1 (q n : Nat) (h : q < n) (hn : n ≤ 4096) : wrap64 ((q : Int) + 1) = ((q + 1 : Nat) : Int) := by rw [w64] <;> omega
theorem p12 {n : Nat} (h : n ≤ 12) : 2 ^ n ≤ 4096 := by
 have := Nat.pow_le_pow_right (show 2 > 0 by omega) h
 simpa using this
theorem p62 {n s : Nat} (h : n ≤ 12) (hs : s < 2 ^ n) : s < 2 ^ 62 := by have := p12 h; omega
theorem rests_l2 {n : Nat} {F L : List Int} {N : List (List Int)} (T : TabOk n F L N) (s i : Nat) (hs : s < 2 ^ n) (hi : i < n) {P : List (List Int) → Prop}
  (K : ∀ X, InvI n L N X s (i + 1) → Gets (fun k => piece_rests.l1 k (n : Int) X (s : Int) (n : Int) ((i + 1 : Nat) : Int) F L N) P) (d : Nat) :
  ∀ (q : Nat) (X : List (List Int)), q + d = n → InvI n L N X s i → Part n L N s i q ((X.getD s []).getD i 0) →
  Gets (fun k => piece_rests.l2 k (n : Int) X (s : Int) (i : Int) (n : Int) (i : Int) (n : Int) (q : Int) F L N) P := by
 have hn := T.n12
 have hp := p12 hn
 induction d with
 | zero =>
  intro q X hq hX hP
  refine Gets.up ?_
  simp only [piece_rests.l2, if_neg (show ¬ (q : Int) < (n : Int) by omega), w1 i n hi (by omega)]
  obtain rfl : q = n := by omega
  refine K X ⟨hX.1, hX.2.1, fun j hj hn => ?_⟩
  rcases Nat.lt_or_eq_of_le (Nat.lt_succ_iff.1 hj) with h1 | rfl
  ·exact hX.2.2 j h1 hn
  ·exact hP.good T hi
 | succ d ih =>
  intro q X hq hX hP
  have hqn : q < n := by omega
  refine Gets.up ?_
  simp only [piece_rests.l2, if_pos (show (q : Int) < (n : Int) by omega), if_pos (show (0 : Int) ≤ (q : Int) by omega), has64 s q (p62 hn hs) (by omega), w1 q n hqn (by omega), put64 s q (p62 hn hs) (by omega)]
  cases hb : s.testBit q with
  | true =>
   simp only [if_neg (show ¬ (true = false) by decide)]
   exact ih (q + 1) X (by omega) hX (hP.skip hb)
  | false =>
   have hgt := put_gt hb
   have hlt : s ||| 2 ^ q < 2 ^ n := put_lt hs hqn
   have hX2 := hX.1.2 _ hgt hlt
   have hg := hX2.2 q hqn
   have b1 := T.wn i q hi hqn
   have b2 := hg.bound T hqn
   have b3 := hP.bound T hi
   have hw : wrap64 ((N.getD i []).getD q 0 + (X.getD (s ||| 2 ^ q) []).getD q 0) = (N.getD i []).getD q 0 + (X.getD (s ||| 2 ^ q) []).getD q 0 := w64 (by omega) (by omega)
   have hXl := hX.1.1
   simp only [if_true, at_row, at_one, Int.toNat_natCast, if_pos (show (0 : Int) ≤ (s : Int) by omega), if_pos (show (s : Int) < (X.length : Int) by omega), if_pos (show (0 : Int) ≤ (i : Int) by omega), if_pos (show (i : Int) < ((X.getD s []).length : Int) by rw [hX.2.1]; omega), if_pos (show (i : Int) < (N.length : Int) by rw [T.m]; omega), if_pos (show (q : Int) < ((N.getD i []).length : Int) by rw [T.row i hi]; omega), if_pos (show (0 : Int) ≤ ((s ||| 2 ^ q : Nat) : Int) by omega), if_pos (show ((s ||| 2 ^ q : Nat) : Int) < (X.length : Int) by omega), if_pos (show (q : Int) < ((X.getD (s ||| 2 ^ q) []).length : Int) by rw [hX2.1]; omega), hw]
   have hsl : s < X.length := by omega
   have hil : i < (X.getD s []).length := by rw [hX.2.1]; exact hi
   refine ih (q + 1) _ (by omega) ⟨⟨by rw [List.length_set]; exact hXl, fun t h1 h2 => ?_⟩, ?_, fun j h1 h2 => ?_⟩ ?_
   ·rw [gd_set, if_neg (by omega)]; exact hX.1.2 t h1 h2
   ·rw [gd_set, if_pos ⟨rfl, hsl⟩, List.length_set]; exact hX.2.1
   ·rw [gd_set, if_pos ⟨rfl, hsl⟩, gd_set, if_neg (by omega)]; exact hX.2.2 j h1 h2
   ·rw [gd_set, if_pos ⟨rfl, hsl⟩, gd_set, if_pos ⟨rfl, hil⟩]
    exact hP.step hqn hb hg
theorem rests_l1 {n : Nat} {F L : List Int} {N : List (List Int)} (T : TabOk n F L N) (s : Nat) (hs : s < 2 ^ n) {P : List (List Int) → Prop}
  (K : ∀ X, Inv n L N X s → RowGood n L N s (X.getD s []) → Gets (fun k => piece_rests.l0 k (n : Int) X ((s : Int) - 1) F L N) P) (d : Nat) :
  ∀ (i : Nat) (X : List (List Int)), i + d = n → InvI n L N X s i →
  Gets (fun k => piece_rests.l1 k (n : Int) X (s : Int) (n : Int) (i : Int) F L N) P := by
 have hn := T.n12
 have hp := p12 hn
 induction d with
 | zero =>
  intro i X hi hX
  refine Gets.up ?_
  simp only [piece_rests.l1, if_neg (show ¬ (i : Int) < (n : Int) by omega), show wrap64 ((s : Int) - 1) = (s : Int) - 1 by rw [w64] <;> omega]
  exact K X hX.1 ⟨hX.2.1, fun j hj => hX.2.2 j (by omega) hj⟩
 | succ d ih =>
  intro i X hi hX
  have hin : i < n := by omega
  have hXl := hX.1.1
  have hsl : s < X.length := by omega
  have hil : i < (X.getD s []).length := by rw [hX.2.1]; exact hin
  have K2 := fun X2 (h2 : InvI n L N X2 s (i + 1)) => ih (i + 1) X2 (by omega) h2
  have go : ∀ X2, InvI n L N X2 s i → Part n L N s i 0 ((X2.getD s []).getD i 0) → Gets (fun k => piece_rests.j2 k (n : Int) X2 (s : Int) (i : Int) (n : Int) (i : Int) F L N) P := by
   intro X2 h2 hp2
   refine Gets.up ?_
   simp only [piece_rests.j2]
   exact rests_l2 T s i hs hin K2 n 0 X2 (by omega) h2 hp2
  have hw : wrap64 ((X.length : Int) - 1) = ((2 ^ n - 1 : Nat) : Int) := by rw [w64] <;> omega
  have set1 : ∀ (Y : List (List Int)) (v : Int), InvI n L N Y s i → InvI n L N (Y.set s ((Y.getD s []).set i v)) s i ∧ ((Y.set s ((Y.getD s []).set i v)).getD s []).getD i 0 = v := by
   intro Y v hY
   have hsl : s < Y.length := by have := hY.1.1; omega
   have hil : i < (Y.getD s []).length := by rw [hY.2.1]; exact hin
   refine ⟨⟨⟨by rw [List.length_set]; exact hY.1.1, fun t h1 h2 => ?_⟩, ?_, fun j h1 h2 => ?_⟩, ?_⟩
   ·rw [gd_set, if_neg (by omega)]; exact hY.1.2 t h1 h2
   ·rw [gd_set, if_pos ⟨rfl, hsl⟩, List.length_set]; exact hY.2.1
   ·rw [gd_set, if_pos ⟨rfl, hsl⟩, gd_set, if_neg (by omega)]; exact hY.2.2 j h1 h2
   ·rw [gd_set, if_pos ⟨rfl, hsl⟩, gd_set, if_pos ⟨rfl, hil⟩]
  have hs1 := set1 X (-1099511627776) hX
  refine Gets.up ?_
  simp only [piece_rests.l1, if_pos (show (i : Int) < (n : Int) by omega), if_pos (show (0 : Int) ≤ (s : Int) by omega), if_pos (show (s : Int) < (X.length : Int) by omega), if_pos (show (0 : Int) ≤ (i : Int) by omega), at_row, at_one, Int.toNat_natCast, if_pos (show (i : Int) < ((X.getD s []).length : Int) by omega), Option.bind_some, hw]
  by_cases c : s = 2 ^ n - 1
  ·have hs2 := set1 _ (L.getD i 0) hs1.1
   simp only [if_pos (show (s : Int) = ((2 ^ n - 1 : Nat) : Int) by omega), if_pos (show (i : Int) < (L.length : Int) by rw [T.l]; omega), if_pos (show (i : Int) < (((X.set s ((X.getD s []).set i (-1099511627776))).getD s []).length : Int) by rw [hs1.1.2.1]; omega)]
   refine go _ hs2.1 ?_
   rw [hs2.2]
   refine ⟨fun k o hk => absurd hk (by omega), fun _ => Int.le_refl _, .inr ⟨[], ⟨List.nodup_nil, fun k => ⟨fun h => absurd h (by simp), fun ⟨h1, h2⟩ => ?_⟩⟩, rfl⟩⟩
   rw [c, Nat.testBit_two_pow_sub_one] at h2
   simp [h1] at h2
  ·simp only [if_neg (show ¬ (s : Int) = ((2 ^ n - 1 : Nat) : Int) by omega)]
   refine go _ hs1.1 ?_
   rw [hs1.2]
   exact ⟨fun k o hk => absurd hk (by omega), fun h => absurd (full_eq hs h) c, .inl rfl⟩
theorem rests_l0 {n : Nat} {F L : List Int} {N : List (List Int)} (T : TabOk n F L N) (s : Nat) : ∀ (X : List (List Int)), s ≤ 2 ^ n → X.length = 2 ^ n → (∀ t, s ≤ t → t < 2 ^ n → RowGood n L N t (X.getD t [])) →
  Gets (fun k => piece_rests.l0 k (n : Int) X ((s : Int) - 1) F L N) (fun R => R.length = 2 ^ n ∧ ∀ t, t < 2 ^ n → RowGood n L N t (R.getD t [])) := by
 have hn := T.n12
 have hp := p12 hn
 induction s with
 | zero =>
  intro X _ h1 h2
  refine Gets.up ?_
  simp only [piece_rests.l0, if_neg (show ¬ ((0 : Nat) : Int) - 1 ≥ 0 by omega)]
  exact Gets.ret ⟨h1, fun t ht => h2 t (by omega) ht⟩
 | succ s ih =>
  intro X hs h1 h2
  refine Gets.up ?_
  have e : ((s + 1 : Nat) : Int) - 1 = (s : Int) := by omega
  simp only [piece_rests.l0, e, if_pos (show (s : Int) ≥ 0 by omega), if_pos (show (0 : Int) ≤ (n : Int) by omega), Int.toNat_natCast, if_pos (show n ≤ 35184372088832 by omega), if_pos (show (0 : Int) ≤ (s : Int) by omega), if_pos (show (s : Int) < (X.length : Int) by omega)]
  have hsl : s < X.length := by omega
  refine rests_l1 T s (by omega) (fun X2 h3 h4 => ih X2 (by omega) h3.1 (fun t ht ht2 => ?_)) n 0 _ (by omega) ⟨⟨by rw [List.length_set]; exact h1, fun t h3 h4 => ?_⟩, ?_, fun j hj => absurd hj (by omega)⟩
  ·rcases Nat.lt_or_eq_of_le ht with h5 | rfl
   ·exact h3.2 t h5 ht2
   ·exact h4
  ·rw [gd_set, if_neg (by omega)]; exact h2 t (by omega) h4
  ·rw [gd_set, if_pos ⟨rfl, hsl⟩, List.length_replicate]
theorem rests_f {n : Nat} {F L : List Int} {N : List (List Int)} (T : TabOk n F L N) : Gets (fun k => piece_rests.f k F L N) (fun R => R.length = 2 ^ n ∧ ∀ t, t < 2 ^ n → RowGood n L N t (R.getD t [])) := by
 have hn := T.n12
 have hp := p12 hn
 have h2 : shl .i64 1 (n : Int) = ((2 ^ n : Nat) : Int) := shl64 n (by omega)
 generalize hm : 2 ^ n = m at h2 hp
 have h3 := rests_l0 T m (List.replicate m []) (by omega) (by rw [List.length_replicate, hm]) (fun t h1 h2 => absurd h2 (by omega))
 simp only [piece_rests.f, T.f, h2, if_pos (show (0 : Int) ≤ (m : Int) by omega), Int.toNat_natCast, if_pos (show m ≤ 11728124029610 by omega), Option.bind_some, List.length_replicate, show wrap64 ((m : Int) - 1) = (m : Int) - 1 by rw [w64] <;> omega]
 rw [hm] at h3
 exact h3
theorem check_l1 {n i : Nat} {F L : List Int} {N : List (List Int)} {y : List Int} (hy : y.length < 4096) (hw : ∀ q, q < y.length → -1000000 ≤ y.getD q 0 ∧ y.getD q 0 ≤ 1000000) (hi : i < n) (hn : n ≤ 12) {P : Int → Prop}
  (K : Gets (fun k => piece_Check.l0 k (n : Int) (n : Int) ((i + 1 : Nat) : Int) F L N) P) (d : Nat) :
  ∀ q : Nat, q + d = y.length → Gets (fun k => piece_Check.l1 k (n : Int) (n : Int) (i : Int) y (y.length : Int) (q : Int) F L N) P := by
 induction d with
 | zero =>
  intro q hq
  refine Gets.up ?_
  simp only [piece_Check.l1, if_neg (show ¬ (q : Int) < (y.length : Int) by omega), w1 i n hi (by omega)]
  exact K
 | succ d ih =>
  intro q hq
  have h := hw q (by omega)
  refine Gets.up ?_
  simp only [piece_Check.l1, if_pos (show (q : Int) < (y.length : Int) by omega), if_pos (show (0 : Int) ≤ (q : Int) by omega), at_one, if_neg (show ¬ y.getD q 0 < -1000000 by omega), if_neg (show ¬ y.getD q 0 > 1000000 by omega), w1 q y.length (by omega) (by omega)]
  exact ih (q + 1) (by omega)
theorem check_l0 {n : Nat} {F L : List Int} {N : List (List Int)} (T : TabOk n F L N) (d : Nat) : ∀ i : Nat, i + d = n → Gets (fun k => piece_Check.l0 k (n : Int) (n : Int) (i : Int) F L N) (· = 0) := by
 induction d with
 | zero =>
  intro i hi
  refine Gets.up ?_
  simp only [piece_Check.l0, if_neg (show ¬ (i : Int) < (n : Int) by omega)]
  exact Gets.ret rfl
 | succ d ih =>
  intro i hi
  have hin : i < n := by omega
  have hn := T.n12
  have hr := T.row i hin
  refine Gets.up ?_
  simp only [piece_Check.l0, if_pos (show (i : Int) < (n : Int) by omega), if_pos (show (0 : Int) ≤ (i : Int) by omega), T.m, at_row, hr, if_true, T.f, T.l, at_one, Option.bind_some, List.length_cons, List.length_nil, if_pos (show 0 + 1 + 1 + n < 17592186044416 by omega)]
  refine check_l1 (y := [F.getD i 0, L.getD i 0] ++ N.getD i []) (by rw [List.length_append, hr]; simp only [List.length_cons, List.length_nil]; omega) (fun q hq => ?_) hin hn (ih (i + 1) (by omega)) _ 0 (Nat.zero_add _)
  match q with
  | 0 => exact T.wf i hin
  | 1 => exact T.wl i hin
  | q + 2 =>
   have := T.wn i q hin (by rw [List.length_append, hr] at hq; simp only [List.length_cons, List.length_nil] at hq; omega)
   simpa only [List.cons_append, List.nil_append, List.getD_cons_succ] using this
theorem check_f {n : Nat} {F L : List Int} {N : List (List Int)} (T : TabOk n F L N) : Gets (fun k => piece_Check.f k F L N) (· = 0) := by
 have hn := T.n12
 simp only [piece_Check.f, T.f, T.l, T.m, if_neg (show ¬ (n : Int) > 12 by omega), if_true, bne_self_eq_false]
 refine Gets.up ?_
 simp only [piece_Check.j0, if_neg (show ¬ (false = true) by decide)]
 exact check_l0 T n 0 (by omega)
def cs (p : List Nat) : List Int := p.map fun q : Nat => (q : Int)
def LexLt (p c : List Nat) : Prop := ∃ r a b x y, p = r ++ a :: x ∧ c = r ++ b :: y ∧ a < b
def BestRes (n : Nat) (F L : List Int) (N : List (List Int)) (r : List Int × Int × Int) : Prop :=
 ∃ p, r.1 = cs p ∧ r.2.2 = 0 ∧ Comp n 0 p ∧ tot F L N p = r.2.1 ∧ (∀ c, Comp n 0 c → tot F L N c ≤ r.2.1) ∧ ∀ c, Comp n 0 c → tot F L N c = r.2.1 → c = p ∨ LexLt p c
def cont (F L : List Int) (N : List (List Int)) (p o : List Nat) : Int := match p.getLast? with | none => tot F L N o | some a => wt L N a o
def nw (F : List Int) (N : List (List Int)) (p : List Nat) (i : Nat) : Int := match p.getLast? with | none => F.getD i 0 | some a => (N.getD a []).getD i 0
theorem cont_cons (F L : List Int) (N : List (List Int)) (p : List Nat) (i : Nat) (o : List Nat) : cont F L N p (i :: o) = nw F N p i + wt L N i o := by
 unfold cont nw
 cases p.getLast? <;> rfl
theorem cont_snoc (F L : List Int) (N : List (List Int)) (p : List Nat) (i : Nat) (o : List Nat) : cont F L N (p ++ [i]) o = wt L N i o := by
 unfold cont
 rw [List.getLast?_concat]
def Used (n s : Nat) (p : List Nat) : Prop := s < 2 ^ n ∧ p.Nodup ∧ ∀ k, k ∈ p ↔ s.testBit k = true
theorem Used.lt {n s : Nat} {p : List Nat} (h : Used n s p) {k : Nat} (hk : k ∈ p) : k < n := by
 rcases Nat.lt_or_ge k n with h1 | h1
 ·exact h1
 ·have := Nat.testBit_lt_two_pow (Nat.lt_of_lt_of_le h.1 (Nat.pow_le_pow_right (by omega) h1))
  rw [(h.2.2 k).1 hk] at this
  cases this
theorem Used.snoc {n s i : Nat} {p : List Nat} (h : Used n s p) (hi : i < n) (hs : s.testBit i = false) : Used n (s ||| 2 ^ i) (p ++ [i]) := by
 refine ⟨put_lt h.1 hi, ?_, fun k => ?_⟩
 ·rw [List.nodup_append]
  refine ⟨h.2.1, by simp, fun a ha b hb e => ?_⟩
  have hb' : b = i := by simpa using hb
  subst e; subst hb'
  rw [(h.2.2 a).1 ha] at hs
  cases hs
 ·rw [put_bit, List.mem_append, h.2.2 k, Bool.or_eq_true]
  have e1 : k ∈ [i] ↔ i = k := by rw [List.mem_singleton]; exact eq_comm
  rw [e1, decide_eq_true_iff]
theorem Used.comp {n s : Nat} {p o : List Nat} (h : Used n s p) : Comp n 0 (p ++ o) ↔ Comp n s o := by
 constructor
 ·intro hc
  have h1 := List.nodup_append.1 hc.1
  refine ⟨h1.2.1, fun k => ?_⟩
  constructor
  ·intro hk
   refine ⟨((hc.2 k).1 (List.mem_append_right _ hk)).1, ?_⟩
   cases hb : s.testBit k with
   | false => rfl
   | true => exact absurd rfl (h1.2.2 k ((h.2.2 k).2 hb) k hk)
  ·rintro ⟨h2, h3⟩
   rcases List.mem_append.1 ((hc.2 k).2 ⟨h2, Nat.zero_testBit k⟩) with h4 | h4
   ·rw [(h.2.2 k).1 h4] at h3; cases h3
   ·exact h4
 ·intro hc
  refine ⟨List.nodup_append.2 ⟨h.2.1, hc.1, fun a ha b hb e => ?_⟩, fun k => ?_⟩
  ·subst e
   have h1 := ((hc.2 a).1 hb).2
   rw [(h.2.2 a).1 ha] at h1; cases h1
  ·rw [List.mem_append, hc.2 k]
   constructor
   ·rintro (h1 | h1)
    ·exact ⟨h.lt h1, Nat.zero_testBit k⟩
    ·exact ⟨h1.1, Nat.zero_testBit k⟩
   ·rintro ⟨h1, -⟩
    cases hb : s.testBit k with
    | false => exact .inr ⟨h1, rfl⟩
    | true => exact .inl ((h.2.2 k).2 hb)
theorem LexLt.snoc {p c : List Nat} (h : LexLt p c) (i : Nat) : LexLt (p ++ [i]) c := by
 obtain ⟨r, a, b, x, y, rfl, rfl, hab⟩ := h
 exact ⟨r, a, b, x ++ [i], y, by simp, rfl, hab⟩
structure At (n : Nat) (F L : List Int) (N : List (List Int)) (S : Int) (p : List Nat) (s : Nat) (u : Int) : Prop where
 used : Used n s p
 up : ∀ o, Comp n s o → cont F L N p o ≤ u
 att : ∃ o, Comp n s o ∧ cont F L N p o = u
 split : ∀ o, tot F L N (p ++ o) = S - u + cont F L N p o
 first : ∀ c, Comp n 0 c → tot F L N c = S → (∃ o, c = p ++ o) ∨ LexLt p c
theorem nw_bound {n s : Nat} {F L : List Int} {N : List (List Int)} (T : TabOk n F L N) {p : List Nat} (h : Used n s p) {i : Nat} (hi : i < n) : -1000000 ≤ nw F N p i ∧ nw F N p i ≤ 1000000 := by
 unfold nw
 cases hl : p.getLast? with
 | none => exact T.wf i hi
 | some a => exact T.wn a i (h.lt (List.mem_of_getLast? hl)) hi
theorem At.bound {n s : Nat} {F L : List Int} {N : List (List Int)} {S u : Int} {p : List Nat} (T : TabOk n F L N) (h : At n F L N S p s u) (hp : p.length < n) : -14000000 ≤ u ∧ u ≤ 14000000 := by
 obtain ⟨o, ho, e⟩ := h.att
 cases o with
 | nil =>
  have h1 := List.Nodup.length_le_of_subset (List.nodup_range (n := n)) (l₂ := p) (fun k hk => by
   cases hb : s.testBit k with
   | true => exact (h.used.2.2 k).2 hb
   | false => exact absurd ((ho.2 k).2 ⟨List.mem_range.1 hk, hb⟩) (by simp))
  rw [List.length_range] at h1
  omega
 | cons i o =>
  rw [cont_cons] at e
  obtain ⟨h1, h2, h3⟩ := ho.uncons
  have h4 := nw_bound T h.used h1
  have h5 := wt_comp T h1 h3
  omega
theorem At.next {n s : Nat} {F L : List Int} {N : List (List Int)} {S u : Int} {p : List Nat} (h : At n F L N S p s u) {i : Nat} {v : Int} (hi : i < n) (hs : s.testBit i = false) (hv : Good n L N (s ||| 2 ^ i) i v) (e : nw F N p i + v = u)
  (hno : ∀ k w, k < i → s.testBit k = false → Good n L N (s ||| 2 ^ k) k w → nw F N p k + w ≠ u) : At n F L N S (p ++ [i]) (s ||| 2 ^ i) (u - nw F N p i) where
 used := h.used.snoc hi hs
 up o ho := by rw [cont_snoc]; have := hv.1 o ho; omega
 att := by
  obtain ⟨o, ho, e2⟩ := hv.2
  exact ⟨o, ho, by rw [cont_snoc]; omega⟩
 split o := by
  rw [List.append_assoc, List.singleton_append, h.split, cont_cons, cont_snoc]; omega
 first c hc ht := by
  rcases h.first c hc ht with ⟨o, rfl⟩ | h1
  ·have h2 := h.used.comp.1 hc
   have h3 := h.split o
   cases o with
   | nil =>
    exact absurd ((h2.2 i).2 ⟨hi, hs⟩) (by simp)
   | cons j o =>
    obtain ⟨h4, h5, h6⟩ := h2.uncons
    rw [cont_cons] at h3
    rcases Nat.lt_trichotomy i j with h7 | rfl | h7
    ·exact .inr ⟨p, i, j, [], o, rfl, rfl, h7⟩
    ·exact .inl ⟨o, by simp⟩
    ·exfalso
     have h8 : wt L N j o = u - nw F N p j := by omega
     refine hno j (u - nw F N p j) h7 h5 ⟨fun o2 h9 => ?_, o, h6, h8⟩ (by omega)
     have := h.up (j :: o2) (Comp.cons h4 h5 h9)
     rw [cont_cons] at this
     omega
  ·exact .inr (h1.snoc i)
theorem At.some {n s : Nat} {F L : List Int} {N : List (List Int)} {S u : Int} {p : List Nat} (h : At n F L N S p s u) (hp : p.length < n) : ∃ i, i < n ∧ s.testBit i = false ∧ ∀ v, Good n L N (s ||| 2 ^ i) i v → nw F N p i + v = u := by
 obtain ⟨o, ho, e⟩ := h.att
 cases o with
 | nil =>
  have h1 := List.Nodup.length_le_of_subset (List.nodup_range (n := n)) (l₂ := p) (fun k hk => by
   cases hb : s.testBit k with
   | true => exact (h.used.2.2 k).2 hb
   | false => exact absurd ((ho.2 k).2 ⟨List.mem_range.1 hk, hb⟩) (by simp))
  rw [List.length_range] at h1
  omega
 | cons i o =>
  rw [cont_cons] at e
  obtain ⟨h1, h2, h3⟩ := ho.uncons
  refine ⟨i, h1, h2, fun v hv => ?_⟩
  have h4 := hv.1 o h3
  obtain ⟨o2, h5, h6⟩ := hv.2
  have h7 := h.up (i :: o2) (Comp.cons h1 h2 h5)
  rw [cont_cons] at h7
  omega
theorem Good.unique {n s i : Nat} {L : List Int} {N : List (List Int)} {v w : Int} (h : Good n L N s i v) (h2 : Good n L N s i w) : v = w := by
 obtain ⟨o, ho, e⟩ := h.2
 obtain ⟨o2, ho2, e2⟩ := h2.2
 have := h.1 o2 ho2
 have := h2.1 o ho
 omega
theorem cs_len (p : List Nat) : (cs p).length = p.length := by simp [cs]
theorem best_l2 {n s : Nat} {F L : List Int} {N R : List (List Int)} {S u : Int} {p : List Nat} (T : TabOk n F L N) (hR : R.length = 2 ^ n ∧ ∀ t, t < 2 ^ n → RowGood n L N t (R.getD t [])) (h : At n F L N S p s u) (hp : p.length < n) {P : List Int × Int × Int → Prop}
  (K : ∀ i u2, At n F L N S (p ++ [i]) (s ||| 2 ^ i) u2 → Gets (fun k => piece_Best.l1 k (n : Int) R (cs (p ++ [i])) ((s ||| 2 ^ i : Nat) : Int) S u2 F L N) P) (d : Nat) :
  ∀ q : Nat, q + d = n → (∀ k, k < q → s.testBit k = false → nw F N p k + (R.getD (s ||| 2 ^ k) []).getD k 0 ≠ u) → Gets (fun k => piece_Best.l2 k (n : Int) R (cs p) (s : Int) S u (n : Int) (q : Int) F L N) P := by
 have hn := T.n12
 have hp2 := p12 hn
 have hg : ∀ k, k < n → s.testBit k = false → Good n L N (s ||| 2 ^ k) k ((R.getD (s ||| 2 ^ k) []).getD k 0) := fun k hk _ => (hR.2 _ (put_lt h.used.1 hk)).2 k hk
 induction d with
 | zero =>
  intro q hq hno
  obtain ⟨i, h1, h2, h3⟩ := h.some hp
  exact absurd (h3 _ (hg i h1 h2)) (hno i (by omega) h2)
 | succ d ih =>
  intro q hq hno
  have hqn : q < n := by omega
  have hs62 := p62 hn h.used.1
  have hb0 := nw_bound T h.used hqn
  have hub := h.bound T hp
  have next : s.testBit q = true ∨ nw F N p q + (R.getD (s ||| 2 ^ q) []).getD q 0 ≠ u → Gets (fun k => piece_Best.l2 k (n : Int) R (cs p) (s : Int) S u (n : Int) ((q + 1 : Nat) : Int) F L N) P := by
   intro hc
   refine ih (q + 1) (by omega) fun k hk hs => ?_
   rcases Nat.lt_or_eq_of_le (Nat.lt_succ_iff.1 hk) with h1 | rfl
   ·exact hno k h1 hs
   ·rcases hc with h1 | h1
    ·rw [h1] at hs; cases hs
    ·exact h1
  have take : s.testBit q = false → nw F N p q + (R.getD (s ||| 2 ^ q) []).getD q 0 = u → Gets (fun k => piece_Best.l1 k (n : Int) R (cs p ++ [(q : Int)]) ((s ||| 2 ^ q : Nat) : Int) S (wrap64 (u - nw F N p q)) F L N) P := by
   intro hs e
   rw [w64 (by omega) (by omega)]
   have h1 := K q (u - nw F N p q) (h.next hqn hs (hg q hqn hs) e (fun k w hk hs2 hw => by rw [hw.unique (hg k (by omega) hs2)]; exact hno k hk hs2))
   simpa [cs] using h1
  have hrow : s.testBit q = false → (R.getD (s ||| 2 ^ q) []).length = n := fun hs => (hR.2 _ (put_lt h.used.1 hqn)).1
  have hlt : s ||| 2 ^ q < 2 ^ n := put_lt h.used.1 hqn
  have hRl := hR.1
  refine Gets.up ?_
  simp only [piece_Best.l2, if_pos (show (q : Int) < (n : Int) by omega), if_pos (show (0 : Int) ≤ (q : Int) by omega), has64 s q hs62 (by omega), w1 q n hqn (by omega), put64 s q hs62 (by omega), if_pos (show (0 : Int) ≤ ((s ||| 2 ^ q : Nat) : Int) by omega), if_pos (show ((s ||| 2 ^ q : Nat) : Int) < (R.length : Int) by omega), at_row, at_one, cs_len, if_pos (show p.length < 17592186044416 by omega), T.f, T.m]
  rcases List.eq_nil_or_concat p with rfl | ⟨p0, a, rfl⟩
  ·have hnw : nw F N [] q = F.getD q 0 := rfl
   rw [hnw] at next take hb0
   simp only [List.length_nil, if_pos (show ((0 : Nat) : Int) = 0 from rfl)]
   cases hs : s.testBit q with
   | true => simp only [if_neg (show ¬ (true = false) by decide)]; exact next (.inl hs)
   | false =>
    have hgb := (hg q hqn hs).bound T hqn
    simp only [if_true, if_pos (show (q : Int) < ((R.getD (s ||| 2 ^ q) []).length : Int) by rw [hrow hs]; omega), show wrap64 (F.getD q 0 + (R.getD (s ||| 2 ^ q) []).getD q 0) = F.getD q 0 + (R.getD (s ||| 2 ^ q) []).getD q 0 by rw [w64] <;> omega]
    by_cases c : F.getD q 0 + (R.getD (s ||| 2 ^ q) []).getD q 0 = u
    ·simp only [if_pos c]; exact take hs c
    ·simp only [if_neg c]; exact next (.inr c)
  ·rw [List.concat_eq_append] at *
   have hnw : nw F N (p0 ++ [a]) q = (N.getD a []).getD q 0 := by unfold nw; rw [List.getLast?_concat]
   rw [hnw] at next take hb0
   have han : a < n := h.used.lt (by simp)
   have hlast : (cs (p0 ++ [a])).getD p0.length 0 = (a : Int) := by simp [cs, List.getD_eq_getElem?_getD]
   have hl : ((p0 ++ [a]).length : Int) - 1 = (p0.length : Int) := by simp
   have hw : wrap64 (((p0 ++ [a]).length : Int) - 1) = (p0.length : Int) := by rw [hl, w64] <;> omega
   simp only [hw, at_one, hlast, at_row, if_neg (show ¬ ((p0 ++ [a]).length : Int) = 0 by omega), if_pos (show (0 : Int) ≤ (p0.length : Int) by omega), if_pos (show (p0.length : Int) < ((p0 ++ [a]).length : Int) by omega), if_pos (show (0 : Int) ≤ (a : Int) by omega), if_pos (show (a : Int) < (n : Int) by omega), T.row a han, if_pos (show (q : Int) < (n : Int) by omega)]
   cases hs : s.testBit q with
   | true => simp only [if_neg (show ¬ (true = false) by decide)]; exact next (.inl hs)
   | false =>
    have hgb := (hg q hqn hs).bound T hqn
    simp only [if_true, if_pos (show (q : Int) < ((R.getD (s ||| 2 ^ q) []).length : Int) by rw [hrow hs]; omega), show wrap64 ((N.getD a []).getD q 0 + (R.getD (s ||| 2 ^ q) []).getD q 0) = (N.getD a []).getD q 0 + (R.getD (s ||| 2 ^ q) []).getD q 0 by rw [w64] <;> omega]
    by_cases c : (N.getD a []).getD q 0 + (R.getD (s ||| 2 ^ q) []).getD q 0 = u
    ·simp only [if_pos c]; exact take hs c
    ·simp only [if_neg c]; exact next (.inr c)
theorem best_l1 {n : Nat} {F L : List Int} {N R : List (List Int)} {S : Int} (T : TabOk n F L N) (hR : R.length = 2 ^ n ∧ ∀ t, t < 2 ^ n → RowGood n L N t (R.getD t [])) (hS : ∀ c, Comp n 0 c → tot F L N c ≤ S) (d : Nat) :
  ∀ (p : List Nat) (s : Nat) (u : Int), p.length + d = n → At n F L N S p s u → Gets (fun k => piece_Best.l1 k (n : Int) R (cs p) (s : Int) S u F L N) (BestRes n F L N) := by
 induction d with
 | zero =>
  intro p s u hp h
  refine Gets.up ?_
  simp only [piece_Best.l1, cs_len, if_neg (show ¬ (p.length : Int) < (n : Int) by omega)]
  obtain ⟨o, ho, e⟩ := h.att
  have h1 := h.used.comp.2 ho
  have h2 := h1.len
  rw [List.length_append] at h2
  obtain rfl : o = [] := List.eq_nil_of_length_eq_zero (by omega)
  rw [List.append_nil] at h1
  have h3 := h.split []
  rw [List.append_nil, e] at h3
  refine Gets.ret ⟨p, rfl, rfl, h1, by simp only; omega, hS, fun c hc ht => ?_⟩
  rcases h.first c hc ht with ⟨o, rfl⟩ | h4
  ·have h5 := hc.len
   rw [List.length_append] at h5
   obtain rfl : o = [] := List.eq_nil_of_length_eq_zero (by omega)
   exact .inl (List.append_nil p)
  ·exact .inr h4
 | succ d ih =>
  intro p s u hp h
  refine Gets.up ?_
  simp only [piece_Best.l1, cs_len, if_pos (show (p.length : Int) < (n : Int) by omega)]
  exact best_l2 T hR h (by omega) (fun i u2 h2 => ih _ _ _ (by rw [List.length_append, List.length_singleton]; omega) h2) n 0 (by omega) (fun k hk => absurd hk (by omega))
def PartT (n : Nat) (F L : List Int) (N : List (List Int)) (q : Nat) (v : Int) : Prop :=
 (∀ k o, k < q → k < n → Comp n (2 ^ k) o → F.getD k 0 + wt L N k o ≤ v) ∧ (v = -1099511627776 ∨ ∃ o, Comp n 0 o ∧ o ≠ [] ∧ tot F L N o = v)
theorem tot_bound {n : Nat} {F L : List Int} {N : List (List Int)} (T : TabOk n F L N) {o : List Nat} (h : Comp n 0 o) : -14000000 ≤ tot F L N o ∧ tot F L N o ≤ 14000000 := by
 cases o with
 | nil => simp only [tot]; omega
 | cons i o =>
  obtain ⟨h1, h2, h3⟩ := h.uncons
  have := wt_comp T h1 h3
  have := T.wf i h1
  simp only [tot]; omega
theorem best_l0 {n : Nat} {F L : List Int} {N R : List (List Int)} (T : TabOk n F L N) (hn0 : 0 < n) (hR : R.length = 2 ^ n ∧ ∀ t, t < 2 ^ n → RowGood n L N t (R.getD t [])) (d : Nat) :
  ∀ (q : Nat) (v : Int), q + d = n → PartT n F L N q v → Gets (fun k => piece_Best.l0 k (n : Int) R 0 v (n : Int) (q : Int) F L N) (BestRes n F L N) := by
 have hn := T.n12
 have hp2 := p12 hn
 induction d with
 | zero =>
  intro q v hq h
  obtain rfl : q = n := by omega
  refine Gets.up ?_
  simp only [piece_Best.l0, if_neg (show ¬ (q : Int) < (q : Int) by omega)]
  have up : ∀ c, Comp q 0 c → tot F L N c ≤ v := by
   intro c hc
   cases c with
   | nil => exact absurd ((hc.2 0).2 ⟨hn0, Nat.zero_testBit 0⟩) (by simp)
   | cons k o =>
    obtain ⟨h1, h2, h3⟩ := hc.uncons
    rw [Nat.zero_or] at h3
    exact h.1 k o h1 h1 h3
  have att : ∃ o, Comp q 0 o ∧ tot F L N o = v := by
   rcases h.2 with e | ⟨o, h1, _, h2⟩
   ·obtain ⟨o, ho⟩ := Comp.exists q 0
    have := up o ho
    have := tot_bound T ho
    omega
   ·exact ⟨o, h1, h2⟩
  exact best_l1 T hR up q [] 0 v (by simp) ⟨⟨Nat.two_pow_pos q, List.nodup_nil, fun k => by simp⟩, up, att, fun o => by rw [List.nil_append]; show tot F L N o = v - v + tot F L N o; omega, fun c _ _ => .inl ⟨c, rfl⟩⟩
 | succ d ih =>
  intro q v hq h
  have hqn : q < n := by omega
  have hlt : 2 ^ q < 2 ^ n := Nat.pow_lt_pow_right (by omega) hqn
  have hg := (hR.2 _ hlt)
  have hgq := hg.2 q hqn
  have hgb := hgq.bound T hqn
  have hfb := T.wf q hqn
  have hRl := hR.1
  have hsh : shl .i64 1 (q : Int) = ((2 ^ q : Nat) : Int) := shl64 q (by omega)
  have hst : PartT n F L N (q + 1) (mx v (F.getD q 0 + (R.getD (2 ^ q) []).getD q 0)) := by
   generalize (R.getD (2 ^ q) []).getD q 0 = w at hgq hgb
   have m1 : v ≤ mx v (F.getD q 0 + w) := by unfold mx; split <;> omega
   have m2 : F.getD q 0 + w ≤ mx v (F.getD q 0 + w) := by unfold mx; split <;> omega
   refine ⟨fun k o hk hn ho => ?_, ?_⟩
   ·rcases Nat.lt_or_eq_of_le (Nat.lt_succ_iff.1 hk) with h1 | rfl
    ·exact Int.le_trans (h.1 k o h1 hn ho) m1
    ·have := hgq.1 o ho; omega
   ·by_cases c : v < F.getD q 0 + w
    ·obtain ⟨o, ho, e⟩ := hgq.2
     refine .inr ⟨q :: o, Comp.cons hqn (Nat.zero_testBit q) (by rw [Nat.zero_or]; exact ho), by simp, ?_⟩
     simp only [tot, mx, if_pos c, e]
    ·rw [show mx v (F.getD q 0 + w) = v by unfold mx; rw [if_neg c]]
     exact h.2
  have hwr : wrap64 (F.getD q 0 + (R.getD (2 ^ q) []).getD q 0) = F.getD q 0 + (R.getD (2 ^ q) []).getD q 0 := w64 (by omega) (by omega)
  generalize 2 ^ q = m at *
  refine Gets.up ?_
  simp only [piece_Best.l0, if_pos (show (q : Int) < (n : Int) by omega), if_pos (show (0 : Int) ≤ (q : Int) by omega), T.f, hsh, if_pos (show (0 : Int) ≤ (m : Int) by omega), if_pos (show (m : Int) < (R.length : Int) by omega), at_row, at_one, if_pos (show (q : Int) < ((R.getD m []).length : Int) by rw [hg.1]; omega), w1 q n hqn (by omega), hwr]
  exact ih (q + 1) _ (by omega) hst
theorem best_f {n : Nat} {F L : List Int} {N : List (List Int)} (T : TabOk n F L N) : Gets (fun k => piece_Best.f k F L N) (BestRes n F L N) := by
 unfold piece_Best.f
 refine (check_f T).bind fun t ht => ?_
 subst ht
 simp only [if_true, T.f]
 by_cases c : n = 0
 ·simp only [if_pos (show (n : Int) = 0 by omega)]
  subst c
  refine Gets.ret ⟨[], rfl, rfl, ⟨List.nodup_nil, fun k => by simp⟩, rfl, fun o ho => ?_, fun o ho _ => .inl ?_⟩
  ·rw [List.eq_nil_of_length_eq_zero (Nat.le_zero.1 ho.len)]; exact Int.le_refl _
  ·exact List.eq_nil_of_length_eq_zero (Nat.le_zero.1 ho.len)
 ·simp only [if_neg (show ¬ (n : Int) = 0 by omega)]
  refine (rests_f T).bind fun R hR => ?_
  exact best_l0 T (by omega) hR n 0 _ (by omega) ⟨fun k o hk => absurd hk (by omega), .inl rfl⟩
end Go.Proofs.Ytehkplafehlkgaa.Pure.BestPieceAbove
namespace Go.Proofs.Ytehkplafehlkgaa.Pure.BestPieceAbove
set_option linter.unusedSimpArgs false
open Go.RowKit Go.Proofs.Ytehkplafehlkgaa.PPieceAbove Go.Proofs.YtehkplafehlkgaaW.PrintWords Go.Proofs.YtehkplafehlkgaaW.PrintLast Go.Proofs.YtehkplafehlkgaaW.PrintMore Go.Proofs.YtehkplafehlkgaaW.Plib
theorem below_f {a n : Int} (hn : 0 < n) (hn2 : n ≤ 9223372036854775807) : wrackmake_Below.f a n = some (a % n) := by
 unfold wrackmake_Below.f
 rw [if_neg (by omega), ← below_val hn hn2]
 split <;> rfl
theorem next_f (l : List Int) {n : Int} (hn : 0 < n) (hn2 : n ≤ 9223372036854775807) : ∃ v l', wrackmake_Stream_Next.f l n = some (v, l') ∧ 0 ≤ v ∧ v < n := by
 unfold wrackmake_Stream_Next.f
 by_cases h : (l.length : Int) = 0
 ·exact ⟨0, l, by rw [if_pos h], by omega, hn⟩
 ·refine ⟨rd l 0 % n, l.drop 1, ?_, Int.emod_nonneg _ (by omega), Int.emod_lt_of_pos _ hn⟩
  rw [if_neg h, if_neg (by omega), below_f hn hn2, Option.bind_some]
theorem getD_snoc {α : Type} (xs : List α) (y d : α) (j : Nat) : (xs ++ [y]).getD j d = if j < xs.length then xs.getD j d else if j = xs.length then y else d := by
 rw [List.getD_eq_getElem?_getD]
 by_cases h : j < xs.length
 ·rw [if_pos h, List.getElem?_append_left h, ← List.getD_eq_getElem?_getD]
 ·rw [if_neg h, List.getElem?_append_right (by omega)]
  by_cases h2 : j = xs.length
  ·rw [if_pos h2, h2, Nat.sub_self]; rfl
  ·rw [if_neg h2, show j - xs.length = (j - xs.length - 1) + 1 by omega]; rfl
def Ws (xs : List Int) : Prop := ∀ k, k < xs.length → -1000000 ≤ xs.getD k 0 ∧ xs.getD k 0 ≤ 1000000
theorem Ws.nil : Ws [] := fun k hk => absurd hk (Nat.not_lt_zero k)
theorem Ws.snoc {xs : List Int} {v : Int} (h : Ws xs) (h0 : -1000000 ≤ v) (h1 : v ≤ 1000000) : Ws (xs ++ [v]) := by
 intro k hk
 rw [List.length_append, List.length_singleton] at hk
 rw [getD_snoc]
 by_cases c : k < xs.length
 ·rw [if_pos c]; exact h k c
 ·rw [if_neg c, if_pos (by omega)]; exact ⟨h0, h1⟩
theorem table_l1 {n i : Nat} (hn : n ≤ 12) (hi : i < n) {F L : List Int} {N : List (List Int)} (hN : N.length = i) {P : List Int × List Int × List (List Int) → Prop}
  (K : ∀ (row s : List Int), row.length = n → Ws row → Gets (fun k => wrackkeep3_table.l0 k (n : Int) (n : Int) ((i + 1 : Nat) : Int) s F L (N ++ [row])) P) (d : Nat) :
  ∀ (q : Nat) (row s : List Int), q + d = n → row.length = q → Ws row → Gets (fun k => wrackkeep3_table.l1 k (n : Int) row (n : Int) (i : Int) (n : Int) (q : Int) s F L N) P := by
 induction d with
 | zero =>
  intro q row s hq hl hr
  have q1 : ¬ (q : Int) < (n : Int) := by omega
  have q2 : i < 5864062014805 := by omega
  refine Gets.up ?_
  simp only [wrackkeep3_table.l1]
  rw [hN, w1 i n hi (by omega)]
  simp -implicitDefEqProofs only [if_neg q1, if_pos q2]
  exact K row s (by omega) hr
 | succ d ih =>
  intro q row s hq hl hr
  obtain ⟨v, s2, hv, hv0, hv1⟩ := next_f s (n := 50) (by omega) (by omega)
  have q1 : (q : Int) < (n : Int) := by omega
  have q2 : q < 17592186044416 := by omega
  have h1 : -1000000 ≤ v - 10 := by omega
  have h2 : v - 10 ≤ 1000000 := by omega
  have hL : (row ++ [v - 10]).length = q + 1 := by rw [List.length_append, List.length_singleton, hl]
  have hw : wrap64 (v - 10) = v - 10 := by rw [w64] <;> omega
  refine Gets.up ?_
  simp only [wrackkeep3_table.l1]
  rw [hv, hl, w1 q n (by clear hw; omega) (by clear hw; omega)]
  simp -implicitDefEqProofs only [if_pos q1, if_pos q2, Option.bind_some]
  rw [hw]
  exact ih (q + 1) _ s2 (by clear hw; omega) hL (hr.snoc h1 h2)
structure Pre (n q : Nat) (F L : List Int) (N : List (List Int)) : Prop where
 f : F.length = q
 l : L.length = q
 m : N.length = q
 wf : Ws F
 wl : Ws L
 row : ∀ i, i < q → (N.getD i []).length = n ∧ Ws (N.getD i [])
theorem Pre.ok {n : Nat} {F L : List Int} {N : List (List Int)} (hn : n ≤ 12) (h : Pre n n F L N) : TabOk n F L N where
 n12 := hn
 f := h.f
 l := h.l
 m := h.m
 row i hi := (h.row i hi).1
 wf i hi := h.wf i (by rw [h.f]; exact hi)
 wl i hi := h.wl i (by rw [h.l]; exact hi)
 wn i k hi hk := (h.row i hi).2 k (by rw [(h.row i hi).1]; exact hk)
theorem table_l0 {n : Nat} (hn : n ≤ 12) (d : Nat) : ∀ (q : Nat) (F L s : List Int) (N : List (List Int)), q + d = n → Pre n q F L N →
  Gets (fun k => wrackkeep3_table.l0 k (n : Int) (n : Int) (q : Int) s F L N) (fun r => TabOk n r.1 r.2.1 r.2.2) := by
 induction d with
 | zero =>
  intro q F L s N hq h
  obtain rfl : q = n := by omega
  refine Gets.up ?_
  simp only [wrackkeep3_table.l0, if_neg (show ¬ (q : Int) < (q : Int) by omega)]
  exact Gets.ret (h.ok hn)
 | succ d ih =>
  intro q F L s N hq h
  obtain ⟨v, s2, hv, hv0, hv1⟩ := next_f s (n := 20) (by omega) (by omega)
  obtain ⟨u, s3, hu, hu0, hu1⟩ := next_f s2 (n := 20) (by omega) (by omega)
  have q1 : (q : Int) < (n : Int) := by omega
  have q2 : q < 17592186044416 := by omega
  have b1 : -1000000 ≤ v - 5 := by omega
  have b2 : v - 5 ≤ 1000000 := by omega
  have b3 : -1000000 ≤ u - 5 := by omega
  have b4 : u - 5 ≤ 1000000 := by omega
  have hK : ∀ (row s : List Int), row.length = n → Ws row → Gets (fun k => wrackkeep3_table.l0 k (n : Int) (n : Int) ((q + 1 : Nat) : Int) s (F ++ [v - 5]) (L ++ [u - 5]) (N ++ [row])) (fun r => TabOk n r.1 r.2.1 r.2.2) := by
   intro row s' hl hr
   refine ih (q + 1) _ _ s' _ (by omega) ⟨by rw [List.length_append, List.length_singleton, h.f], by rw [List.length_append, List.length_singleton, h.l], by rw [List.length_append, List.length_singleton, h.m], h.wf.snoc b1 b2, h.wl.snoc b3 b4, fun i hi => ?_⟩
   rw [getD_snoc, h.m]
   by_cases c : i < q
   ·rw [if_pos c]; exact h.row i c
   ·rw [if_neg c, if_pos (by omega)]; exact ⟨hl, hr⟩
  have key := table_l1 hn (show q < n by omega) h.m hK n 0 [] s3 (by omega) rfl Ws.nil
  have hw : wrap64 (v - 5) = v - 5 := by rw [w64] <;> omega
  have hw2 : wrap64 (u - 5) = u - 5 := by clear hw; rw [w64] <;> omega
  refine Gets.up ?_
  simp only [wrackkeep3_table.l0]
  rw [hv, h.f, h.l]
  simp -implicitDefEqProofs only [if_pos q1, if_pos q2, Option.bind_some, hu]
  rw [hw, hw2]
  exact key
theorem table_f (l : List Int) : Gets (fun k => wrackkeep3_table.f k l) (fun r => ∃ n, n < 9 ∧ TabOk n r.1 r.2.1 r.2.2) := by
 obtain ⟨v, s, hv, h0, h1⟩ := next_f l (n := 9) (by omega) (by omega)
 obtain ⟨n, rfl⟩ : ∃ n : Nat, v = (n : Int) := ⟨v.toNat, by omega⟩
 simp only [wrackkeep3_table.f, hv, Option.bind_some]
 exact (table_l0 (n := n) (by omega) n 0 [] [] s [] (by omega) ⟨rfl, rfl, rfl, Ws.nil, Ws.nil, fun i hi => absurd hi (Nat.not_lt_zero i)⟩).imp fun r hr => ⟨n, by omega, hr⟩
end Go.Proofs.Ytehkplafehlkgaa.Pure.BestPieceAbove
namespace Go.Proofs.Ytehkplafehlkgaa.Pure.BestPieceAbove
set_option linter.unusedSimpArgs false
open Go.RowKit Go.Proofs.Ytehkplafehlkgaa.PPieceAbove Go.Proofs.YtehkplafehlkgaaW.PrintWords Go.Proofs.YtehkplafehlkgaaW.PrintLast Go.Proofs.YtehkplafehlkgaaW.PrintMore Go.Proofs.YtehkplafehlkgaaW.Plib
theorem ordered_tab : TabOk 2 [0, 0] [0, 0] [[0, 0], [5, 0]] where
 n12 := by decide
 f := rfl
 l := rfl
 m := rfl
 row := by decide
 wf := by decide
 wl := by decide
 wn := fun i k hi hk => by
  have h : ∀ i, i < 2 → ∀ k, k < 2 → -1000000 ≤ (([[0, 0], [5, 0]] : List (List Int)).getD i []).getD k 0 ∧ (([[0, 0], [5, 0]] : List (List Int)).getD i []).getD k 0 ≤ 1000000 := by decide
  exact h i hi k hk
theorem ordered_f : Gets (fun k => wrackkeep3_ordered.f k) (· = true) := by
 unfold wrackkeep3_ordered.f
 refine (best_f ordered_tab).bind fun r hr => ?_
 obtain ⟨p, h1, h2, h3, h4, h5, -⟩ := hr
 obtain ⟨p', S, e⟩ := r
 simp only at h1 h2 h4 h5
 have c0 : Comp 2 0 [1, 0] := ⟨by decide, fun k => by
  rw [Nat.zero_testBit]
  simp
  omega⟩
 have h6 := h5 _ c0
 have h7 : tot [0, 0] [0, 0] [[0, 0], [5, 0]] [1, 0] = 5 := rfl
 rw [h7] at h6
 have h8 := h3.len
 have a0 := (h3.2 0).2 ⟨by decide, Nat.zero_testBit 0⟩
 have a1 := (h3.2 1).2 ⟨by decide, Nat.zero_testBit 1⟩
 have hp : p = [1, 0] := by
  match p, h8, a0, a1, h4 with
  | [], _, a0, _, _ => simp at a0
  | [a], _, a0, a1, _ => simp at a0 a1; omega
  | [a, b], _, a0, a1, h4 =>
   simp at a0 a1
   by_cases c : a = 0
   ·obtain rfl := c
    obtain rfl : b = 1 := by omega
    have : tot [0, 0] [0, 0] [[0, 0], [5, 0]] [0, 1] = 0 := rfl
    omega
   ·obtain rfl : a = 1 := by omega
    obtain rfl : b = 0 := by omega
    rfl
  | a :: b :: c :: t, h8, _, _, _ => simp at h8
 subst hp
 rw [h7] at h4
 subst h1 h2 h4
 simp only [if_true]
 exact ⟨true, rfl, 4, fun k hk => by obtain ⟨m, rfl⟩ : ∃ m, k = m + 4 := ⟨k - 4, by omega⟩; simp [slices_Equal_int_int.f, slices_Equal_int_int.l0, cs, rd, wrap64]⟩
end Go.Proofs.Ytehkplafehlkgaa.Pure.BestPieceAbove
namespace Go.Proofs.Ytehkplafehlkgaa.Pure
set_option linter.unusedSimpArgs false
set_option linter.unusedVariables false
open Go.RowKit Go.Proofs.Ytehkplafehlkgaa.PPieceAbove Go.Proofs.YtehkplafehlkgaaW.PrintWords Go.Proofs.YtehkplafehlkgaaW.PrintLast Go.Proofs.YtehkplafehlkgaaW.PrintMore Go.Proofs.YtehkplafehlkgaaW.Plib Go.Proofs.Ytehkplafehlkgaa.Pure.BestPieceAbove
namespace AboveP
def W (n : Nat) (F L : List Int) (N : List (List Int)) (i k : Nat) : Int := if i = n then F.getD k 0 else if k = n then L.getD i 0 else (N.getD i []).getD k 0
section
variable {n : Nat} {F L : List Int} {N : List (List Int)}
theorem W_bound (T : TabOk n F L N) {i k : Nat} (hi : i ≤ n) (hk : k ≤ n) (h : i ≠ k) : -1000000 ≤ W n F L N i k ∧ W n F L N i k ≤ 1000000 := by
 unfold W
 by_cases c : i = n
 ·rw [if_pos c]; exact T.wf k (by omega)
 ·rw [if_neg c]
  by_cases d : k = n
  ·rw [if_pos d]; exact T.wl i (by omega)
  ·rw [if_neg d]; exact T.wn i k (by omega) (by omega)
theorem cell_f (T : TabOk n F L N) {i k : Nat} (hi : i ≤ n) (hk : k ≤ n) : Gets (fun m => piece_cell.f m F L N (i : Int) (k : Int)) (fun r => r.2 = decide (i ≠ k) ∧ (i ≠ k → r.1 = W n F L N i k)) := by
 have hj : ∀ b : Bool, b = decide (i = n ∧ k = n) → Gets (fun m => piece_cell.j0 m (i : Int) (k : Int) (n : Int) b F L N) (fun r => r.2 = decide (i ≠ k) ∧ (i ≠ k → r.1 = W n F L N i k)) := by
  intro b hb
  refine Gets.up ?_
  simp only [piece_cell.j0]
  by_cases c : i = n
  ·by_cases d : k = n
   ·rw [if_pos (by rw [hb]; exact decide_eq_true ⟨c, d⟩)]
    exact Gets.ret ⟨(decide_eq_false (fun h => h (by omega))).symm, fun h => absurd (by omega) h⟩
   ·have q0 : ¬ b = true := by rw [hb, decide_eq_false (fun h => d h.2)]; simp
    have q1 : (i : Int) = (n : Int) := by omega
    have q2 : (0 : Int) ≤ (k : Int) := by omega
    have q3 : (k : Int) < (F.length : Int) := by rw [T.f]; omega
    simp -implicitDefEqProofs only [if_neg q0, if_pos q1, if_pos q2, if_pos q3]
    refine Gets.ret ⟨(decide_eq_true (by omega)).symm, fun h => ?_⟩
    rw [W, if_pos c, at_one]
  ·have q0 : ¬ b = true := by rw [hb, decide_eq_false (fun h => c h.1)]; simp
   have q1 : ¬ (i : Int) = (n : Int) := by omega
   have q2 : (0 : Int) ≤ (i : Int) := by omega
   by_cases d : k = n
   ·have q3 : (k : Int) = (n : Int) := by omega
    have q4 : (i : Int) < (L.length : Int) := by rw [T.l]; omega
    simp -implicitDefEqProofs only [if_neg q0, if_neg q1, if_pos q3, if_pos q2, if_pos q4]
    refine Gets.ret ⟨(decide_eq_true (by omega)).symm, fun h => ?_⟩
    rw [W, if_neg c, if_pos d, at_one]
   ·have q3 : ¬ (k : Int) = (n : Int) := by omega
    have q4 : (i : Int) < (N.length : Int) := by rw [T.m]; omega
    have q5 : (0 : Int) ≤ (k : Int) := by omega
    have q6 : (k : Int) < ((N.getD i []).length : Int) := by rw [T.row i (by omega)]; omega
    simp -implicitDefEqProofs only [if_neg q0, if_neg q1, if_neg q3, if_pos q2, if_pos q4, if_pos q5, at_row, if_pos q6, at_one]
    refine Gets.ret ⟨?_, fun h => ?_⟩
    ·by_cases e : i = k
     ·subst e; simp
     ·rw [decide_eq_true e]; simp; omega
    ·rw [W, if_neg c, if_neg d]
 unfold piece_cell.f
 rw [T.f]
 by_cases c : i = n
 ·have q1 : (i : Int) = (n : Int) := by omega
  simp -implicitDefEqProofs only [if_pos q1]
  refine hj _ ?_
  by_cases d : k = n
  ·rw [decide_eq_true (show i = n ∧ k = n from ⟨c, d⟩), d]; simp
  ·rw [decide_eq_false (fun h => d h.2)]; simp; omega
 ·have q1 : ¬ (i : Int) = (n : Int) := by omega
  simp -implicitDefEqProofs only [if_neg q1]
  exact hj _ (decide_eq_false (fun h => c h.1)).symm
def sm (O I : List Int) : Nat → Int
 | 0 => 0
 | j + 1 => sm O I j + (O.getD j 0 + I.getD j 0)
def Ok (n : Nat) (F L : List Int) (N : List (List Int)) (O I : List Int) : Prop := ∀ i k, i ≤ n → k ≤ n → i ≠ k → W n F L N i k ≤ O.getD i 0 + I.getD k 0
structure Rng (n : Nat) (O I : List Int) : Prop where
 o : O.length = n + 1
 i : I.length = n + 1
 ro : ∀ q, q ≤ n → -4000000 ≤ O.getD q 0 ∧ O.getD q 0 ≤ 4000000
 ri : ∀ q, q ≤ n → -4000000 ≤ I.getD q 0 ∧ I.getD q 0 ≤ 4000000
theorem sm_bound {O I : List Int} (R : Rng n O I) : ∀ j, j ≤ n + 1 → -8000000 * (j : Int) ≤ sm O I j ∧ sm O I j ≤ 8000000 * (j : Int)
 | 0, _ => by simp [sm]
 | j + 1, h => by
  have h1 := sm_bound R j (by omega)
  have h2 := R.ro j (by omega)
  have h3 := R.ri j (by omega)
  simp only [sm]
  omega
def Res (n : Nat) (F L : List Int) (N : List (List Int)) (O I : List Int) (r : Int × Int) : Prop := (Ok n F L N O I ∧ r = (sm O I (n + 1), 0)) ∨ (¬ Ok n F L N O I ∧ r.2 = 17)
variable {O I : List Int}
def Up (n : Nat) (F L : List Int) (N : List (List Int)) (O I : List Int) (i : Nat) : Prop := ∀ q, q < i → W n F L N n q ≤ O.getD n 0 + I.getD q 0 ∧ W n F L N q n ≤ O.getD q 0 + I.getD n 0 ∧ ∀ k, k < n → k ≠ q → W n F L N q k ≤ O.getD q 0 + I.getD k 0
theorem Up.ok (h : Up n F L N O I n) : Ok n F L N O I := by
 intro i k hi hk hik
 by_cases c : i = n
 ·subst c; exact (h k (by omega)).1
 ·by_cases d : k = n
  ·subst d; exact (h i (by omega)).2.1
  ·exact (h i (by omega)).2.2 k (by omega) (fun e => hik e.symm)
theorem holds_l3 (T : TabOk n F L N) (R : Rng n O I) {i : Nat} (hi : i < n) {S u v : Int} (hu : Up n F L N O I i) (h1 : W n F L N n i ≤ O.getD n 0 + I.getD i 0) (h2 : W n F L N i n ≤ O.getD i 0 + I.getD n 0)
  (K : Up n F L N O I (i + 1) → Gets (fun k => piece_Holds.l2 k (n : Int) S (n : Int) ((i + 1 : Nat) : Int) F L N O I) (Res n F L N O I)) (d : Nat) :
  ∀ q : Nat, q + d = n → (∀ k, k < q → k ≠ i → W n F L N i k ≤ O.getD i 0 + I.getD k 0) → Gets (fun k => piece_Holds.l3 k (n : Int) S (i : Int) (n : Int) (i : Int) (n : Int) (q : Int) F L N O I) (Res n F L N O I) := by
 have hn := T.n12
 induction d with
 | zero =>
  intro q hq h
  obtain rfl : q = n := by omega
  refine Gets.up ?_
  simp only [piece_Holds.l3]
  rw [w1 i q hi (by omega)]
  simp -implicitDefEqProofs only [if_neg (show ¬ (q : Int) < (q : Int) by omega)]
  refine K fun j hj => ?_
  by_cases c : j = i
  ·subst c; exact ⟨h1, h2, h⟩
  ·exact hu j (by omega)
 | succ d ih =>
  intro q hq h
  have q1 : (q : Int) < (n : Int) := by omega
  refine Gets.up ?_
  simp only [piece_Holds.l3]
  rw [w1 q n (by omega) (by omega)]
  simp -implicitDefEqProofs only [if_pos q1]
  by_cases c : q = i
  ·simp -implicitDefEqProofs only [if_pos (show (q : Int) = (i : Int) by omega)]
   refine ih (q + 1) (by omega) fun k hk hki => ?_
   exact h k (by omega) hki
  ·have q2 : ¬ (q : Int) = (i : Int) := by omega
   have q3 : (0 : Int) ≤ (i : Int) := by omega
   have q4 : (i : Int) < (N.length : Int) := by rw [T.m]; omega
   have q5 : (0 : Int) ≤ (q : Int) := by omega
   have q6 : (q : Int) < ((N.getD i []).length : Int) := by rw [T.row i hi]; omega
   have q7 : (i : Int) < (O.length : Int) := by rw [R.o]; omega
   have q8 : (q : Int) < (I.length : Int) := by rw [R.i]; omega
   have b1 := R.ro i (by omega)
   have b2 := R.ri q (by omega)
   have hw : wrap64 (O.getD i 0 + I.getD q 0) = O.getD i 0 + I.getD q 0 := w64 (by omega) (by omega)
   have hW : W n F L N i q = (N.getD i []).getD q 0 := by rw [W, if_neg (by omega), if_neg (by omega)]
   simp -implicitDefEqProofs only [if_neg q2, if_pos q3, if_pos q4, if_pos q5, at_row, at_one, if_pos q6, if_pos q7, if_pos q8, hw]
   rw [← hW]
   clear hw
   by_cases e : W n F L N i q > O.getD i 0 + I.getD q 0
   ·simp only [if_pos e]
    refine Gets.ret (.inr ⟨fun hk => ?_, rfl⟩)
    have := hk i q (by omega) (by omega) (fun x => c x.symm)
    omega
   ·simp only [if_neg e]
    refine ih (q + 1) (by omega) fun k hk hki => ?_
    by_cases f : k = q
    ·subst f; omega
    ·exact h k (by omega) hki
theorem holds_l2 (T : TabOk n F L N) (R : Rng n O I) (d : Nat) : ∀ i : Nat, i + d = n → Up n F L N O I i → Gets (fun k => piece_Holds.l2 k (n : Int) (sm O I (n + 1)) (n : Int) (i : Int) F L N O I) (Res n F L N O I) := by
 have hn := T.n12
 induction d with
 | zero =>
  intro i hi hu
  obtain rfl : i = n := by omega
  refine Gets.up ?_
  simp only [piece_Holds.l2, if_neg (show ¬ (i : Int) < (i : Int) by omega)]
  exact Gets.ret (.inl ⟨hu.ok, rfl⟩)
 | succ d ih =>
  intro i hi hu
  have hin : i < n := by omega
  have q1 : (i : Int) < (n : Int) := by omega
  have q2 : (0 : Int) ≤ (i : Int) := by omega
  have q3 : (i : Int) < (F.length : Int) := by rw [T.f]; omega
  have q4 : (0 : Int) ≤ (n : Int) := by omega
  have q5 : (n : Int) < (O.length : Int) := by rw [R.o]; omega
  have q6 : (i : Int) < (I.length : Int) := by rw [R.i]; omega
  have q7 : (i : Int) < (L.length : Int) := by rw [T.l]; omega
  have q8 : (i : Int) < (O.length : Int) := by rw [R.o]; omega
  have q9 : (n : Int) < (I.length : Int) := by rw [R.i]; omega
  have b1 := R.ro n (by omega)
  have b2 := R.ri i (by omega)
  have b3 := R.ro i (by omega)
  have b4 := R.ri n (by omega)
  have hF : W n F L N n i = F.getD i 0 := by rw [W, if_pos rfl]
  have hL : W n F L N i n = L.getD i 0 := by rw [W, if_neg (by omega), if_pos rfl]
  have hK : W n F L N n i ≤ O.getD n 0 + I.getD i 0 → W n F L N i n ≤ O.getD i 0 + I.getD n 0 → Gets (fun k => piece_Holds.l3 k (n : Int) (sm O I (n + 1)) (i : Int) (n : Int) (i : Int) (n : Int) 0 F L N O I) (Res n F L N O I) :=
   fun h1 h2 => holds_l3 T R hin (u := 0) (v := 0) hu h1 h2 (fun hu' => ih (i + 1) (by omega) hu') n 0 (by omega) (fun k hk => absurd hk (by omega))
  have hw1 : wrap64 (O.getD n 0 + I.getD i 0) = O.getD n 0 + I.getD i 0 := w64 (by omega) (by omega)
  have hw2 : wrap64 (O.getD i 0 + I.getD n 0) = O.getD i 0 + I.getD n 0 := by clear hw1; exact w64 (by omega) (by omega)
  refine Gets.up ?_
  simp only [piece_Holds.l2]
  simp -implicitDefEqProofs only [if_pos q1, if_pos q2, if_pos q3, if_pos q4, if_pos q5, if_pos q6, at_one, hw1, if_pos q7, if_pos q8, if_pos q9, hw2]
  rw [← hF, ← hL]
  clear hw1 hw2
  by_cases e : W n F L N n i > O.getD n 0 + I.getD i 0
  ·simp only [if_pos e]
   refine Gets.up ?_
   simp only [piece_Holds.j4, if_true]
   refine Gets.ret (.inr ⟨fun hk => ?_, rfl⟩)
   have := hk n i (by omega) (by omega) (by omega)
   omega
  ·simp only [if_neg e]
   by_cases f : W n F L N i n > O.getD i 0 + I.getD n 0
   ·rw [decide_eq_true f]
    refine Gets.up ?_
    simp only [piece_Holds.j4, if_true]
    refine Gets.ret (.inr ⟨fun hk => ?_, rfl⟩)
    have := hk i n (by omega) (by omega) (by omega)
    omega
   ·rw [decide_eq_false f]
    refine Gets.up ?_
    simp only [piece_Holds.j4, if_neg (show ¬ false = true by simp)]
    exact hK (by omega) (by omega)
theorem holds_l1 (R : Rng n O I) {i : Nat} (hi : i ≤ n) (hn : n ≤ 12) {P : Int × Int → Prop} (K : Gets (fun k => piece_Holds.l0 k (n : Int) (sm O I (i + 1)) ((n + 1 : Nat) : Int) ((i + 1 : Nat) : Int) F L N O I) P) :
  Gets (fun k => piece_Holds.l1 k (n : Int) (sm O I i) ((n + 1 : Nat) : Int) (i : Int) [O.getD i 0, I.getD i 0] 2 0 F L N O I) P := by
 have b0 := sm_bound R i (by omega)
 have b1 := R.ro i hi
 have b2 := R.ri i hi
 have e : sm O I (i + 1) = sm O I i + (O.getD i 0 + I.getD i 0) := rfl
 rw [e] at K
 generalize O.getD i 0 = x at *
 generalize I.getD i 0 = y at *
 have hi' : (i : Int) ≤ 12 := by omega
 have q1 : ¬ x < -4000000 := by omega
 have q2 : ¬ x > 4000000 := by omega
 have q3 : ¬ y < -4000000 := by omega
 have q4 : ¬ y > 4000000 := by omega
 have r0 : rd [x, y] 0 = x := rfl
 have r1 : rd [x, y] 1 = y := rfl
 have hw2 : wrap64 (0 + 1) = 1 := w64 (by decide) (by decide)
 have hw3 : wrap64 (1 + 1) = 2 := w64 (by decide) (by decide)
 have hw1 : wrap64 (sm O I i + x) = sm O I i + x := w64 (by omega) (by omega)
 have hw4 : wrap64 (sm O I i + x + y) = sm O I i + (x + y) := by clear hw1 hw2 hw3; rw [w64 (by omega) (by omega)]; omega
 have hw5 : wrap64 ((i : Int) + 1) = ((i + 1 : Nat) : Int) := by clear hw1 hw2 hw3 hw4; exact w1 i (n + 1) (by omega) (by omega)
 refine Gets.up ?_
 simp only [piece_Holds.l1]
 simp -implicitDefEqProofs only [if_pos (show (0 : Int) < 2 by decide), if_pos (show (0 : Int) ≤ 0 by decide), List.length_cons, List.length_nil, Nat.zero_add, Nat.reduceAdd, if_pos (show (0 : Int) < ((2 : Nat) : Int) by decide), r0, if_neg q1, if_neg q2, hw1, hw2]
 refine Gets.up ?_
 simp only [piece_Holds.l1]
 simp -implicitDefEqProofs only [if_pos (show (1 : Int) < 2 by decide), if_pos (show (0 : Int) ≤ 1 by decide), List.length_cons, List.length_nil, Nat.zero_add, Nat.reduceAdd, if_pos (show (1 : Int) < ((2 : Nat) : Int) by decide), r1, if_neg q3, if_neg q4, hw4, hw3]
 refine Gets.up ?_
 simp only [piece_Holds.l1]
 simp -implicitDefEqProofs only [if_neg (show ¬ (2 : Int) < 2 by decide), hw5]
 exact K
theorem holds_l0 (T : TabOk n F L N) (R : Rng n O I) (d : Nat) : ∀ i : Nat, i + d = n + 1 → Gets (fun k => piece_Holds.l0 k (n : Int) (sm O I i) ((n + 1 : Nat) : Int) (i : Int) F L N O I) (Res n F L N O I) := by
 have hn := T.n12
 induction d with
 | zero =>
  intro i hi
  obtain rfl : i = n + 1 := by omega
  refine Gets.up ?_
  simp only [piece_Holds.l0, if_neg (show ¬ ((n + 1 : Nat) : Int) < ((n + 1 : Nat) : Int) by omega)]
  exact holds_l2 T R n 0 (by omega) (fun q hq => absurd hq (by omega))
 | succ d ih =>
  intro i hi
  have q1 : (i : Int) < ((n + 1 : Nat) : Int) := by omega
  have q2 : (0 : Int) ≤ (i : Int) := by omega
  have q3 : (i : Int) < (O.length : Int) := by rw [R.o]; omega
  have q4 : (i : Int) < (I.length : Int) := by rw [R.i]; omega
  refine Gets.up ?_
  simp only [piece_Holds.l0]
  simp -implicitDefEqProofs only [if_pos q1, if_pos q2, if_pos q3, if_pos q4, Option.bind_some, at_one]
  exact holds_l1 R (by omega) hn (ih (i + 1) (by omega))
theorem holds_f (T : TabOk n F L N) (R : Rng n O I) : Gets (fun k => piece_Holds.f k F L N O I) (Res n F L N O I) := by
 have hn := T.n12
 have hw : wrap64 ((n : Int) + 1) = ((n + 1 : Nat) : Int) := w1 n (n + 1) (by omega) (by omega)
 unfold piece_Holds.f
 refine (check_f T).bind fun t ht => ?_
 subst ht
 simp only [if_true, T.f, R.o, R.i, hw, bne_self_eq_false]
 refine Gets.up ?_
 simp only [piece_Holds.j0, if_neg (show ¬ false = true by simp), hw]
 exact holds_l0 T R (n + 1) 0 (by omega)
theorem prove_l1 (T : TabOk n F L N) {i : Nat} (hi : i ≤ n) {P : List Int × List Int × Int × Int → Prop} {I : List Int}
  (K : ∀ O : List Int, O.length = n + 1 → (∀ q, q < i + 1 → -1000000 ≤ O.getD q 0 ∧ O.getD q 0 ≤ 1000000) → Gets (fun k => piece_Prove.l0 k (n : Int) ((n + 1 : Nat) : Int) ((i + 1 : Nat) : Int) F L N O I) P) (d : Nat) :
  ∀ (q : Nat) (O : List Int), q + d = n + 1 → O.length = n + 1 → (∀ j, j < i → -1000000 ≤ O.getD j 0 ∧ O.getD j 0 ≤ 1000000) → (O.getD i 0 = -1099511627776 ∨ (-1000000 ≤ O.getD i 0 ∧ O.getD i 0 ≤ 1000000)) →
   Gets (fun k => piece_Prove.l1 k (n : Int) (i : Int) ((n + 1 : Nat) : Int) (i : Int) ((n + 1 : Nat) : Int) (q : Int) F L N O I) P := by
 have hn := T.n12
 induction d with
 | zero =>
  intro q O hq hl h h0
  obtain rfl : q = n + 1 := by omega
  have q1 : ¬ ((n + 1 : Nat) : Int) < ((n + 1 : Nat) : Int) := by omega
  have q2 : (0 : Int) ≤ (i : Int) := by omega
  have q3 : (i : Int) < (O.length : Int) := by rw [hl]; omega
  refine Gets.up ?_
  simp only [piece_Prove.l1]
  rw [w1 i (n + 1) (by omega) (by omega)]
  simp -implicitDefEqProofs only [if_neg q1, if_pos q2, if_pos q3, at_one]
  by_cases c : O.getD i 0 = -1099511627776
  ·simp only [if_pos c]
   refine K _ (by rw [List.length_set, hl]) fun j hj => ?_
   rw [Int.toNat_natCast, gd_set]
   by_cases e : i = j ∧ i < O.length
   ·rw [if_pos e]; omega
   ·rw [if_neg e]; exact h j (by omega)
  ·simp only [if_neg c]
   refine K _ hl fun j hj => ?_
   by_cases e : j = i
   ·subst e; omega
   ·exact h j (by omega)
 | succ d ih =>
  intro q O hq hl h h0
  have q1 : (q : Int) < ((n + 1 : Nat) : Int) := by omega
  have q2 : (0 : Int) ≤ (i : Int) := by omega
  have q3 : (i : Int) < (O.length : Int) := by rw [hl]; omega
  refine Gets.up ?_
  simp only [piece_Prove.l1]
  rw [w1 q (n + 1) (by omega) (by omega)]
  simp -implicitDefEqProofs only [if_pos q1]
  refine (cell_f T hi (by omega)).bind fun r hr => ?_
  obtain ⟨v, b⟩ := r
  obtain ⟨hb, hv⟩ := hr
  simp only at hb hv ⊢
  subst hb
  by_cases c : i ≠ q
  ·have hv := hv c
   subst hv
   have hb := W_bound T hi (show q ≤ n by omega) c
   rw [decide_eq_true c]
   simp -implicitDefEqProofs only [if_true, if_pos q2, if_pos q3, at_one, Int.toNat_natCast]
   refine ih (q + 1) _ (by omega) (by rw [List.length_set, hl]) (fun j hj => ?_) ?_
   ·rw [gd_set, if_neg (by omega)]; exact h j hj
   ·rw [gd_set, if_pos ⟨rfl, by omega⟩]
    unfold mx
    split <;> omega
  ·rw [decide_eq_false c]
   simp only [if_neg (show ¬ false = true by simp)]
   exact ih (q + 1) _ (by omega) hl h h0
theorem prove_l0 (T : TabOk n F L N) {P : List Int × List Int × Int × Int → Prop} {I : List Int}
  (K : ∀ O : List Int, O.length = n + 1 → (∀ q, q ≤ n → -1000000 ≤ O.getD q 0 ∧ O.getD q 0 ≤ 1000000) → Gets (fun k => piece_Prove.l2 k (n : Int) ((n + 1 : Nat) : Int) 0 F L N O I) P) (d : Nat) :
  ∀ (i : Nat) (O : List Int), i + d = n + 1 → O.length = n + 1 → (∀ q, q < i → -1000000 ≤ O.getD q 0 ∧ O.getD q 0 ≤ 1000000) →
   Gets (fun k => piece_Prove.l0 k (n : Int) ((n + 1 : Nat) : Int) (i : Int) F L N O I) P := by
 have hn := T.n12
 have hw : wrap64 ((n : Int) + 1) = ((n + 1 : Nat) : Int) := w1 n (n + 1) (by omega) (by omega)
 induction d with
 | zero =>
  intro i O hi hl h
  obtain rfl : i = n + 1 := by omega
  refine Gets.up ?_
  simp only [piece_Prove.l0, if_neg (show ¬ ((n + 1 : Nat) : Int) < ((n + 1 : Nat) : Int) by omega), hw]
  exact K O hl (fun q hq => h q (by omega))
 | succ d ih =>
  intro i O hi hl h
  have q1 : (i : Int) < ((n + 1 : Nat) : Int) := by clear hw; omega
  have q2 : (0 : Int) ≤ (i : Int) := by clear hw; omega
  have q3 : (i : Int) < (O.length : Int) := by clear hw; rw [hl]; omega
  refine Gets.up ?_
  simp only [piece_Prove.l0]
  simp -implicitDefEqProofs only [if_pos q1, if_pos q2, if_pos q3, hw, Int.toNat_natCast]
  clear hw
  refine prove_l1 T (by omega) (fun O' h1 h2 => ih (i + 1) O' (by omega) h1 h2) (n + 1) 0 _ (by omega) (by rw [List.length_set, hl]) (fun j hj => ?_) (.inl ?_)
  ·rw [gd_set, if_neg (by omega)]; exact h j hj
  ·rw [gd_set, if_pos ⟨rfl, by omega⟩]
def InOk (n : Nat) (F L : List Int) (N : List (List Int)) (O I : List Int) (q : Nat) : Prop := (-2000000 ≤ I.getD q 0 ∧ I.getD q 0 ≤ 2000000) ∧ ∀ i, i ≤ n → i ≠ q → W n F L N i q ≤ O.getD i 0 + I.getD q 0
def ProveRes (n : Nat) (F L : List Int) (N : List (List Int)) (r : List Int × List Int × Int × Int) : Prop :=
 r.1.length = n + 1 ∧ r.2.1.length = n + 1 ∧ (∀ q, q ≤ n → -2000000 ≤ r.1.getD q 0 ∧ r.1.getD q 0 ≤ 2000000) ∧ (∀ q, q ≤ n → -2000000 ≤ r.2.1.getD q 0 ∧ r.2.1.getD q 0 ≤ 2000000) ∧ Ok n F L N r.1 r.2.1 ∧ r.2.2.1 = sm r.1 r.2.1 (n + 1) ∧ r.2.2.2 = 0
theorem prove_l3 (T : TabOk n F L N) (hO : O.length = n + 1) (hOb : ∀ q, q ≤ n → -1000000 ≤ O.getD q 0 ∧ O.getD q 0 ≤ 1000000) {i : Nat} (hi : i ≤ n) {P : List Int × List Int × Int × Int → Prop}
  (K : ∀ I : List Int, I.length = n + 1 → (∀ q, q < i + 1 → InOk n F L N O I q) → Gets (fun k => piece_Prove.l2 k (n : Int) ((n + 1 : Nat) : Int) ((i + 1 : Nat) : Int) F L N O I) P) (d : Nat) :
  ∀ (q : Nat) (I : List Int), q + d = n + 1 → I.length = n + 1 → (∀ j, j < i → InOk n F L N O I j) → (I.getD i 0 = -1099511627776 ∨ (-2000000 ≤ I.getD i 0 ∧ I.getD i 0 ≤ 2000000)) → (∀ j, j < q → j ≠ i → W n F L N j i ≤ O.getD j 0 + I.getD i 0) →
   Gets (fun k => piece_Prove.l3 k (n : Int) (i : Int) ((n + 1 : Nat) : Int) (i : Int) ((n + 1 : Nat) : Int) (q : Int) F L N O I) P := by
 have hn := T.n12
 induction d with
 | zero =>
  intro q I hq hl h h0 h1
  obtain rfl : q = n + 1 := by omega
  have q1 : ¬ ((n + 1 : Nat) : Int) < ((n + 1 : Nat) : Int) := by omega
  have q2 : (0 : Int) ≤ (i : Int) := by omega
  have q3 : (i : Int) < (I.length : Int) := by rw [hl]; omega
  refine Gets.up ?_
  simp only [piece_Prove.l3]
  rw [w1 i (n + 1) (by omega) (by omega)]
  simp -implicitDefEqProofs only [if_neg q1, if_pos q2, if_pos q3, at_one]
  by_cases c : I.getD i 0 = -1099511627776
  ·simp only [if_pos c, Int.toNat_natCast]
   refine K _ (by rw [List.length_set, hl]) fun j hj => ?_
   by_cases e : j = i
   ·subst e
    refine ⟨?_, fun z hz hzj => ?_⟩
    ·rw [gd_set, if_pos ⟨rfl, by omega⟩]; omega
    ·have a1 := h1 z (by omega) hzj
     have a2 := hOb z hz
     have a3 := W_bound T hz hi hzj
     rw [c] at a1
     omega
   ·have := h j (by omega)
    unfold InOk
    rw [gd_set, if_neg (by omega)]
    exact this
  ·simp only [if_neg c]
   refine K _ hl fun j hj => ?_
   by_cases e : j = i
   ·subst e
    exact ⟨by omega, fun z hz hzj => h1 z (by omega) hzj⟩
   ·exact h j (by omega)
 | succ d ih =>
  intro q I hq hl h h0 h1
  have q1 : (q : Int) < ((n + 1 : Nat) : Int) := by omega
  have q2 : (0 : Int) ≤ (i : Int) := by omega
  have q3 : (i : Int) < (I.length : Int) := by rw [hl]; omega
  have q4 : (0 : Int) ≤ (q : Int) := by omega
  have q5 : (q : Int) < (O.length : Int) := by rw [hO]; omega
  refine Gets.up ?_
  simp only [piece_Prove.l3]
  rw [w1 q (n + 1) (by omega) (by omega)]
  simp -implicitDefEqProofs only [if_pos q1]
  refine (cell_f T (show q ≤ n by omega) hi).bind fun r hr => ?_
  obtain ⟨v, b⟩ := r
  obtain ⟨hb, hv⟩ := hr
  simp only at hb hv ⊢
  subst hb
  by_cases c : q ≠ i
  ·have hv := hv c
   subst hv
   have hb := W_bound T (show q ≤ n by omega) hi c
   have hob := hOb q (by omega)
   have hw : wrap64 (W n F L N q i - O.getD q 0) = W n F L N q i - O.getD q 0 := w64 (by omega) (by omega)
   rw [decide_eq_true c]
   simp -implicitDefEqProofs only [if_true, if_pos q2, if_pos q3, if_pos q4, if_pos q5, at_one, Int.toNat_natCast, hw]
   clear hw
   have hge : I.getD i 0 ≤ mx (I.getD i 0) (W n F L N q i - O.getD q 0) ∧ W n F L N q i - O.getD q 0 ≤ mx (I.getD i 0) (W n F L N q i - O.getD q 0) := by
    unfold mx
    split <;> omega
   have hbd : -2000000 ≤ mx (I.getD i 0) (W n F L N q i - O.getD q 0) ∧ mx (I.getD i 0) (W n F L N q i - O.getD q 0) ≤ 2000000 := by
    unfold mx
    split <;> omega
   generalize mx (I.getD i 0) (W n F L N q i - O.getD q 0) = M at *
   refine ih (q + 1) _ (by omega) (by rw [List.length_set, hl]) (fun j hj => ?_) ?_ ?_
   ·have := h j hj
    unfold InOk
    rw [gd_set, if_neg (by omega)]
    exact this
   ·rw [gd_set, if_pos ⟨rfl, by omega⟩]
    exact .inr hbd
   ·intro j hj hji
    rw [gd_set, if_pos ⟨rfl, by omega⟩]
    by_cases e : j = q
    ·subst e; omega
    ·have := h1 j (by omega) hji
     omega
  ·rw [decide_eq_false c]
   simp only [if_neg (show ¬ false = true by simp)]
   exact ih (q + 1) _ (by omega) hl h h0 (fun j hj hji => h1 j (by omega) hji)
theorem prove_l2 (T : TabOk n F L N) (hO : O.length = n + 1) (hOb : ∀ q, q ≤ n → -1000000 ≤ O.getD q 0 ∧ O.getD q 0 ≤ 1000000) (d : Nat) :
  ∀ (i : Nat) (I : List Int), i + d = n + 1 → I.length = n + 1 → (∀ j, j < i → InOk n F L N O I j) →
   Gets (fun k => piece_Prove.l2 k (n : Int) ((n + 1 : Nat) : Int) (i : Int) F L N O I) (ProveRes n F L N) := by
 have hn := T.n12
 induction d with
 | zero =>
  intro i I hi hl h
  obtain rfl : i = n + 1 := by omega
  have hok : Ok n F L N O I := fun i k hi hk hik => (h k (by omega)).2 i hi hik
  have R : Rng n O I := ⟨hO, hl, fun q hq => by have := hOb q hq; omega, fun q hq => by have := (h q (by omega)).1; omega⟩
  refine Gets.up ?_
  simp only [piece_Prove.l2, if_neg (show ¬ ((n + 1 : Nat) : Int) < ((n + 1 : Nat) : Int) by omega)]
  refine (holds_f T R).bind fun r hr => ?_
  rcases hr with ⟨_, rfl⟩ | ⟨hno, _⟩
  ·simp only [if_true]
   exact Gets.ret ⟨hO, hl, fun q hq => by have := hOb q hq; dsimp only; omega, fun q hq => (h q (by omega)).1, hok, rfl, rfl⟩
  ·exact absurd hok hno
 | succ d ih =>
  intro i I hi hl h
  have q1 : (i : Int) < ((n + 1 : Nat) : Int) := by omega
  have q2 : (0 : Int) ≤ (i : Int) := by omega
  have q3 : (i : Int) < (I.length : Int) := by rw [hl]; omega
  have hw : wrap64 ((n : Int) + 1) = ((n + 1 : Nat) : Int) := w1 n (n + 1) (by omega) (by omega)
  refine Gets.up ?_
  simp only [piece_Prove.l2]
  simp -implicitDefEqProofs only [if_pos q1, if_pos q2, if_pos q3, hw, Int.toNat_natCast]
  clear hw
  refine prove_l3 T hO hOb (by omega) (fun I' h1 h2 => ih (i + 1) I' (by omega) h1 h2) (n + 1) 0 _ (by omega) (by rw [List.length_set, hl]) (fun j hj => ?_) (.inl ?_) (fun j hj => absurd hj (by omega))
  ·have := h j hj
   unfold InOk
   rw [gd_set, if_neg (by omega)]
   exact this
  ·rw [gd_set, if_pos ⟨rfl, by omega⟩]
theorem prove_f (T : TabOk n F L N) : Gets (fun k => piece_Prove.f k F L N) (ProveRes n F L N) := by
 have hn := T.n12
 have q1 : (0 : Int) ≤ ((n + 1 : Nat) : Int) := by omega
 have q2 : n + 1 ≤ 35184372088832 := by omega
 have hw : wrap64 ((n : Int) + 1) = ((n + 1 : Nat) : Int) := w1 n (n + 1) (by omega) (by omega)
 unfold piece_Prove.f
 refine (check_f T).bind fun t ht => ?_
 subst ht
 rw [T.f, hw]
 clear hw
 simp -implicitDefEqProofs only [if_true, if_pos q1, Int.toNat_natCast, if_pos q2]
 exact prove_l0 T (fun O h1 h2 => prove_l2 T h1 h2 (n + 1) 0 _ (by omega) (by rw [List.length_replicate]) (fun j hj => absurd hj (by omega))) (n + 1) 0 _ (by omega) (by rw [List.length_replicate]) (fun j hj => absurd hj (by omega))
def ls (O I : List Int) : List Nat → Int
 | [] => 0
 | k :: o => (O.getD k 0 + I.getD k 0) + ls O I o
theorem ls_mid (a : List Nat) (k : Nat) (b : List Nat) : ls O I (a ++ k :: b) = (O.getD k 0 + I.getD k 0) + ls O I (a ++ b) := by
 induction a with
 | nil => rfl
 | cons x a ih =>
  simp only [List.cons_append, ls, ih]
  omega
theorem ls_all : ∀ (m : Nat) (p : List Nat), p.Nodup → (∀ k, k ∈ p ↔ k < m) → ls O I p = sm O I m
 | 0, p, _, h => by
  cases p with
  | nil => rfl
  | cons x p => exact absurd ((h x).1 List.mem_cons_self) (Nat.not_lt_zero x)
 | m + 1, p, hp, h => by
  obtain ⟨a, b, rfl⟩ := List.append_of_mem ((h m).2 (Nat.lt_succ_self m))
  have hnd := List.perm_middle.nodup_iff.1 hp
  rw [List.nodup_cons] at hnd
  rw [ls_mid, ls_all m (a ++ b) hnd.2 (fun k => ?_)]
  ·simp only [sm]; omega
  ·have hk := h k
   simp only [List.mem_append, List.mem_cons] at hk hnd ⊢
   constructor
   ·intro hm
    have h1 := hk.1 (by rcases hm with hm | hm; exact .inl hm; exact .inr (.inr hm))
    have h2 : k ≠ m := fun e => hnd.1 (e ▸ hm)
    omega
   ·intro hm
    rcases hk.2 (by omega) with h1 | h1 | h1
    ·exact .inl h1
    ·omega
    ·exact .inr h1
theorem wt_le (hk : Ok n F L N O I) : ∀ (o : List Nat) (i : Nat), i < n → (∀ k ∈ o, k < n) → (i :: o).Nodup → wt L N i o ≤ O.getD i 0 + ls O I o + I.getD n 0
 | [], i, hi, _, _ => by
  have := hk i n (by omega) (by omega) (by omega)
  rw [W, if_neg (by omega), if_pos rfl] at this
  simp only [wt, ls]
  omega
 | k :: o, i, hi, ho, hnd => by
  have hkn := ho k List.mem_cons_self
  rw [List.nodup_cons] at hnd
  have hik : i ≠ k := fun e => hnd.1 (e ▸ List.mem_cons_self)
  have h1 := hk i k (by omega) (by omega) hik
  rw [W, if_neg (by omega), if_neg (by omega)] at h1
  have h2 := wt_le hk o k hkn (fun j hj => ho j (List.mem_cons_of_mem _ hj)) hnd.2
  simp only [wt, ls]
  omega
theorem above (hk : Ok n F L N O I) (hn : 0 < n) {p : List Nat} (hp : Comp n 0 p) : tot F L N p ≤ sm O I (n + 1) := by
 have hm : ∀ k, k ∈ p ↔ k < n := fun k => by rw [hp.2, Nat.zero_testBit]; simp
 have hs := ls_all (O := O) (I := I) n p hp.1 hm
 simp only [sm]
 rw [← hs]
 cases p with
 | nil => exact absurd ((hm 0).2 hn) (by simp)
 | cons i o =>
  have hi := (hm i).1 List.mem_cons_self
  have h1 := hk n i (by omega) (by omega) (by omega)
  rw [W, if_pos rfl] at h1
  have h2 := wt_le hk o i hi (fun k hk => (hm k).1 (List.mem_cons_of_mem _ hk)) hp.1
  simp only [tot, ls]
  omega
theorem law_l0 (T : TabOk n F L N) {S : Int} (hS : 0 < n → ∀ O I, Ok n F L N O I → S ≤ sm O I (n + 1)) (d : Nat) :
  ∀ (i : Nat) (O I s : List Int), i + d = n + 1 → O.length = n + 1 → I.length = n + 1 → (∀ q, q ≤ n → -2000010 ≤ O.getD q 0 ∧ O.getD q 0 ≤ 2000010) → (∀ q, q ≤ n → -2000010 ≤ I.getD q 0 ∧ I.getD q 0 ≤ 2000010) →
   (∀ q, i ≤ q → q ≤ n → -2000000 ≤ O.getD q 0 ∧ O.getD q 0 ≤ 2000000) → (∀ q, i ≤ q → q ≤ n → -2000000 ≤ I.getD q 0 ∧ I.getD q 0 ≤ 2000000) →
   Gets (fun k => wrackkeep3_PieceAbove.l0 k S ((n + 1 : Nat) : Int) (i : Int) F L N O I s) (· = true) := by
 have hn := T.n12
 induction d with
 | zero =>
  intro i O I s hi hO hI bO bI _ _
  obtain rfl : i = n + 1 := by omega
  have R : Rng n O I := ⟨hO, hI, fun q hq => by have := bO q hq; omega, fun q hq => by have := bI q hq; omega⟩
  refine Gets.up ?_
  simp only [wrackkeep3_PieceAbove.l0, if_neg (show ¬ ((n + 1 : Nat) : Int) < ((n + 1 : Nat) : Int) by omega)]
  refine (holds_f T R).bind fun r hr => ?_
  rcases hr with ⟨hok, rfl⟩ | ⟨_, h17⟩
  ·simp only [if_neg (show ¬ (0 : Int) = 17 by decide), if_true, T.f]
   by_cases c : n = 0
   ·rw [if_pos (by omega)]; exact Gets.ret rfl
   ·rw [if_neg (by omega)]
    exact Gets.ret (decide_eq_true (hS (by omega) O I hok))
  ·simp only [if_pos h17]
   exact Gets.ret rfl
 | succ d ih =>
  intro i O I s hi hO hI bO bI cO cI
  obtain ⟨v, s2, hv, hv0, hv1⟩ := next_f s (n := 9) (by omega) (by omega)
  obtain ⟨u, s3, hu, hu0, hu1⟩ := next_f s2 (n := 9) (by omega) (by omega)
  have q1 : (i : Int) < ((n + 1 : Nat) : Int) := by omega
  have q2 : (0 : Int) ≤ (i : Int) := by omega
  have q3 : (i : Int) < (O.length : Int) := by rw [hO]; omega
  have q4 : (i : Int) < (I.length : Int) := by rw [hI]; omega
  have b1 := cO i (by omega) (by omega)
  have b2 := cI i (by omega) (by omega)
  refine Gets.up ?_
  simp only [wrackkeep3_PieceAbove.l0]
  rw [w1 i (n + 1) (by omega) (by omega), hv]
  simp -implicitDefEqProofs only [if_pos q1, if_pos q2, if_pos q3, if_pos q4, Option.bind_some, hu, at_one, Int.toNat_natCast]
  have key : ∀ x y : Int, x = O.getD i 0 + v - 2 → y = I.getD i 0 + u - 2 → Gets (fun k => wrackkeep3_PieceAbove.l0 k S ((n + 1 : Nat) : Int) ((i + 1 : Nat) : Int) F L N (O.set i x) (I.set i y) s3) (· = true) := by
   intro x y hx hy
   refine ih (i + 1) _ _ s3 (by omega) (by rw [List.length_set, hO]) (by rw [List.length_set, hI]) (fun q hq => ?_) (fun q hq => ?_) (fun q hq1 hq => ?_) (fun q hq1 hq => ?_)
   ·rw [gd_set]
    have := bO q hq
    split <;> omega
   ·rw [gd_set]
    have := bI q hq
    split <;> omega
   ·rw [gd_set, if_neg (by omega)]; exact cO q (by omega) hq
   ·rw [gd_set, if_neg (by omega)]; exact cI q (by omega) hq
  refine key _ _ ?_ ?_
  ·rw [w64 (n := O.getD i 0 + v) (by omega) (by omega), w64 (by omega) (by omega)]
  ·rw [w64 (n := I.getD i 0 + u) (by omega) (by omega), w64 (by omega) (by omega)]
end
theorem law_f (l0 l1 : List Int) : Gets (fun k => wrackkeep3_PieceAbove.f k l0 l1) (· = true) := by
 simp only [wrackkeep3_PieceAbove.f]
 refine (table_f l0).bind fun t ht => ?_
 obtain ⟨F, L, N⟩ := t
 obtain ⟨n, hn9, T⟩ := ht
 simp only at T ⊢
 refine (best_f T).bind fun r hr => ?_
 obtain ⟨B, S, e⟩ := r
 obtain ⟨p, h1, h2, h3, h4, h5, h6⟩ := hr
 simp only at h1 h2 h4 h5 h6
 subst h2
 have hS : 0 < n → ∀ O I, Ok n F L N O I → S ≤ sm O I (n + 1) := fun hn O I hk => by rw [← h4]; exact above hk hn h3
 refine (prove_f T).bind fun r hr => ?_
 obtain ⟨O, I, S2, e2⟩ := r
 obtain ⟨hO, hI, bO, bI, hok, h7, h8⟩ := hr
 simp only at hO hI bO bI hok h7 h8 ⊢
 subst h7 h8
 have R : Rng n O I := ⟨hO, hI, fun q hq => by have := bO q hq; omega, fun q hq => by have := bI q hq; omega⟩
 refine (holds_f T R).bind fun r hr => ?_
 rcases hr with ⟨_, rfl⟩ | ⟨hno, _⟩
 ·refine ordered_f.bind fun b hb => ?_
  subst hb
  have key : Gets (fun k => wrackkeep3_PieceAbove.j0 k l1 S false F L N O I) (· = true) := by
   refine Gets.up ?_
   simp only [wrackkeep3_PieceAbove.j0, if_neg (show ¬ false = true by simp), hO]
   exact law_l0 T hS (n + 1) 0 O I l1 (by omega) hO hI (fun q hq => by have := bO q hq; omega) (fun q hq => by have := bI q hq; omega) (fun q _ hq => bO q hq) (fun q _ hq => bI q hq)
  simp only [if_true, T.f]
  by_cases c : n = 0
  ·simp only [if_neg (show ¬ (n : Int) > 0 by omega)]
   exact key
  ·simp only [if_pos (show (n : Int) > 0 by omega)]
   have := hS (by omega) O I hok
   rw [decide_eq_false (by omega)]
   exact key
 ·exact absurd hok hno
end AboveP
theorem PieceAbove : wrackkeep3_PieceAbove.Pure := by
 intro l0 l1 _ _ _ _ _ _
 obtain ⟨k, r, h1, h2⟩ := (AboveP.law_f l0 l1).get
 refine ⟨k, ?_⟩
 rw [← h2]
 exact h1
end Go.Proofs.Ytehkplafehlkgaa.Pure
namespace Go.Proofs.YtehkplafehlkgaaW.PrintWords
open Go.ChangeShapes Go.WideShapes
theorem sized_ints {H : Type} {enc : TypeId × Value → H} {P : Program} {W : World} {base : Nat} {spare : Nat → Bool} {held : Bool} {t e : TypeId} {k : IntKind} {a : Option Addr} {len cap : Nat} {d : DataW H} {ps : List MemPlace} {ts : List TypeId} {ds : List (DataW H)} {j : Nat}
  (hsz : (DataW.weightsEach P ts ds).all (· ≤ reachBytes) = true) (ht : ts[j]? = some t) (hd : ds[j]? = some d) (hu : P.underlying t = some (.slice e)) (he : P.underlying e = some (.int k)) (hc : P.cellsOf e = 1) {B : Nat} (hB : P.bytesOf e = B)
  (h : DataW.Trod enc P W base spare held t (.slice a len cap) d ps) : len * B ≤ 140737488351232 := by
 obtain ⟨fuel, hf⟩ := h
 rcases open_ints hu he hc hf with ⟨hcs, _⟩ | ⟨x, l, c, zs, hcs, _, hl, _, hz, hx, _, _⟩
 ·simp [Value.cells] at hcs
  obtain ⟨rfl, rfl, rfl⟩ := hcs
  simp
 ·simp [Value.cells] at hcs
  obtain ⟨rfl, rfl, rfl⟩ := hcs
  obtain ⟨hx, _⟩ := Prod.mk.inj hx
  subst hx
  have z := sized_slice hsz ht hd hu
  rw [hB] at z
  have hl2 : len ≤ zs.length := by
   rw [hz]
   split
   ·exact hl
   ·exact Nat.le_refl _
  have h1 : (lits (H := H) k (zs.take len)).length + (lits (H := H) k (zs.drop len)).length = zs.length := by
   simp [lits]
   omega
  rw [h1] at z
  exact Nat.le_trans (Nat.mul_le_mul_right _ hl2) z
end Go.Proofs.YtehkplafehlkgaaW.PrintWords
