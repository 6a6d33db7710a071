-- written by prn.py, a program of this session, over the kit's printer
import Derived.Test.YtcnabemeadnecaaDoorPKnownClashesx0
import Derived.Test.YtcnabemeadnecaaDoorPKnownClashesx1
import Derived.Test.YtcnabemeadnecaaDoorPKnownClashesx2
import Derived.Test.YtcnabemeadnecaaDoorPKnownClashesx3
namespace Go.Proofs.YtcnabemeadnecaaDoor.PKnownClashes
open Go.RowKit Go.Proofs.YtcnabemeadnecaaDoorW.PrintWords Go.Proofs.YtcnabemeadnecaaDoorW.PrintLast Go.Proofs.YtcnabemeadnecaaDoorW.PrintMore Go.Proofs.YtcnabemeadnecaaDoorW.PrintMine
attribute [local go_sem] max2_int min2_int max_two min_two max_three min_three max_four min_four   -- for this text's walks alone
set_option linter.unusedVariables false
set_option linter.unusedSimpArgs false

/-! ### wrackkeep1_KnownClashes: function 3 -/
theorem litC (W : World) (v : Int) : Kd.C (Kd.int .i64) (W.alloc (.cells #[.int .i64 v] 3)) (some ⟨W.heap.size, 0, none⟩) 1 [v] :=
  (Kd.R_reads' (Kd.R_of_own (enc := Value.int .i64) (h1 := fun _ => rfl) (ok := fun _ => True) (base := 0) (xs := [v]) (own_lit_of W 0 3 [v] (Nat.zero_le _) (by simp)) (fun _ _ => trivial))).2.2
theorem keep4 {p0 p1 p2 p3 : Addr} {a0 a1 a2 a3 : Value} {W w' : World} (z0 : W.cell? p0 = some a0) (z1 : W.cell? p1 = some a1) (z2 : W.cell? p2 = some a2) (z3 : W.cell? p3 = some a3) (h : Below W.heap.size W w') : w'.cell? p0 = some a0 ∧ w'.cell? p1 = some a1 ∧ w'.cell? p2 = some a2 ∧ w'.cell? p3 = some a3 ∧ Below W.heap.size W w' :=
  ⟨(h.cell (World.block_lt_of_cell? W _ z0)).trans z0, (h.cell (World.block_lt_of_cell? W _ z1)).trans z1, (h.cell (World.block_lt_of_cell? W _ z2)).trans z2, (h.cell (World.block_lt_of_cell? W _ z3)).trans z3, h⟩
theorem drawn_below {w w' : World} (h : Drawn0 w w') : Below w.heap.size w w' := by
  obtain ⟨nd, rfl⟩ := h
  exact pw_below_drewN (Below.refl _ _) nd
theorem blk_new2 (w : World) (o p : Obj) : ((w.alloc o).alloc p).heap[w.heap.size]? = some o := blk_below (blk_new w o) (below_alloc (Below.refl _ _) p)
theorem blk_new1 (w : World) (o p : Obj) : ((w.alloc o).alloc p).heap[w.heap.size + 1]? = some p := by
  have h := blk_new (w.alloc o) p
  have e : (w.alloc o).heap.size = w.heap.size + 1 := by simp
  rw [e] at h
  exact h
theorem lit1C (W : World) : Kd.C (Kd.int .i64) (W.alloc (.cells #[.int .i64 1] 3)) (some ⟨W.heap.size, 0, none⟩) 1 [1] :=
  (Kd.R_reads' (Kd.R_of_own (enc := Value.int .i64) (h1 := fun _ => rfl) (ok := fun _ => True) (base := 0) (xs := [(1 : Int)]) (own_lit_of W 0 3 [(1 : Int)] (Nat.zero_le _) (by simp)) (fun _ _ => trivial))).2.2
theorem lit1C2 (W : World) (o : Obj) : Kd.C (Kd.int .i64) ((W.alloc o).alloc (.cells #[.int .i64 1] 3)) (some ⟨W.heap.size + 1, 0, none⟩) 1 [1] := by
  have h := lit1C (W.alloc o)
  simpa using h
set_option maxHeartbeats 4000000 in
set_option maxRecDepth 100000 in
theorem wrackkeep1_KnownClashes.lawx (k : Nat) (A0 : Option Addr) (c0 : Nat) (l0 : List Int) (a1 a2 a3 : Int) (w : World) (hr0 : Kd.C (Kd.int .i64) w A0 l0.length l0) (hc0 : l0.length ≤ c0)
    (D : List Int) (F : List S45) (n p i x : Nat) (h1 : wrackmake_Drive.f k l0 = some (D, F)) (hn : 1 ≤ n) (hn2 : n ≤ 1000) (hD : D.length = 64 * n) (h4 : wrackmake_Below.f a1 (n : Int) = some ((p : Nat) : Int)) (hp : p < n) (h5 : wrackmake_Below.f a2 64 = some ((i : Nat) : Int)) (hi : i < 64) (h6 : wrackmake_Below.f a3 255 = some ((x : Nat) : Int)) (hx : x < 255) (hm : bits_Mul.f 1 n = some (0, (n : Int))) (hrk : known_rank.f 1 = some 3)
    (e1 : slices_Equal_int_int.f k [((p : Nat) : Int)] [((p : Nat) : Int)] = some true) (e2 : slices_Equal_byte_byte.f k D D = some true) (D2 : List Int) (hD2 : D2 = D.set (64 * p + i) (bits .xor .u8 (rdOf 0 D ((64 * p + i : Nat) : Int)) (1 + (x : Int)))) (hbe : ∀ b < n, bytes_Equal.f (kblk D b) (kblk D2 b) = some (decide (kblk D b = kblk D2 b))) (hcl : clashL D D2 n 0 = [(p : Int)]) :
    Calls Tryd.prog 3 #[.slice A0 l0.length c0, .int .i64 a1, .int .i64 a2, .int .i64 a3] w fun e w' => e = .returned (.bool true) ∧ Below w.heap.size w w' := by
  have HR0 := Aside0.mk hr0
  have HC0 := Aside0.mk hc0
  have H1 := Aside0.mk h1
  have H4 := Aside0.mk h4
  have H5 := Aside0.mk h5
  have H6 := Aside0.mk h6
  have HD := Aside0.mk hD
  have HM := Aside0.mk hm
  have HRK := Aside0.mk hrk
  have HE := Aside0.mk (And.intro e1 e2)
  have HND := Aside0.mk (show (D.length : Int) / 64 = (n : Int) by omega)
  have hu26 := Tryd.underlying26
  have hu30 := Tryd.underlying30
  have HD2 := Aside0.mk hD2
  have HBE := Aside0.mk hbe
  have HCL := Aside0.mk hcl
  clear hr0 hc0 h1 h4 h5 h6 hD hm hrk e1 e2 hD2 hbe hcl
  go_enter Tryd.func3, Tryd.ntmps3
  go_upto_region 2 with (first | (go_at_call 4; refine (wrackmake_Drive.calls k A0 c0 l0 D F _ HR0.out HC0.out H1.out).mono ?_; rintro e w1 ⟨v1, v2, rfl, hR1, hR2, hb⟩; have HB1 := Aside0.mk hb; have HRD1 := Aside0.mk hR1; clear hR1 hb; obtain ⟨AD, cD, eD⟩ := Kd.R_slice HRD1.out; subst eD; obtain ⟨AF, cF, eF⟩ := Kd.R_slice hR2; subst eF; clear hR2) | ((with_reducible refine gate_dst (N := 9) rfl ?_); refine box_event ?hg (N := 9) ?hd (cs := #[.slice none 0 0, .slice none 0 0]) (t := 26) ?hr ?_; (case hd => rfl); (case hg => rfl); (case hr => first | (go_simp; done) | (go_simp; rfl)); intro g9 hg w2 hbox hb; have GE9 := Aside0.mk (by rw [hg]; exact Nat.le_refl _ : w1.heap.size ≤ g9); have BK9 := Aside0.mk hbox; have HT2 := Aside0.mk hb; clear hb hbox hg; have u0 : w2.cell? ⟨g9, 0, none⟩ = some (.slice none 0 0) := (blk_cell BK9.out 0).trans rfl; have u1 : w2.cell? ⟨g9, 1, none⟩ = some (.slice none 0 0) := (blk_cell BK9.out 1).trans rfl; have f0 := blk_frozen BK9.out 0; have f1 := blk_frozen BK9.out 1))
  obtain ⟨y1, y2, y3⟩ := put2 BK9.out (.slice AD D.length cD) (.slice AF F.length cF)
  have ht := y3 _ _ HT2.out GE9.out
  clear u0 u1 f0 f1 y2 y3
  generalize (w2.setCell ⟨g9, 0, none⟩ (.slice AD D.length cD)).setCell ⟨g9, 1, none⟩ (.slice AF F.length cF) = W3 at y1 ht ⊢
  have BK93 := Aside0.mk y1
  have HB3 := Aside0.mk (below_step HB1.out ht)
  have HRD3 := Aside0.mk (Kd.R_below HRD1.out ht)
  clear y1 ht BK9 HT2 GE9 HRD1 HB1
  have x0 : W3.cell? ⟨g9, 0, none⟩ = some (.slice AD D.length cD) := (blk_cell BK93.out 0).trans rfl
  have x1 : W3.cell? ⟨g9, 1, none⟩ = some (.slice AF F.length cF) := (blk_cell BK93.out 1).trans rfl
  have hnd := HND.out
  go_upto_region 3 with (fail)
  clear hnd
  have HREP := Aside0.mk (show ∀ (A : Option Addr) (W : World), Kd.C (Kd.int .i64) W A 1 [1] → Calls Tryd.prog 5 #[.slice A 1 1, .int .i64 n] W fun e w' => ∃ v0_ : Value, e = .returned v0_ ∧ Kd.R (Kd.int .i64) 3 w' W.heap.size (fun _ => True) v0_ (List.replicate n 1) ∧ Below W.heap.size W w' from fun A W hC => slices_Repeat_int_int.calls A 1 1 n W hC (Nat.le_refl _) hn (by omega) HM.out)
  go_cut [11] (fun v wx => ∃ (gS cS g : Nat), v = .pointer (some ⟨g, 0, none⟩) ∧ Aside0 (wx.heap[g]? = some (.cells #[.slice (some ⟨gS, 0, none⟩) n cS, .slice AD D.length cD] 30 (0, 0))) ∧ Aside0 ((Kd.int .i64).R 3 wx W3.heap.size (fun _ => True) (.slice (some ⟨gS, 0, none⟩) n cS) (List.replicate n 1)) ∧ Aside0 (Below W3.heap.size W3 wx))
  case first =>
    go_region_held3 (fun w' => w'.cell? ⟨g9, 0, none⟩ = some (.slice AD D.length cD) ∧ w'.cell? ⟨g9, 1, none⟩ = some (.slice AF F.length cF) ∧ Below W3.heap.size W3 w') (first | exact keep2 x0 x1 (by (repeat (first | assumption | exact Below.refl _ _ | apply below_drew1 | apply below_alloc | (refine Below.setCell ?_ (by first | exact hb7.size | exact Nat.le_refl _ | exact Nat.le_succ _) _))))) (first | (go_at_call 5; refine (HREP.out _ _ ?hC).mono ?_; (case hC => repeat (first | exact lit1C _ | exact lit1C2 _ _ | apply Kd.C_drew | apply Kd.C_alloc)); rintro e w7 ⟨v7, rfl, hR, hb⟩; obtain ⟨gS, cS, eS, -, -, -⟩ := Kd.R_form hR (by rw [List.length_replicate]; omega); rw [List.length_replicate] at eS; subst eS; (first | (have bkn := blk_below (show (((W3.alloc (.cells #[.int .i64 1] 3 (0, 0))).alloc (.cells #[.slice none 0 0, .slice none 0 0] 30 (0, 0))).drew).heap[W3.heap.size + 1]? = some (.cells #[.slice none 0 0, .slice none 0 0] 30 (0, 0)) from blk_new1 W3 (.cells #[.int .i64 1] 3 (0, 0)) (.cells #[.slice none 0 0, .slice none 0 0] 30 (0, 0))) hb; have n0 := (blk_cell bkn 0).trans rfl; have n1 := (blk_cell bkn 1).trans rfl; have m0 := blk_frozen bkn 0; have m1 := blk_frozen bkn 1) | (have bkn := blk_below (show (((W3.alloc (.cells #[.slice none 0 0, .slice none 0 0] 30 (0, 0))).alloc (.cells #[.int .i64 1] 3 (0, 0))).drew).heap[W3.heap.size]? = some (.cells #[.slice none 0 0, .slice none 0 0] 30 (0, 0)) from blk_new2 W3 (.cells #[.slice none 0 0, .slice none 0 0] 30 (0, 0)) (.cells #[.int .i64 1] 3 (0, 0))) hb; have n0 := (blk_cell bkn 0).trans rfl; have n1 := (blk_cell bkn 1).trans rfl; have m0 := blk_frozen bkn 0; have m1 := blk_frozen bkn 1) | (have bkn := blk_below (show (((W3.alloc (.cells #[.int .i64 1] 3 (0, 0))).alloc (.cells #[.slice none 0 0, .slice none 0 0] 30 (0, 0)))).heap[W3.heap.size + 1]? = some (.cells #[.slice none 0 0, .slice none 0 0] 30 (0, 0)) from blk_new1 W3 (.cells #[.int .i64 1] 3 (0, 0)) (.cells #[.slice none 0 0, .slice none 0 0] 30 (0, 0))) hb; have n0 := (blk_cell bkn 0).trans rfl; have n1 := (blk_cell bkn 1).trans rfl; have m0 := blk_frozen bkn 0; have m1 := blk_frozen bkn 1) | (have bkn := blk_below (show (((W3.alloc (.cells #[.slice none 0 0, .slice none 0 0] 30 (0, 0))).alloc (.cells #[.int .i64 1] 3 (0, 0)))).heap[W3.heap.size]? = some (.cells #[.slice none 0 0, .slice none 0 0] 30 (0, 0)) from blk_new2 W3 (.cells #[.slice none 0 0, .slice none 0 0] 30 (0, 0)) (.cells #[.int .i64 1] 3 (0, 0))) hb; have n0 := (blk_cell bkn 0).trans rfl; have n1 := (blk_cell bkn 1).trans rfl; have m0 := blk_frozen bkn 0; have m1 := blk_frozen bkn 1) | skip); have hb7 : Below W3.heap.size W3 w7 := held_step (by (repeat (first | assumption | exact Below.refl _ _ | apply below_drew1 | apply below_alloc | (refine Below.setCell ?_ (by first | exact hb7.size | exact Nat.le_refl _ | exact Nat.le_succ _) _)))) hb))
    all_goals
      go_wp2_with fail
      go_meet
      case rel =>
        have rS := Kd.R_lower hR (show W3.heap.size ≤ _ by first | exact Nat.le_refl _ | (simp; done) | (simp; omega) | exact Nat.le_succ _)
        first
        | (obtain ⟨p1, p2, p3⟩ := put2 bkn (.slice (some ⟨gS, 0, none⟩) n cS) (.slice AD D.length cD)
           exact ⟨gS, cS, _, rfl, ⟨p1⟩, ⟨R_beside rS bkn (by decide) p2⟩, ⟨p3 _ _ hb7 (by first | exact Nat.le_refl _ | exact Nat.le_succ _)⟩⟩)
        | exact ⟨gS, cS, _, rfl, ⟨blk_new w7 (.cells #[.slice (some ⟨gS, 0, none⟩) n cS, .slice AD D.length cD] 30 (0, 0))⟩, ⟨Kd.R_below rS (below_alloc (Below.refl _ _) _)⟩, ⟨below_alloc hb7 _⟩⟩
  case rest =>
    obtain ⟨gS, cS, g11, rfl, BK11, HRS, HB4⟩ := hcut
    obtain ⟨W4, hW4⟩ : ∃ W, W = wc := ⟨_, rfl⟩
    subst hW4
    have BK94 := Aside0.mk (blk_below BK93.out HB4.out)
    clear x0 x1
    have x0 : W4.cell? ⟨g9, 0, none⟩ = some (.slice AD D.length cD) := (blk_cell BK94.out 0).trans rfl
    have x1 : W4.cell? ⟨g9, 1, none⟩ = some (.slice AF F.length cF) := (blk_cell BK94.out 1).trans rfl
    have HCD4 := Aside0.mk (Kd.C_below (Kd.R_reads' HRD3.out).2.2 HB4.out)
    have HCLO := Aside0.mk (show ∀ (W : World), Below W4.heap.size W4 W → Calls Tryd.prog 6 #[.slice AD D.length cD] W fun e w' => ∃ v0_ : Value, e = .returned v0_ ∧ Kd.R (Kd.int .u8) 5 w' W.heap.size (fun _ => True) v0_ D ∧ Below W.heap.size W w' from fun W hb => slices_Clone_byte_byte.calls AD cD D D W (Kd.C_below HCD4.out hb) (Kd.R_reads' HRD3.out).2.1 (by unfold slices_Clone_byte_byte.f; rw [if_pos (by have := HD.out; omega)]))
    go_upto_region 4 with (fail)
    go_cut [12] (fun v wx => ∃ (gT cT gD cD2 g : Nat), v = .pointer (some ⟨g, 0, none⟩) ∧ Aside0 (wx.heap[g]? = some (.cells #[.slice (some ⟨gT, 0, none⟩) n cT, .slice (some ⟨gD, 0, none⟩) D.length cD2] 30 (0, 0))) ∧ Aside0 ((Kd.int .i64).R 3 wx W4.heap.size (fun _ => True) (.slice (some ⟨gT, 0, none⟩) n cT) (List.replicate n 1)) ∧ Aside0 (Kd.R (Kd.int .u8) 5 wx W4.heap.size (fun _ => True) (.slice (some ⟨gD, 0, none⟩) D.length cD2) D) ∧ Aside0 (Below W4.heap.size W4 wx))
    case first =>
      go_region_held3 (fun w' => w'.cell? ⟨g9, 0, none⟩ = some (.slice AD D.length cD) ∧ w'.cell? ⟨g9, 1, none⟩ = some (.slice AF F.length cF) ∧ Below W4.heap.size W4 w') (first | exact keep2 x0 x1 (by (repeat (first | assumption | exact Below.refl _ _ | apply below_drew1 | apply below_alloc | (refine Below.setCell ?_ (by first | exact hb8'.size | exact hb7.size | exact Nat.le_refl _ | exact Nat.le_succ _) _))))) (first | (go_at_call 5; refine (HREP.out _ _ ?hC).mono ?_; (case hC => repeat (first | exact lit1C _ | exact lit1C2 _ _ | apply Kd.C_drew | apply Kd.C_alloc)); rintro e w7 ⟨v7, rfl, hR, hb⟩; obtain ⟨gT, cT, eT, -, -, -⟩ := Kd.R_form hR (by rw [List.length_replicate]; omega); rw [List.length_replicate] at eT; subst eT; (first | (have bkn := blk_below (show ((W4.alloc (.cells #[.int .i64 1] 3 (0, 0))).alloc (.cells #[.slice none 0 0, .slice none 0 0] 30 (0, 0))).drew.heap[W4.heap.size + 1]? = some (.cells #[.slice none 0 0, .slice none 0 0] 30 (0, 0)) from blk_new1 W4 (.cells #[.int .i64 1] 3 (0, 0)) (.cells #[.slice none 0 0, .slice none 0 0] 30 (0, 0))) hb; have n0 := (blk_cell bkn 0).trans rfl; have n1 := (blk_cell bkn 1).trans rfl; have m0 := blk_frozen bkn 0; have m1 := blk_frozen bkn 1) | (have bkn := blk_below (show ((W4.alloc (.cells #[.slice none 0 0, .slice none 0 0] 30 (0, 0))).alloc (.cells #[.int .i64 1] 3 (0, 0))).drew.heap[W4.heap.size]? = some (.cells #[.slice none 0 0, .slice none 0 0] 30 (0, 0)) from blk_new2 W4 (.cells #[.slice none 0 0, .slice none 0 0] 30 (0, 0)) (.cells #[.int .i64 1] 3 (0, 0))) hb; have n0 := (blk_cell bkn 0).trans rfl; have n1 := (blk_cell bkn 1).trans rfl; have m0 := blk_frozen bkn 0; have m1 := blk_frozen bkn 1) | (have bkn := blk_below (show ((W4.alloc (.cells #[.int .i64 1] 3 (0, 0))).alloc (.cells #[.slice none 0 0, .slice none 0 0] 30 (0, 0))).heap[W4.heap.size + 1]? = some (.cells #[.slice none 0 0, .slice none 0 0] 30 (0, 0)) from blk_new1 W4 (.cells #[.int .i64 1] 3 (0, 0)) (.cells #[.slice none 0 0, .slice none 0 0] 30 (0, 0))) hb; have n0 := (blk_cell bkn 0).trans rfl; have n1 := (blk_cell bkn 1).trans rfl; have m0 := blk_frozen bkn 0; have m1 := blk_frozen bkn 1) | (have bkn := blk_below (show ((W4.alloc (.cells #[.slice none 0 0, .slice none 0 0] 30 (0, 0))).alloc (.cells #[.int .i64 1] 3 (0, 0))).heap[W4.heap.size]? = some (.cells #[.slice none 0 0, .slice none 0 0] 30 (0, 0)) from blk_new2 W4 (.cells #[.slice none 0 0, .slice none 0 0] 30 (0, 0)) (.cells #[.int .i64 1] 3 (0, 0))) hb; have n0 := (blk_cell bkn 0).trans rfl; have n1 := (blk_cell bkn 1).trans rfl; have m0 := blk_frozen bkn 0; have m1 := blk_frozen bkn 1) | skip); have hb7 : Below W4.heap.size W4 w7 := held_step (by (repeat (first | assumption | exact Below.refl _ _ | apply below_drew1 | apply below_alloc | (refine Below.setCell ?_ (by first | exact hb8'.size | exact hb7.size | exact Nat.le_refl _ | exact Nat.le_succ _) _)))) hb) | (go_at_call 6; refine (HCLO.out _ (by (repeat (first | assumption | exact Below.refl _ _ | apply below_drew1 | apply below_alloc | (refine Below.setCell ?_ (by first | exact hb8'.size | exact hb7.size | exact Nat.le_refl _ | exact Nat.le_succ _) _))))).mono ?_; rintro e w8 ⟨v8, rfl, hR8, hb8⟩; obtain ⟨gD, cD2, eD, -, -, -⟩ := Kd.R_form hR8 (by have := HD.out; omega); subst eD; (first | (have bkm := blk_below bkn hb8; have n0 := (blk_cell bkm 0).trans rfl; have n1 := (blk_cell bkm 1).trans rfl; have m0 := blk_frozen bkm 0; have m1 := blk_frozen bkm 1) | (have bkm := blk_below (blk_new _ (.cells #[.slice none 0 0, .slice none 0 0] 30 (0, 0))) hb8; have n0 := (blk_cell bkm 0).trans rfl; have n1 := (blk_cell bkm 1).trans rfl; have m0 := blk_frozen bkm 0; have m1 := blk_frozen bkm 1) | skip); have h78 : Below w7.heap.size w7 w8 := held_step (by repeat (first | exact Below.refl _ _ | apply below_alloc)) hb8; have hb8' : Below W4.heap.size W4 w8 := held_step (by (repeat (first | assumption | exact Below.refl _ _ | apply below_drew1 | apply below_alloc | (refine Below.setCell ?_ (by first | exact hb8'.size | exact hb7.size | exact Nat.le_refl _ | exact Nat.le_succ _) _)))) hb8))
      all_goals
        go_wp2_with fail
        go_meet
        case rel =>
          have rS := Kd.R_lower (Kd.R_below hR h78) (show W4.heap.size ≤ _ by first | exact Nat.le_refl _ | (simp; done) | (simp; omega) | exact Nat.le_succ _)
          have hs7 := hb7.size
          have rD := Kd.R_lower hR8 (show W4.heap.size ≤ _ by first | omega | (simp; omega))
          first
          | (obtain ⟨p1, p2, p3⟩ := put2 bkm (.slice (some ⟨gT, 0, none⟩) n cT) (.slice (some ⟨gD, 0, none⟩) D.length cD2)
             exact ⟨gT, cT, gD, cD2, _, rfl, ⟨p1⟩, ⟨R_beside rS bkm (by decide) p2⟩, ⟨R_beside rD bkm (by decide) p2⟩, ⟨p3 _ _ hb8' (by first | exact Nat.le_refl _ | exact Nat.le_succ _ | exact hs7)⟩⟩)
          | exact ⟨gT, cT, gD, cD2, _, rfl, ⟨blk_new w8 (.cells #[.slice (some ⟨gT, 0, none⟩) n cT, .slice (some ⟨gD, 0, none⟩) D.length cD2] 30 (0, 0))⟩, ⟨Kd.R_below rS (below_alloc (Below.refl _ _) _)⟩, ⟨Kd.R_below rD (below_alloc (Below.refl _ _) _)⟩, ⟨below_alloc hb8' _⟩⟩
    case rest =>
      obtain ⟨gT, cT, gD, cD2, g12, rfl, BK12, HRT, HRD5, HB5⟩ := hcut
      obtain ⟨W5, hW5⟩ : ∃ W, W = wc := ⟨_, rfl⟩
      subst hW5
      have BK115 := Aside0.mk (blk_below BK11.out HB5.out)
      clear x0 x1 HCLO BK93 HREP HM BK11
      go_upto_region 6 with (go_at_call 7; (with_reducible refine (wrackmake_Below.calls a1 (n : Int) (p : Int) _ H4.out).mono ?_); rintro e w' ⟨rfl, ⟨nd5, rfl⟩⟩)
      obtain ⟨q, hq⟩ : ∃ q, 64 * p + i = q := ⟨_, rfl⟩
      have hqc : (64 * (p : Int) + (i : Int)) = (q : Int) := by omega
      have hq0 : (0 : Int) ≤ (q : Int) := by omega
      have hlt : (q : Int) < (D.length : Int) := by have := HD.out; omega
      have hw1 : IntKind.i64.wrap (64 * (p : Int)) = 64 * (p : Int) := by rw [IntKind.wrap_i64] <;> omega
      have hw2 : IntKind.i64.wrap (64 * (p : Int) + (i : Int)) = (q : Int) := by rw [hqc, IntKind.wrap_i64] <;> omega
      have hw3 : IntKind.i64.wrap (1 + (x : Int)) = 1 + (x : Int) := by rw [IntKind.wrap_i64] <;> omega
      have hw4 : IntKind.u8.wrap (1 + (x : Int)) = 1 + (x : Int) := by simp [IntKind.wrap, IntKind.bits, IntKind.signed]; omega
      have HQ := Aside0.mk hq
      have HQC := Aside0.mk hqc
      clear hqc hq
      have hb6 : Below W5.heap.size W5 (W5.drewN nd5) := pw_below_drewN (Below.refl _ _) nd5
      generalize W5.drewN nd5 = W6 at hb6 ⊢
      have BK126 := Aside0.mk (blk_below BK12.out hb6)
      have BK116 := Aside0.mk (blk_below BK115.out hb6)
      have HRD6 := Aside0.mk (Kd.R_below HRD5.out hb6)
      have HRT6 := Aside0.mk (Kd.R_below HRT.out hb6)
      have HRS6 := Aside0.mk (Kd.R_below (Kd.R_below HRS.out HB5.out) hb6)
      have HB6 := Aside0.mk (below_step HB5.out hb6)
      clear hb6 BK12 BK115 HRD5 HRT HRS
      have x1 : W6.cell? ⟨g12, 1, none⟩ = some (.slice (some ⟨gD, 0, none⟩) D.length cD2) := (blk_cell BK126.out 1).trans rfl
      obtain ⟨x2, f2⟩ := Kd.R_celln 0 HRD6.out (q : Int) hq0 hlt
      rw [Int.toNat_natCast] at x2 f2
      obtain ⟨csD, BKD⟩ : ∃ cs, Aside0 (W6.heap[gD]? = some (.cells cs 5 (0, 0))) := ⟨_, ⟨own_typed_at HRD6.out⟩⟩
      have hgD : W4.heap.size ≤ gD := by
        obtain ⟨g', c', e, hle, -, -⟩ := Kd.R_form HRD6.out (by omega)
        injection e with e
        injection e with e
        injection e with e
        rw [e]
        exact hle
      have hfz : W6.frozen? ⟨gD, q, none⟩ = false := f2
      go_cut [39] (fun v wx => ∃ w8, Aside0 (Below W6.heap.size W6 w8) ∧ wx = w8.setCell ⟨gD, q, none⟩ (.int .u8 (bits .xor .u8 (rdOf 0 D (q : Int)) (1 + (x : Int)))))
      case first =>
        go_region_with (first | (go_at_call 7; first | ((with_reducible refine (wrackmake_Below.calls a2 64 (i : Int) _ H5.out).mono ?_); rintro e w7 ⟨rfl, hd7⟩; have hb7 : Below W6.heap.size W6 w7 := held_step (by (repeat (first | assumption | exact Below.refl _ _ | apply below_drew1 | apply below_alloc))) (drawn_below hd7); have c7a := (hb7.cell (World.block_lt_of_cell? W6 _ x1)).trans x1; have c7b := (hb7.cell (World.block_lt_of_cell? W6 _ x2)).trans x2; have m7 := blk_frozen (blk_below BKD.out hb7) q) | ((with_reducible refine (wrackmake_Below.calls a3 255 (x : Int) _ H6.out).mono ?_); rintro e w8 ⟨rfl, hd8⟩; have hb8 : Below W6.heap.size W6 w8 := held_step (by (repeat (first | assumption | exact Below.refl _ _ | apply below_drew1 | apply below_alloc))) (drawn_below hd8); have c8a := (hb8.cell (World.block_lt_of_cell? W6 _ x1)).trans x1; have c8b := (hb8.cell (World.block_lt_of_cell? W6 _ x2)).trans x2; have m8 := blk_frozen (blk_below BKD.out hb8) q)))
        all_goals
          go_wp2_with fail
          go_meet
          case rel => exact ⟨_, ⟨hb8⟩, rfl⟩
      case rest =>
        obtain ⟨w8, HB8, hwc⟩ := hcut
        have ht : g12 ≠ gD := fun e => by
          have h1 := BK126.out
          rw [e, BKD.out] at h1
          simp at h1
        have hs : g11 ≠ gD := fun e => by
          have h1 := BK116.out
          rw [e, BKD.out] at h1
          simp at h1
        have e2 : D.set q (bits .xor .u8 (rdOf 0 D (q : Int)) (1 + (x : Int))) = D2 := by
          have h1 := HQ.out
          rw [HD2.out, h1]
        have rD := Kd.R_putn (Kd.R_below HRD6.out HB8.out) (q : Int) (bits .xor .u8 (rdOf 0 D (q : Int)) (1 + (x : Int)))
        rw [Int.toNat_natCast, e2] at rD
        have bkd := blk_below BKD.out HB8.out
        have hfar : ∀ k, k ≠ gD → (w8.setCell ⟨gD, q, none⟩ (.int .u8 (bits .xor .u8 (rdOf 0 D (q : Int)) (1 + (x : Int))))).heap[k]? = w8.heap[k]? := fun k hk => Below.heap_setCell _ ⟨gD, q, none⟩ _ k hk
        have rT := R_beside (Kd.R_below HRT6.out HB8.out) bkd (by decide) hfar
        have rS := R_beside (Kd.R_below HRS6.out HB8.out) bkd (by decide) hfar
        have hb7 : Below W4.heap.size W4 (w8.setCell ⟨gD, q, none⟩ (.int .u8 (bits .xor .u8 (rdOf 0 D (q : Int)) (1 + (x : Int))))) := Below.setCell (below_step HB6.out HB8.out) hgD _
        have b11 := (hfar _ hs).trans (blk_below BK116.out HB8.out)
        have b12 := (hfar _ ht).trans (blk_below BK126.out HB8.out)
        rw [← hwc] at rT rS hb7 b11 b12
        have rD' : (Kd.int .u8).R 5 wc W4.heap.size (fun _ => True) (.slice (some ⟨gD, 0, none⟩) D.length cD2) D2 := by rw [hwc]; exact rD
        clear hfar hwc rD ht hs e2 x1 x2 f2 bkd hw1 hw2 hw3 hw4 HB8 hgD BKD HRD6 HRT6 HRS6 HB6 BK116 BK126
        obtain ⟨W7, hW7⟩ : ∃ W, W = wc := ⟨_, rfl⟩
        subst hW7
        have HRS7 := Aside0.mk rS
        have HRT7 := Aside0.mk rT
        have HRD7 := Aside0.mk rD'
        have HB7 := Aside0.mk hb7
        have BK117 := Aside0.mk b11
        have BK127 := Aside0.mk b12
        have hl2 : D2.length = D.length := by rw [HD2.out, List.length_set]
        have HL2 := Aside0.mk hl2
        clear rS rT rD' hb7 b11 b12 hl2
        have HMG := Aside0.mk (show ∀ (W : World), Below W7.heap.size W7 W → Calls Tryd.prog 8 #[.agg #[.slice (some ⟨gS, 0, none⟩) n cS, .slice AD D.length cD], .agg #[.slice (some ⟨gT, 0, none⟩) n cT, .slice (some ⟨gD, 0, none⟩) D.length cD2]] W fun e w' => ∃ vS vD vC : Value, e = .returned (.tuple #[.agg #[vS, vD], vC, .int .i64 0]) ∧ (∃ A m c, vS = Value.slice A m c) ∧ Kd.R (Kd.int .u8) 5 w' W.heap.size (fun _ => True) vD D ∧ Kd.R (Kd.int .i64) 3 w' W.heap.size (fun _ => True) vC [(p : Int)] ∧ Below W.heap.size W w' from fun W hb => by
          have hone : ∀ y < n, rdOf 0 (List.replicate n (1 : Int)) ((y : Nat) : Int) = 1 := fun y hy => by
            unfold rdOf
            rw [Int.toNat_natCast]
            simp [hy]
          have hd2 := Kd.C_below (Kd.R_reads' HRD7.out).2.2 hb
          have hlc := (Kd.R_reads' HRD7.out).2.1
          have e := HL2.out
          have h := known_Merge.calls gS cS gT cT n (List.replicate n 1) (List.replicate n 1) AD cD D (some ⟨gD, 0, none⟩) cD2 D2 W (Kd.R_below HRS7.out hb) (Kd.R_below HRT7.out hb) (Kd.C_below HCD4.out (below_step HB7.out hb)) (Kd.R_reads' HRD3.out).2.1 (by first | exact hd2 | (rw [e]; exact hd2)) (by first | exact hlc | (rw [e]; exact hlc)) hn (by omega) hone hone HD.out (by rw [HL2.out]; exact HD.out) HBE.out HRK.out
          rw [HL2.out, HCL.out] at h
          exact h)
        have x0 : W7.cell? ⟨g11, 0, none⟩ = some (.slice (some ⟨gS, 0, none⟩) n cS) := (blk_cell BK117.out 0).trans rfl
        have x1 : W7.cell? ⟨g11, 1, none⟩ = some (.slice AD D.length cD) := (blk_cell BK117.out 1).trans rfl
        have x2 : W7.cell? ⟨g12, 0, none⟩ = some (.slice (some ⟨gT, 0, none⟩) n cT) := (blk_cell BK127.out 0).trans rfl
        have x3 : W7.cell? ⟨g12, 1, none⟩ = some (.slice (some ⟨gD, 0, none⟩) D.length cD2) := (blk_cell BK127.out 1).trans rfl
        go_upto_region 7 with (fail)
        go_cut [13, 14, 15] (fun v3 v4 v5 wx => ∃ (g : Nat) (vS : Value) (A10 : Option Addr) (c10 : Nat) (A11 : Option Addr) (c11 : Nat), v3 = .pointer (some ⟨g, 0, none⟩) ∧ v4 = .slice A11 1 c11 ∧ v5 = .int .i64 0 ∧ Aside0 (wx.heap[g]? = some (.cells #[vS, .slice A10 D.length c10] 30 (0, 0))) ∧ Aside0 ((Kd.int .u8).R 5 wx W7.heap.size (fun _ => True) (.slice A10 D.length c10) D) ∧ Aside0 ((Kd.int .i64).R 3 wx W7.heap.size (fun _ => True) (.slice A11 1 c11) [(p : Int)]) ∧ Aside0 (Below W7.heap.size W7 wx))
        case first =>
          go_wp2_with (first | (go_at_call 8; refine (HMG.out _ (by (repeat (first | assumption | exact Below.refl _ _ | apply below_drew1 | apply below_alloc | (refine Below.setCell ?_ (by first | exact hb9.size | exact Nat.le_refl _ | exact Nat.le_succ _) _))))).mono ?_; rintro e w9 ⟨vS, vD, vC, rfl, ⟨A9, m9, c9, rfl⟩, hRD, hRC, hb⟩; obtain ⟨A10, c10, eD⟩ := Kd.R_slice hRD; subst eD; obtain ⟨A11, c11, eC⟩ := Kd.R_slice hRC; subst eC; (first | (have bkn := blk_below (show (W7.alloc (.cells #[.slice none 0 0, .slice none 0 0] 30 (0, 0))).drew.heap[W7.heap.size]? = some (.cells #[.slice none 0 0, .slice none 0 0] 30 (0, 0)) from blk_new W7 (.cells #[.slice none 0 0, .slice none 0 0] 30 (0, 0))) hb; have n0 := (blk_cell bkn 0).trans rfl; have n1 := (blk_cell bkn 1).trans rfl; have m0 := blk_frozen bkn 0; have m1 := blk_frozen bkn 1) | (have bkn := blk_below (show (W7.alloc (.cells #[.slice none 0 0, .slice none 0 0] 30 (0, 0))).heap[W7.heap.size]? = some (.cells #[.slice none 0 0, .slice none 0 0] 30 (0, 0)) from blk_new W7 (.cells #[.slice none 0 0, .slice none 0 0] 30 (0, 0))) hb; have n0 := (blk_cell bkn 0).trans rfl; have n1 := (blk_cell bkn 1).trans rfl; have m0 := blk_frozen bkn 0; have m1 := blk_frozen bkn 1) | skip); have hb9 : Below W7.heap.size W7 w9 := held_step (by (repeat (first | assumption | exact Below.refl _ _ | apply below_drew1 | apply below_alloc | (refine Below.setCell ?_ (by first | exact hb9.size | exact Nat.le_refl _ | exact Nat.le_succ _) _)))) hb))
          all_goals
            go_meet
            case rel =>
              have rM := Kd.R_lower hRD (show W7.heap.size ≤ _ by first | exact Nat.le_refl _ | (simp; done) | (simp; omega) | exact Nat.le_succ _)
              have rC := Kd.R_lower hRC (show W7.heap.size ≤ _ by first | exact Nat.le_refl _ | (simp; done) | (simp; omega) | exact Nat.le_succ _)
              first
              | (obtain ⟨p1, p2, p3⟩ := put2 bkn (.slice A9 m9 c9) (.slice A10 D.length c10)
                 exact ⟨_, _, A10, c10, A11, c11, rfl, rfl, rfl, ⟨p1⟩, ⟨R_beside rM bkn (by decide) p2⟩, ⟨R_beside rC bkn (by decide) p2⟩, ⟨p3 _ _ hb9 (Nat.le_refl _)⟩⟩)
              | exact ⟨_, _, A10, c10, A11, c11, rfl, rfl, rfl, ⟨blk_new w9 (.cells #[.slice A9 m9 c9, .slice A10 D.length c10] 30 (0, 0))⟩, ⟨Kd.R_below rM (below_alloc (Below.refl _ _) _)⟩, ⟨Kd.R_below rC (below_alloc (Below.refl _ _) _)⟩, ⟨below_alloc hb9 _⟩⟩
        case rest =>
          obtain ⟨g13, vS, A10, c10, A11, c11, rfl, rfl, rfl, BK13, HRM, HRC, HB8⟩ := hcut
          obtain ⟨W8, hW8⟩ : ∃ W, W = wc := ⟨_, rfl⟩
          subst hW8
          clear x0 x1 x2 x3 HMG BK117 BK127
          have HB48 := Aside0.mk (below_step HB7.out HB8.out)
          have HBW := Aside0.mk (below_step (below_step HB3.out HB4.out) HB48.out)
          have BK98 := Aside0.mk (blk_below BK94.out HB48.out)
          have HCD8 := Aside0.mk (Kd.C_below HCD4.out HB48.out)
          have HCM8 := Aside0.mk (Kd.R_reads' HRM.out)
          have HCC8 := Aside0.mk (Kd.R_reads' HRC.out)
          have HLD := Aside0.mk (Kd.R_reads' HRD3.out).2.1
          have h0 : (0 : Int) ≤ (p : Int) := by omega
          go_wp2_with (first | (go_at_call 9; refine (wrackkeep1_mapped.calls _).mono ?_; rintro e w9 ⟨rfl, hb9⟩; have HB9 := Aside0.mk hb9; have y0 := (blk_cell (blk_below BK98.out hb9) 0).trans rfl; have y1 := (blk_cell (blk_below BK13.out hb9) 1).trans rfl; have HBW9 := Aside0.mk (below_step HBW.out hb9); have HLT := Aside0.mk (litC w9 (p : Int)); clear hb9) | (go_at_call 10; refine (slices_Equal_int_int.calls k A11 c11 [(p : Int)] _ 1 [(p : Int)] true _ (Kd.C_below HCC8.out.2.2 (below_alloc HB9.out _)) HCC8.out.2.1 HLT.out (Nat.le_refl _) HE.out.1).mono ?_; rintro e w10 ⟨rfl, hd10⟩; have HB10 := Aside0.mk (below_step (below_alloc HB9.out _) (drawn_below hd10)); have HBW10 := Aside0.mk (below_step (below_alloc HBW9.out _) (drawn_below hd10)); have y2 := (blk_cell (blk_below BK98.out HB10.out) 0).trans rfl; have y3 := (blk_cell (blk_below BK13.out HB10.out) 1).trans rfl) | (go_at_call 11; refine (slices_Equal_byte_byte.calls k A10 c10 D AD cD D true _ (Kd.C_below HCM8.out.2.2 HB10.out) HCM8.out.2.1 (Kd.C_below HCD8.out HB10.out) HLD.out HE.out.2).mono ?_; rintro e w11 ⟨rfl, hd11⟩; have HBW11 := Aside0.mk (below_step HBW10.out (drawn_below hd11))))
          go_ret
          exact ⟨rfl, HBW11.out⟩
def wrackkeep1_KnownClashes.D2 (D : List Int) (p i x : Int) : List Int := D.set (64 * p.toNat + i.toNat) (bits .xor .u8 (rdOf 0 D ((64 * p.toNat + i.toNat : Nat) : Int)) (1 + x))
def wrackkeep1_KnownClashes.f (k : Nat) (l0 : List Int) (a1 a2 a3 : Int) : Option Bool :=
  (wrackmake_Drive.f k l0).bind fun r => (wrackmake_Below.f a1 ((r.1.length / 64 : Nat) : Int)).bind fun p => (wrackmake_Below.f a2 64).bind fun i => (wrackmake_Below.f a3 255).bind fun x =>
  if (1 ≤ r.1.length / 64 ∧ r.1.length / 64 ≤ 1000 ∧ r.1.length = 64 * (r.1.length / 64) ∧ 0 ≤ p ∧ p < ((r.1.length / 64 : Nat) : Int) ∧ 0 ≤ i ∧ i < 64 ∧ 0 ≤ x ∧ x < 255) ∧ (bits_Mul.f 1 ((r.1.length / 64 : Nat) : Int) = some (0, ((r.1.length / 64 : Nat) : Int)) ∧ known_rank.f 1 = some 3 ∧ slices_Equal_int_int.f k [p] [p] = some true ∧ slices_Equal_byte_byte.f k r.1 r.1 = some true ∧
    (∀ b < r.1.length / 64, bytes_Equal.f (kblk r.1 b) (kblk (wrackkeep1_KnownClashes.D2 r.1 p i x) b) = some (decide (kblk r.1 b = kblk (wrackkeep1_KnownClashes.D2 r.1 p i x) b))) ∧ clashL r.1 (wrackkeep1_KnownClashes.D2 r.1 p i x) (r.1.length / 64) 0 = [p]) then some true else none
/-- wrackkeep1.KnownClashes: what it answers. -/
theorem wrackkeep1_KnownClashes.calls (k : Nat) (A0 : Option Addr) (c0 : Nat) (l0 : List Int) (a1 a2 a3 : Int) (r : Bool) (w : World) (hr0 : Kd.C (Kd.int .i64) w A0 l0.length l0) (hc0 : l0.length ≤ c0) (h : wrackkeep1_KnownClashes.f k l0 a1 a2 a3 = some r) :
    Calls Tryd.prog 3 #[.slice A0 l0.length c0, .int .i64 a1, .int .i64 a2, .int .i64 a3] w fun e w' => e = .returned (.bool r) ∧ Below w.heap.size w w' := by
  unfold wrackkeep1_KnownClashes.f at h
  obtain ⟨⟨D, F⟩, h1, h⟩ := Option.bind_eq_some_iff.mp h
  obtain ⟨p, h4, h⟩ := Option.bind_eq_some_iff.mp h
  obtain ⟨i, h5, h⟩ := Option.bind_eq_some_iff.mp h
  obtain ⟨x, h6, h⟩ := Option.bind_eq_some_iff.mp h
  simp only at h4 h
  split at h
  case isFalse => exact absurd h (by simp)
  case isTrue y =>
    obtain rfl := Option.some.inj h
    obtain ⟨⟨y1, y2, y3, y4, y5, y6, y7, y8, y9⟩, hm, hrk, e1, e2, hbe, hcl⟩ := y
    obtain ⟨p, rfl⟩ : ∃ Q : Nat, p = Q := ⟨p.toNat, by omega⟩
    obtain ⟨i, rfl⟩ : ∃ Q : Nat, i = Q := ⟨i.toNat, by omega⟩
    obtain ⟨x, rfl⟩ : ∃ Q : Nat, x = Q := ⟨x.toNat, by omega⟩
    refine wrackkeep1_KnownClashes.lawx k A0 c0 l0 a1 a2 a3 w hr0 hc0 D F (D.length / 64) p i x h1 y1 y2 y3 h4 (by omega) h5 (by omega) h6 (by omega) hm hrk e1 e2 (wrackkeep1_KnownClashes.D2 D p i x) ?_ hbe hcl
    unfold wrackkeep1_KnownClashes.D2
    rw [Int.toNat_natCast, Int.toNat_natCast]
/-- THE ONE PURE STATEMENT of wrackkeep1_KnownClashes. -/
def wrackkeep1_KnownClashes.Pure : Prop := ∀ (l0 : List Int) (a1 : Int) (a2 : Int) (a3 : Int), l0.length ≤ maxLen → l0.length * 8 ≤ 140737488351232 → (∀ x ∈ l0, (Lit.int .i64 x).wf = true) → (Lit.int .i64 a1).wf = true → (Lit.int .i64 a2).wf = true → (Lit.int .i64 a3).wf = true → ∃ k, wrackkeep1_KnownClashes.f k l0 a1 a2 a3 = some true
theorem wrackkeep1_KnownClashes.walk (P : wrackkeep1_KnownClashes.Pure) (a0 : Option Addr) (len0 cap0 : Nat) (z0 : List Int) (a1 : Int) (a2 : Int) (a3 : Int) (w : World) (w0 : (a0 = none ∧ len0 = 0 ∧ cap0 = 0 ∧ z0 = []) ∨ ∃ x, a0 = some x ∧ len0 ≤ cap0 ∧ cap0 ≤ maxLen ∧ z0.length = cap0 ∧ (∀ i, i < z0.length → w.cell? (x.add i) = some (.int .i64 (z0.getD i 0))) ∧ ∀ n ∈ z0, (Lit.int .i64 n).wf = true) (y0 : len0 * 8 ≤ 140737488351232) (w1 : (Lit.int .i64 a1).wf = true) (w2 : (Lit.int .i64 a2).wf = true) (w3 : (Lit.int .i64 a3).wf = true) :
    Calls Tryd.prog 3 #[.slice a0 len0 cap0, .int .i64 a1, .int .i64 a2, .int .i64 a3] w fun e w' => e = .returned (.bool true) ∧ Below w.heap.size w w' := by
  obtain ⟨l0, rfl, hr0, hm0, hw0, hc0⟩ := ReadsInt.ofRowC w0
  obtain ⟨k, h⟩ := P l0 a1 a2 a3 hm0 y0 hw0 w1 w2 w3
  exact wrackkeep1_KnownClashes.calls k _ _ l0 a1 a2 a3 true w (Kd.C_of_reads (d := (0 : Int)) (h1 := fun _ => rfl) hr0) hc0 h

end Go.Proofs.YtcnabemeadnecaaDoor.PKnownClashes
