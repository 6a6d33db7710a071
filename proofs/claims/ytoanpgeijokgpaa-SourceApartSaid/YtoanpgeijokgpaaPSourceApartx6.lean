-- written by prn.py, a program of this session, over the kit's printer
import Derived.Test.YtoanpgeijokgpaaPSourceApartx0
import Derived.Test.YtoanpgeijokgpaaPSourceApartx1
import Derived.Test.YtoanpgeijokgpaaPSourceApartx4
import Derived.Test.YtoanpgeijokgpaaPSourceApartx5
namespace Go.Proofs.Ytoanpgeijokgpaa.PSourceApart
open Go.RowKit Go.Proofs.YtoanpgeijokgpaaW.PrintWords Go.Proofs.YtoanpgeijokgpaaW.PrintLast Go.Proofs.YtoanpgeijokgpaaW.PrintMore Go.Proofs.YtoanpgeijokgpaaW.PrintMine
attribute [local go_sem] max2_int min2_int max_two min_two max_three min_three max_four min_four   -- for this text's walks alone
set_option linter.unusedVariables false
set_option linter.unusedSimpArgs false

/-! ### source_image_Read: function 67 -/
def source_image_Read.f (k : Nat) (b : List Int) (l : List S53) (off n : Int) : Option (List Int × Int) := if 0 ≤ off ∧ 0 ≤ n ∧ n ≤ (b.length : Int) ∧ off ≤ (b.length : Int) - n ∧ b.length ≤ 65536 then
  (span_Meet.f k l [⟨off, n⟩]).bind fun m => if m.length = 0 then some ((b.drop off.toNat).take n.toNat, 0) else some ([], 19) else none
set_option maxHeartbeats 2000000 in
set_option maxRecDepth 100000 in
theorem source_image_Read.calls (k : Nat) (g : Nat) (b : List Int) (l : List S53) (off n : Int) (r1 : List Int) (r2 : Int) (w : World) (hI : IsImg w g b l) (h : source_image_Read.f k b l off n = some (r1, r2)) :
    Calls Try.prog 67 #[.pointer (some ⟨g, 0, none⟩), .int .i64 off, .int .i64 n] w fun e w' => ∃ v0_ : Value, e = .returned (.tuple #[v0_, .int .i64 r2]) ∧ Kd.R (Kd.int .u8) 5 w' w.heap.size (fun _ => True) v0_ r1 ∧ Below w.heap.size w w' := by
  unfold source_image_Read.f at h
  split at h
  case isFalse => exact absurd h (by simp)
  case isTrue hh =>
  obtain ⟨q1, q2, q3, q4, q5⟩ := hh
  obtain ⟨m, hm, h⟩ := Option.bind_eq_some_iff.mp h
  obtain ⟨A, c, B, d, h1, h2, h3, h4, h5⟩ := hI
  have HI := Aside0.mk h1
  have HA := Aside0.mk h2
  have HC := Aside0.mk h3
  have HB := Aside0.mk h4
  have HD := Aside0.mk h5
  have HM := Aside0.mk hm
  have hwi : source_within.f off n (b.length : Int) = some true := by
    have e : wrap64 ((b.length : Int) - n) = (b.length : Int) - n := by unfold wrap64; omega
    unfold source_within.f
    rw [if_pos (by omega), if_pos (by omega), if_pos (by omega), e]
    simp; omega
  have HW := Aside0.mk hwi
  have x0 : w.cell? ⟨g, 0, none⟩ = some (.slice A b.length c) := (blk_cell h1 0).trans rfl
  have x1 : w.cell? ⟨g, 1, none⟩ = some (.slice B l.length d) := (blk_cell h1 1).trans rfl
  clear h1 h2 h3 h4 h5 hm hwi
  by_cases hl : m.length = 0
  · rw [if_pos hl] at h
    obtain ⟨rfl, rfl⟩ := Prod.mk.inj (Option.some.inj h)
    clear h
    obtain ⟨i0, hi0, _, hsz, _⟩ := info_parts info5
    have hc1 := cut_mid (P := Try.prog) 23 5 .i64 .i64 Try.underlying23 hi0 1 hsz A b.length c off (off + n) q1 (by omega) (by omega) HC.out
    obtain ⟨r1, hr⟩ : ∃ r, r = (b.drop off.toNat).take n.toNat := ⟨_, rfl⟩
    rw [← hr]
    have hlen : (off + n).toNat - off.toNat = r1.length := by rw [hr, List.length_take, List.length_drop]; omega
    rw [hlen] at hc1
    have HR1 := Aside0.mk hr
    have HLEN := Aside0.mk (show r1.length ≤ 65536 from by rw [hr, List.length_take, List.length_drop]; omega)
    have HCC := Aside0.mk (show r1.length ≤ c - off.toNat from by have := HC.out; rw [hr, List.length_take, List.length_drop]; omega)
    have HROW := Aside0.mk (show Kd.C (Kd.int .u8) w (if c = off.toNat then A else A.map (·.add (off.toNat * 1))) r1.length r1 from by
      have h1 := Kd.C_drop HA.out (m := off.toNat) (c := c) (by omega) HC.out
      have h2 := Kd.C_take (m := n.toNat) h1 (by rw [List.length_drop]; omega)
      rw [← hr] at h2
      exact h2)
    generalize (if c = off.toNat then A else A.map (·.add (off.toNat * 1))) = AC at hc1 HROW
    have HF := Aside0.mk (show slices_Clone_byte_byte.f r1 = some r1 from by unfold slices_Clone_byte_byte.f; rw [if_pos (by have := HLEN.out; omega)])
    clear hr hlen hi0 hsz
    go_enter Try.func67, Try.ntmps67
    go_upto_region 3 with (go_at_call 26; refine (source_within.calls off n _ true _ HW.out).mono ?_; rintro e w1 ⟨rfl, nd, rfl⟩)
    have HB1 : Aside0 (Below w.heap.size w (w.drewN nd)) := ⟨pw_below_drewN (Below.refl _ _) _⟩
    generalize w.drewN nd = W at HB1 ⊢
    have HBB := Aside0.mk (Kd.C_below HB.out HB1.out)
    have y1 : W.cell? ⟨g, 1, none⟩ = some (.slice B l.length d) := (HB1.out.cell (World.block_lt_of_cell? w _ x1)).trans x1
    have y0 : W.cell? ⟨g, 0, none⟩ = some (.slice A b.length c) := (HB1.out.cell (World.block_lt_of_cell? w _ x0)).trans x0
    have X0 := Aside0.mk x0
    clear x0 x1
    have t1 : decide ((m.length : Int) > 0) = false := decide_eq_false (by omega)
    have t2 : decide (0 < m.length) = false := decide_eq_false (by omega)
    go_upto_region 5 with (go_at_call 70; refine (span_Meet.calls k B d l (some ⟨W.heap.size, 0, none⟩) 1 [⟨off, n⟩] m _ (Kd.C_below HBB.out (below_alloc (Below.refl _ _) _)) HD.out (one53 W off n _) (Nat.le_refl 1) HM.out).mono ?_; rintro e w2 ⟨v2, rfl, hR, hb⟩; have HR2 := Aside0.mk hR; have HB2 := Aside0.mk (below_step (below_alloc HB1.out _) hb); clear hR hb; obtain ⟨Am, cm, em⟩ := Kd.R_slice HR2.out; subst em)
    have z0 : w2.cell? ⟨g, 0, none⟩ = some (.slice A b.length c) := (HB2.out.cell (World.block_lt_of_cell? w _ X0.out)).trans X0.out
    have HROW2 := Aside0.mk (Kd.C_below HROW.out HB2.out)
    clear y0 y1 t1 t2
    go_wp2_with (go_at_call 14; refine (slices_Clone_byte_byte.calls _ _ r1 r1 _ HROW2.out HCC.out HF.out).mono ?_; rintro e w3 ⟨v3, rfl, hR, hb⟩; have HR3 := Aside0.mk hR; have HB3 := Aside0.mk (below_step HB2.out hb); have HS3 := Aside0.mk hb; clear hR hb; obtain ⟨Ar, cr, er⟩ := Kd.R_slice HR3.out; subst er)
    go_ret2
    exact ⟨_, rfl, Kd.R_lower HR3.out (below_size HB2.out), HB3.out⟩
  · rw [if_neg hl] at h
    obtain ⟨rfl, rfl⟩ := Prod.mk.inj (Option.some.inj h)
    clear h
    go_enter Try.func67, Try.ntmps67
    go_upto_region 3 with (go_at_call 26; refine (source_within.calls off n _ true _ HW.out).mono ?_; rintro e w1 ⟨rfl, nd, rfl⟩)
    have HB1 : Aside0 (Below w.heap.size w (w.drewN nd)) := ⟨pw_below_drewN (Below.refl _ _) _⟩
    generalize w.drewN nd = W at HB1 ⊢
    have HBB := Aside0.mk (Kd.C_below HB.out HB1.out)
    have y1 : W.cell? ⟨g, 1, none⟩ = some (.slice B l.length d) := (HB1.out.cell (World.block_lt_of_cell? w _ x1)).trans x1
    have y0 : W.cell? ⟨g, 0, none⟩ = some (.slice A b.length c) := (HB1.out.cell (World.block_lt_of_cell? w _ x0)).trans x0
    clear x0 x1
    have t1 : decide ((m.length : Int) > 0) = true := decide_eq_true (by omega)
    have t2 : decide (0 < m.length) = true := decide_eq_true (by omega)
    go_upto_region 4 with (go_at_call 70; refine (span_Meet.calls k B d l (some ⟨W.heap.size, 0, none⟩) 1 [⟨off, n⟩] m _ (Kd.C_below HBB.out (below_alloc (Below.refl _ _) _)) HD.out (one53 W off n _) (Nat.le_refl 1) HM.out).mono ?_; rintro e w2 ⟨v2, rfl, hR, hb⟩; have HR2 := Aside0.mk hR; have HB2 := Aside0.mk (below_step (below_alloc HB1.out _) hb); clear hR hb; obtain ⟨Am, cm, em⟩ := Kd.R_slice HR2.out; subst em)
    go_wp2
    go_ret2
    exact ⟨_, rfl, Kd.R_nil _ _ _ _ _, HB2.out⟩

/-! ### wrackkeep1_sources: function 9 -/
def wrackkeep1_sources.f (k : Nat) : Option Bool := (source_Of.f k [97, 98, 99, 100, 101, 102]).bind fun r => (source_image_Read.f k [97, 98, 99, 100, 101, 102] r 1 2).bind fun x => if x.1 = [98, 99] ∧ x.2 = 0 then some true else none
set_option maxHeartbeats 2000000 in
set_option maxRecDepth 100000 in
theorem wrackkeep1_sources.calls (k : Nat) (r : Bool) (w : World) (h : wrackkeep1_sources.f k = some r) :
    Calls Try.prog 9 #[] w fun e w' => e = .returned (.bool r) ∧ Below w.heap.size w w' := by
  unfold wrackkeep1_sources.f at h
  obtain ⟨l, h1, h⟩ := Option.bind_eq_some_iff.mp h
  obtain ⟨⟨x, y⟩, h2, h⟩ := Option.bind_eq_some_iff.mp h
  simp only at h
  split at h
  case isFalse => exact absurd h (by simp)
  case isTrue hh =>
  obtain rfl := Option.some.inj h
  obtain ⟨rfl, rfl⟩ := hh
  have H1 := Aside0.mk h1
  have H2 := Aside0.mk h2
  clear h1 h2 h
  go_enter Try.func9, Try.ntmps9
  go_upto_region 4 with (first | ((with_reducible refine gate_dst (N := 7) rfl ?_); refine bytelit ?hg (N := 7) ?hd 23 5 (.tmp 6) ?ho ([97, 98, 99, 100, 101, 102] : List Int) _ ?hC ?hm ?hx Try.underlying23 Try.underlying5 ?_; (case hd => rfl); (case hg => rfl); (case ho => rfl); (case hC => rfl); (case hm => simp); (case hx => first | rfl | (simp; done) | (go_simp; done)); intro v1 w1 ho hb hg_ hnew_; clear hg_ hnew_; have HB1 := Aside0.mk hb; have HO1 := Aside0.mk ho; clear ho hb; obtain ⟨Ao1, co1, eo1⟩ := Kd.V_slice HO1.out; subst eo1) | (go_at_call 13; refine (source_Of.calls k Ao1 co1 [97, 98, 99, 100, 101, 102] l _ (Kd.V_reads' HO1.out).2.2 (Kd.V_reads' HO1.out).2.1 H1.out).mono ?_; rintro e w2 ⟨g, rfl, hI, hb⟩; have HI := Aside0.mk hI.img; have HB2 := Aside0.mk (below_step HB1.out hb); clear hI hb))
  have m2 := img_read ⟨g, 0, none⟩
  go_upto_region 5 with (go_at_call 67; refine (source_image_Read.calls k g [97, 98, 99, 100, 101, 102] l 1 2 [98, 99] 0 _ HI.out H2.out).mono ?_; rintro e w3 ⟨v, rfl, hR, hb⟩; have HR := Aside0.mk hR; have HB3 := Aside0.mk (below_step HB2.out hb); clear hR hb; obtain ⟨A, c, e3⟩ := Kd.R_slice HR.out; subst e3)
  have hcv := Kd.C_string (P := Try.prog) (A := A) (c := c) Try.underlying23 Try.underlying5 Try.underlying9 (Kd.R_reads' HR.out).2.2
  rw [show strOfNums [98, 99] = (⟨#[98, 99]⟩ : ByteArray) from by rfl] at hcv
  simp only [List.length_cons, List.length_nil, Nat.zero_add, Nat.reduceAdd] at hcv
  go_wp2
  go_ret
  exact ⟨by first | rfl | simp, HB3.out⟩

/-! ### source_image_Size: function 69 -/
def source_image_Size.f (b : List Int) : Option Int := some (b.length : Int)
theorem source_image_Size.calls (g : Nat) (b : List Int) (l : List S53) (w : World) (hI : IsImg w g b l) :
    Calls Try.prog 69 #[.pointer (some ⟨g, 0, none⟩)] w fun e w' => e = .returned (.int .i64 (b.length : Int)) ∧ w = w' := by
  obtain ⟨A, c, B, d, h1, h2, h3, h4, h5⟩ := hI
  have x0 : w.cell? ⟨g, 0, none⟩ = some (.slice A b.length c) := (blk_cell h1 0).trans rfl
  clear h1 h2 h3 h4 h5
  go_enter Try.func69, Try.ntmps69
  go_wp2
  go_ret
  exact ⟨rfl, rfl⟩

/-! ### source_All: function 15 -/
def source_All.f (k : Nat) (b : List Int) (l : List S53) : Option (List Int × Int) := source_image_Read.f k b l 0 (b.length : Int)
theorem source_All.calls (k : Nat) (g : Nat) (b : List Int) (l : List S53) (r1 : List Int) (r2 : Int) (w : World) (hI : IsImg w g b l) (h : source_All.f k b l = some (r1, r2)) :
    Calls Try.prog 15 #[.iface 55 (.pointer (some ⟨g, 0, none⟩))] w fun e w' => ∃ v0_ : Value, e = .returned (.tuple #[v0_, .int .i64 r2]) ∧ Kd.R (Kd.int .u8) 5 w' w.heap.size (fun _ => True) v0_ r1 ∧ Below w.heap.size w w' := by
  have HI := Aside0.mk hI
  have H := Aside0.mk (show source_image_Read.f k b l 0 (b.length : Int) = some (r1, r2) from h)
  clear hI h
  have m1 := img_size ⟨g, 0, none⟩
  have m2 := img_read ⟨g, 0, none⟩
  have m3 := img_nread ⟨g, 0, none⟩
  go_enter Try.func15, Try.ntmps15
  go_wp2
  go_region_with (first | (go_at_call 69; refine (source_image_Size.calls g b l _ (HI.out.below (by repeat (first | (with_reducible first | exact Below.refl _ _ | apply below_alloc | apply pw_below_drewN | apply below_drew1) | exact Below.refl _ _)))).mono ?_; rintro e w1 ⟨rfl, rfl⟩) | (go_at_call 67; refine (source_image_Read.calls k g b l 0 (b.length : Int) r1 r2 _ (HI.out.below (by repeat (first | (with_reducible first | exact Below.refl _ _ | apply below_alloc | apply pw_below_drewN | apply below_drew1) | exact Below.refl _ _))) H.out).mono ?_; rintro e w1 ⟨v, rfl, hR, hb⟩; have HR := Aside0.mk hR; have HB := Aside0.mk (below_step (by repeat (first | (with_reducible first | exact Below.refl _ _ | apply below_alloc | apply pw_below_drewN | apply below_drew1) | exact Below.refl _ _)) hb : Below w.heap.size w w1); clear hR hb))
  all_goals
    go_wp2
    go_ret2
    exact ⟨v, rfl, Kd.R_lower HR.out (by simp), HB.out⟩

/-! ### slices_Equal_byte_byte: function 16 -/
def slices_Equal_byte_byte.l0 : Nat → List Int → List Int → Int → Int → Option (Bool)
  | 0, _, _, _, _ => none
  | k + 1, x0, x1, x12, x13 => if x13 < x12 then (if 0 ≤ x13 then (if x13 < (x0.length : Int) then (if x13 < (x1.length : Int) then (if (rd x0 x13) = (rd x1 x13) then (slices_Equal_byte_byte.l0 k x0 x1 x12 (wrap64 (x13 + 1))) else (some false)) else (none)) else (none)) else (none)) else (some true)
def slices_Equal_byte_byte.f (k : Nat) (l0 : List Int) (l1 : List Int) : Option (Bool) := if (l0.length : Int) = (l1.length : Int) then (slices_Equal_byte_byte.l0 k l0 l1 (l0.length : Int) 0) else (some false)
theorem slices_Equal_byte_byte.mono_l : ∀ k, (∀ y0 y1 y2 y3, LeO (slices_Equal_byte_byte.l0 k y0 y1 y2 y3) (slices_Equal_byte_byte.l0 (k + 1) y0 y1 y2 y3))
  | 0 => fun _ _ _ _ r h => by simp [slices_Equal_byte_byte.l0] at h
  | k + 1 => by
    have ih0 := slices_Equal_byte_byte.mono_l k
    · intro y0 y1 y2 y3
      unfold slices_Equal_byte_byte.l0
      repeat' first
      | (with_reducible exact ih0 _ _ _ _)
      | (with_reducible exact LeO.refl _)
      | (with_reducible exact LeO.none _)
      | (with_reducible refine LeO.ite ?_ ?_)
      | (with_reducible refine LeO.bind ?_ (fun _ => ?_))
      | exact ih0 _ _ _ _
      | exact LeO.none _
      | refine LeO.ite ?_ ?_
      | refine LeO.bind ?_ (fun _ => ?_)
theorem slices_Equal_byte_byte.mono : ∀ a0 a1 k, LeO (slices_Equal_byte_byte.f k a0 a1) (slices_Equal_byte_byte.f (k + 1) a0 a1) := by
  intro a0 a1 k
  have ih0 := slices_Equal_byte_byte.mono_l k
  unfold slices_Equal_byte_byte.f
  repeat' first
      | (with_reducible exact ih0 _ _ _ _)
      | (with_reducible exact LeO.refl _)
      | (with_reducible exact LeO.none _)
      | (with_reducible refine LeO.ite ?_ ?_)
      | (with_reducible refine LeO.bind ?_ (fun _ => ?_))
      | exact ih0 _ _ _ _
      | exact LeO.none _
      | refine LeO.ite ?_ ?_
      | refine LeO.bind ?_ (fun _ => ?_)
set_option maxHeartbeats 8000000 in
set_option maxRecDepth 100000 in
theorem slices_Equal_byte_byte.calls (k : Nat) (A0 : Option Addr) (c0 : Nat) (l0 : List Int) (A1 : Option Addr) (c1 : Nat) (l1 : List Int) (r : Bool) (w : World) (hr0 : Kd.C (Kd.int .u8) w A0 l0.length l0) (hc0 : l0.length ≤ c0) (hr1 : Kd.C (Kd.int .u8) w A1 l1.length l1) (hc1 : l1.length ≤ c1) (h : slices_Equal_byte_byte.f k l0 l1 = some r) :
    Calls Try.prog 16 #[.slice A0 l0.length c0, .slice A1 l1.length c1] w fun e w' => e = .returned (.bool r) ∧ Drawn0 w w' := by
  have HR0 := Aside0.mk hr0
  have HC0 := Aside0.mk hc0
  clear hr0 hc0
  have HR1 := Aside0.mk hr1
  have HC1 := Aside0.mk hc1
  clear hr1 hc1
  have H : (if (l0.length : Int) = (l1.length : Int) then (slices_Equal_byte_byte.l0 k l0 l1 (l0.length : Int) 0) else (some false)) = some r := h
  clear h
  by_cases c3 : (l0.length : Int) = (l1.length : Int)
  · rw [if_pos c3] at H
    have c3b0 : ((l0.length : Int) == (l1.length : Int)) = true := beq_iff_eq.mpr c3
    have c3b1 : ((l0.length : Int) != (l1.length : Int)) = false := bne_eq_false_iff_eq.mpr c3
    have c3b2 : (l0.length == l1.length) = true := by first | simpa using c3 | (simp at c3 ⊢; omega)
    clear c3
    have H' := Aside0.mk H
    clear H
    go_enter Try.func16, Try.ntmps16
    go_wp2
    repeat (go_quiet (fail); try go_wp2)
    go_loopg [13] k (fun kq v13 w' => ∃ (x13_1 : Int), v13 = .int .i64 x13_1 ∧ Aside0 (slices_Equal_byte_byte.l0 kq l0 l1 (l0.length : Int) x13_1 = some r) ∧ Aside0 (kq ≤ k) ∧ Drawn0 w w')
    case atStart => exact ⟨(0), (by first | rfl | (simp; done) | (simp [*]; done)), H', ⟨Nat.le_refl _⟩, by repeat (first | exact Drawn0.refl _ | apply Drawn0.step)⟩
    case round =>
      clear H'
      try clear c1
      try clear p2
      try clear c3
      try clear c3b0
      try clear c3b1
      try clear c3b2
      obtain ⟨x13_1, rfl, HA, HK1, ⟨m1, rfl⟩⟩ := hrel
      cases gk with
      | zero => exact absurd HA.out (by simp [slices_Equal_byte_byte.l0])
      | succ k1 =>
        have H := HA.out
        clear HA
        simp only [slices_Equal_byte_byte.l0] at H
        by_cases c4 : x13_1 < (l0.length : Int)
        · rw [if_pos c4] at H
          have c4b0 : decide (x13_1 < (l0.length : Int)) = true := decide_eq_true c4
          clear c4
          by_cases c5 : 0 ≤ x13_1
          · rw [if_pos c5] at H
            have c5b0 : decide (0 ≤ x13_1) = true := decide_eq_true c5
            clear c5
            by_cases c6 : x13_1 < (l0.length : Int)
            · rw [if_pos c6] at H
              have c6b0 : decide (x13_1 < (l0.length : Int)) = true := decide_eq_true c6
              clear c6
              by_cases c7 : x13_1 < (l1.length : Int)
              · rw [if_pos c7] at H
                have c7b0 : decide (x13_1 < (l1.length : Int)) = true := decide_eq_true c7
                clear c7
                by_cases c8 : (rd l0 x13_1) = (rd l1 x13_1)
                · rw [if_pos c8] at H
                  have c8b0 : ((rd l0 x13_1) == (rd l1 x13_1)) = true := beq_iff_eq.mpr c8
                  have c8b1 : ((rd l0 x13_1) != (rd l1 x13_1)) = false := bne_eq_false_iff_eq.mpr c8
                  clear c8
                  have H' := Aside0.mk H
                  clear H
                  have p182 : 0 ≤ (x13_1 : Int) := of_decide_eq_true (by first | (with_reducible assumption) | assumption)
                  have q182 : x13_1 < (l0.length : Int) := of_decide_eq_true (by first | (with_reducible assumption) | assumption)
                  obtain ⟨ad182, e182, hx182_0⟩ := Kd.at_int HR0.out x13_1 p182 q182
                  cases e182
                  replace p182 := eq_true p182
                  replace q182 := eq_true q182
                  have p183 : 0 ≤ (x13_1 : Int) := of_decide_eq_true (by first | (with_reducible assumption) | assumption)
                  have q183 : x13_1 < (l1.length : Int) := of_decide_eq_true (by first | (with_reducible assumption) | assumption)
                  obtain ⟨ad183, e183, hx183_0⟩ := Kd.at_int HR1.out x13_1 p183 q183
                  cases e183
                  replace p183 := eq_true p183
                  replace q183 := eq_true q183
                  go_wp2
                  repeat (go_quiet (fail); try go_wp2)
                  go_roundg k1
                  case measure => have := HK1.out; omega
                  case rel => exact ⟨(wrap64 (x13_1 + 1)), (by first | rfl | (simp; done) | (simp [*]; done)), H', ⟨by have := HK1.out; omega⟩, by repeat (first | exact Drawn0.refl _ | apply Drawn0.step)⟩
                · rw [if_neg c8] at H
                  have c8b0 : ((rd l0 x13_1) == (rd l1 x13_1)) = false := beq_eq_false_iff_ne.mpr c8
                  have c8b1 : ((rd l0 x13_1) != (rd l1 x13_1)) = true := bne_iff_ne.mpr c8
                  obtain rfl := Option.some.inj H
                  have p182 : 0 ≤ (x13_1 : Int) := of_decide_eq_true (by first | (with_reducible assumption) | assumption)
                  have q182 : x13_1 < (l0.length : Int) := of_decide_eq_true (by first | (with_reducible assumption) | assumption)
                  obtain ⟨ad182, e182, hx182_0⟩ := Kd.at_int HR0.out x13_1 p182 q182
                  cases e182
                  replace p182 := eq_true p182
                  replace q182 := eq_true q182
                  have p183 : 0 ≤ (x13_1 : Int) := of_decide_eq_true (by first | (with_reducible assumption) | assumption)
                  have q183 : x13_1 < (l1.length : Int) := of_decide_eq_true (by first | (with_reducible assumption) | assumption)
                  obtain ⟨ad183, e183, hx183_0⟩ := Kd.at_int HR1.out x13_1 p183 q183
                  cases e183
                  replace p183 := eq_true p183
                  replace q183 := eq_true q183
                  go_wp2
                  repeat (go_quiet (fail); try go_wp2)
                  go_ret
                  exact ⟨by first | rfl | (simp; done) | (simp [*]; done), by repeat (first | exact Drawn0.refl _ | apply Drawn0.step)⟩
              · rw [if_neg c7] at H
                exact absurd H (by simp)
            · rw [if_neg c6] at H
              exact absurd H (by simp)
          · rw [if_neg c5] at H
            exact absurd H (by simp)
        · rw [if_neg c4] at H
          have c4b0 : decide (x13_1 < (l0.length : Int)) = false := decide_eq_false c4
          clear c4
          obtain rfl := Option.some.inj H
          go_wp2
          repeat (go_quiet (fail); try go_wp2)
          go_ret
          exact ⟨by first | rfl | (simp; done) | (simp [*]; done), by repeat (first | exact Drawn0.refl _ | apply Drawn0.step)⟩
  · rw [if_neg c3] at H
    have c3b0 : ((l0.length : Int) == (l1.length : Int)) = false := beq_eq_false_iff_ne.mpr c3
    have c3b1 : ((l0.length : Int) != (l1.length : Int)) = true := bne_iff_ne.mpr c3
    have c3b2 : (l0.length == l1.length) = false := by first | simpa using c3 | (simp at c3 ⊢; omega)
    obtain rfl := Option.some.inj H
    go_enter Try.func16, Try.ntmps16
    go_wp2
    repeat (go_quiet (fail); try go_wp2)
    go_ret
    exact ⟨by first | rfl | (simp; done) | (simp [*]; done), by repeat (first | exact Drawn0.refl _ | apply Drawn0.step)⟩

/-! ### wrackkeep1_SourceApart: function 4 -/
set_option maxHeartbeats 2000000 in
set_option maxRecDepth 100000 in
theorem wrackkeep1_SourceApart.lawx (k : Nat) (A0 : Option Addr) (c0 : Nat) (l0 : List Int) (a1 : Int) (w : World) (hr0 : Kd.C (Kd.int .i64) w A0 l0.length l0) (hc0 : l0.length ≤ c0)
    (b : List Int) (h1 : wrackmake_Image.f k l0 = some b) (hb1 : 0 < b.length) (hb2 : b.length ≤ 65536) (r : List S53) (h2 : source_Of.f k b = some r) (h3 : wrackkeep1_sources.f k = some true)
    (p : Int) (h4 : wrackmake_Below.f a1 (b.length : Int) = some p) (p0 : 0 ≤ p) (p1 : p < (b.length : Int)) (h5 : source_All.f k b r = some (b, 0)) (h6 : slices_Equal_byte_byte.f k b b = some true) :
    Calls Try.prog 4 #[.slice A0 l0.length c0, .int .i64 a1] w fun e w' => e = .returned (.bool true) ∧ Below w.heap.size w w' := by
  have HR0 := Aside0.mk hr0
  have HC0 := Aside0.mk hc0
  have H1 := Aside0.mk h1
  have H2 := Aside0.mk h2
  have H3 := Aside0.mk h3
  have H4 := Aside0.mk h4
  have H5 := Aside0.mk h5
  have H6 := Aside0.mk h6
  have HF := Aside0.mk (show slices_Clone_byte_byte.f b = some b from by unfold slices_Clone_byte_byte.f; rw [if_pos (by omega)])
  have b0 : decide (0 ≤ p) = true := decide_eq_true p0
  have b1 : decide (p < (b.length : Int)) = true := decide_eq_true p1
  have P0 := Aside0.mk p0
  have P1 := Aside0.mk p1
  have HL := Aside0.mk hb1
  clear hr0 hc0 h1 h2 h3 h4 h5 h6
  go_enter Try.func4, Try.ntmps4
  go_upto_region 2 with (go_at_call 6; refine (wrackmake_Image.calls k A0 c0 l0 b _ HR0.out HC0.out H1.out).mono ?_; rintro e w1 ⟨v1, rfl, hR, hb⟩; have HRb := Aside0.mk hR; have HB1 := Aside0.mk hb; clear hR hb; obtain ⟨gb, cb, eb, gb1, gb2, _⟩ := Kd.R_form HRb.out HL.out; subst eb)
  have G1 := Aside0.mk gb1
  have G2 := Aside0.mk gb2
  clear gb1 gb2
  go_upto_region 3 with (go_at_call 13; refine (source_Of.calls k (some ⟨gb, 0, none⟩) cb b r _ (Kd.R_reads' HRb.out).2.2 (Kd.R_reads' HRb.out).2.1 H2.out).mono ?_; rintro e w2 ⟨g, rfl, hI, hb⟩; have HI := Aside0.mk hI; have HRb2 := Aside0.mk (Kd.R_below HRb.out hb); have HB2 := Aside0.mk (below_step HB1.out hb); have HS2 := Aside0.mk hb.size; clear hI hb)
  clear HB1
  go_upto_region 5 with (go_at_call 9; refine (wrackkeep1_sources.calls k true _ H3.out).mono ?_; rintro e w3 ⟨rfl, hb⟩; have HI3 := Aside0.mk (HI.out.below hb); have HRb3 := Aside0.mk (Kd.R_below HRb2.out hb); have HB3 := Aside0.mk (below_step HB2.out hb); have HS3 := Aside0.mk (Nat.le_trans HS2.out hb.size); clear hb)
  clear HI HB2 HRb2 HS2
  go_upto_region 6 with (go_at_call 14; refine (slices_Clone_byte_byte.calls (some ⟨gb, 0, none⟩) cb b b _ (Kd.R_reads' HRb3.out).2.2 (Kd.R_reads' HRb3.out).2.1 HF.out).mono ?_; rintro e w4 ⟨v4, rfl, hR, hb⟩; have HW := Aside0.mk hR; have HI4 := Aside0.mk (HI3.out.below hb); have HRb4 := Aside0.mk (Kd.R_below HRb3.out hb); have HB4 := Aside0.mk (below_step HB3.out hb); clear hR hb; obtain ⟨Aw, cw, ew⟩ := Kd.R_slice HW.out; subst ew)
  clear HI3 HB3 HRb3
  go_upto_region 7 with ((go_at_call 11; refine (wrackmake_Below.calls a1 (b.length : Int) p _ H4.out).mono ?_; rintro e w5 ⟨rfl, nd, rfl⟩; have HRb5 := Aside0.mk (Kd.R_drewN (m := nd) HRb4.out); obtain ⟨hx, hf⟩ := Kd.R_celln 0 HRb5.out p P0.out P1.out))
  have HP : ((w4.drewN nd).setCell ⟨gb, p.toNat, none⟩ (.int .u8 ((rdOf 0 b p + 1) % 256))) = ((w4.drewN nd).setCell ⟨gb, p.toNat, none⟩ (.int .u8 ((rdOf 0 b p + 1) % 256))) ∧ (w4.drewN nd).grownBy ((w4.drewN nd).setCell ⟨gb, p.toNat, none⟩ (.int .u8 ((rdOf 0 b p + 1) % 256))) (some gb) := ⟨rfl, (Kd.R_putg HRb5.out p ((rdOf 0 b p + 1) % 256)).2⟩
  have HB6 : Below w.heap.size w ((w4.drewN nd).setCell ⟨gb, p.toNat, none⟩ (.int .u8 ((rdOf 0 b p + 1) % 256))) := below_set (pw_below_drewN HB4.out nd) G1.out
  obtain ⟨_, HP⟩ := HP
  generalize (w4.drewN nd).setCell ⟨gb, p.toNat, none⟩ (.int .u8 ((rdOf 0 b p + 1) % 256)) = W6 at HP HB6 ⊢
  have HI6 := Aside0.mk ((HI4.out.below (pw_below_drewN (Below.refl _ _) nd)).other HP G2.out)
  have HW6 := Aside0.mk (R_other (Kd.R_drewN (m := nd) HW.out) HP (Nat.lt_of_lt_of_le G2.out HS3.out))
  replace HB6 := Aside0.mk HB6
  clear HP HI4 HW HB4 HRb4 HRb5 hx hf
  go_upto_region 8 with (go_at_call 15; refine (source_All.calls k g b r b 0 _ HI6.out.img H5.out).mono ?_; rintro e w7 ⟨v7, rfl, hR, hb⟩; have HX := Aside0.mk hR; have HS7 := Aside0.mk hb; clear hR hb; obtain ⟨gx, cx, ex, gx1, gx2, _⟩ := Kd.R_form HX.out HL.out; subst ex)
  have X1 := Aside0.mk gx1
  clear gx1 gx2
  have HXC := Aside0.mk (Kd.R_reads' HX.out).2.2
  have HXL := Aside0.mk (Kd.R_reads' HX.out).2.1
  have HWC := Aside0.mk (Kd.C_below (Kd.R_reads' HW6.out).2.2 HS7.out)
  have HWL := Aside0.mk (Kd.R_reads' HW6.out).2.1
  go_upto_region 10 with (go_at_call 16; refine (slices_Equal_byte_byte.calls k (some ⟨gx, 0, none⟩) cx b Aw cw b true _ HXC.out HXL.out HWC.out HWL.out H6.out).mono ?_; rintro e w8 ⟨rfl, ne, rfl⟩)
  have HX8 := Aside0.mk (Kd.R_drewN (m := ne) HX.out)
  have HS8 : Aside0 (Below W6.heap.size W6 (w7.drewN ne)) := ⟨pw_below_drewN HS7.out ne⟩
  clear HX HS7 HXC HWC
  generalize w7.drewN ne = W8 at HX8 HS8 ⊢
  go_upto_region 11 with ((go_at_call 11; refine (wrackmake_Below.calls a1 (b.length : Int) p _ H4.out).mono ?_; rintro e w9 ⟨rfl, nf, rfl⟩; have HX9 := Aside0.mk (Kd.R_drewN (m := nf) HX8.out); obtain ⟨hx, hf⟩ := Kd.R_celln 0 HX9.out p P0.out P1.out))
  have HS10 : Below W6.heap.size W6 ((W8.drewN nf).setCell ⟨gx, p.toNat, none⟩ (.int .u8 ((rdOf 0 b p + 1) % 256))) := below_set (pw_below_drewN HS8.out nf) X1.out
  clear HX8 HX9 hx hf HS8
  generalize (W8.drewN nf).setCell ⟨gx, p.toNat, none⟩ (.int .u8 ((rdOf 0 b p + 1) % 256)) = W10 at HS10 ⊢
  have HI10 := Aside0.mk (HI6.out.below HS10)
  have HWC10 := Aside0.mk (Kd.C_below (Kd.R_reads' HW6.out).2.2 HS10)
  have HB10 := Aside0.mk (below_step HB6.out HS10)
  clear HS10 HI6 HW6 HB6
  go_upto_region 12 with (go_at_call 15; refine (source_All.calls k g b r b 0 _ HI10.out.img H5.out).mono ?_; rintro e w11 ⟨v11, rfl, hR, hb⟩; have HY := Aside0.mk hR; have HS11 := Aside0.mk hb; have HB11 := Aside0.mk (below_step HB10.out hb); clear hR hb; obtain ⟨Ay, cy, ey⟩ := Kd.R_slice HY.out; subst ey)
  have HYC := Aside0.mk (Kd.R_reads' HY.out).2.2
  have HYL := Aside0.mk (Kd.R_reads' HY.out).2.1
  have HWC11 := Aside0.mk (Kd.C_below HWC10.out HS11.out)
  go_wp2_with (go_at_call 16; refine (slices_Equal_byte_byte.calls k Ay cy b Aw cw b true _ HYC.out HYL.out HWC11.out HWL.out H6.out).mono ?_; rintro e w12 ⟨rfl, ng, rfl⟩)
  go_ret
  exact ⟨by first | rfl | simp, pw_below_drewN HB11.out ng⟩
def wrackkeep1_SourceApart.f (k : Nat) (l0 : List Int) (a1 : Int) : Option Bool :=
  (wrackmake_Image.f k l0).bind fun b => (source_Of.f k b).bind fun r => (wrackkeep1_sources.f k).bind fun s1 => (wrackmake_Below.f a1 (b.length : Int)).bind fun p => (source_All.f k b r).bind fun x => (slices_Equal_byte_byte.f k b b).bind fun t =>
  if s1 = true ∧ x = (b, 0) ∧ t = true ∧ 0 < b.length ∧ b.length ≤ 65536 ∧ 0 ≤ p ∧ p < (b.length : Int) then some true else none
theorem wrackkeep1_SourceApart.calls (k : Nat) (A0 : Option Addr) (c0 : Nat) (l0 : List Int) (a1 : Int) (r : Bool) (w : World) (hr0 : Kd.C (Kd.int .i64) w A0 l0.length l0) (hc0 : l0.length ≤ c0) (h : wrackkeep1_SourceApart.f k l0 a1 = some r) :
    Calls Try.prog 4 #[.slice A0 l0.length c0, .int .i64 a1] w fun e w' => e = .returned (.bool r) ∧ Below w.heap.size w w' := by
  unfold wrackkeep1_SourceApart.f at h
  obtain ⟨b, h1, h⟩ := Option.bind_eq_some_iff.mp h
  obtain ⟨r', h2, h⟩ := Option.bind_eq_some_iff.mp h
  obtain ⟨s1, h3, h⟩ := Option.bind_eq_some_iff.mp h
  obtain ⟨p, h4, h⟩ := Option.bind_eq_some_iff.mp h
  obtain ⟨x, h5, h⟩ := Option.bind_eq_some_iff.mp h
  obtain ⟨t, h6, h⟩ := Option.bind_eq_some_iff.mp h
  split at h
  case isFalse => exact absurd h (by simp)
  case isTrue hh =>
    obtain rfl := Option.some.inj h
    obtain ⟨rfl, rfl, rfl, q1, q2, q3, q4⟩ := hh
    exact wrackkeep1_SourceApart.lawx k A0 c0 l0 a1 w hr0 hc0 b h1 q1 q2 r' h2 h3 p h4 q3 q4 h5 h6
/-- THE ONE PURE STATEMENT of wrackkeep1_SourceApart. -/
def wrackkeep1_SourceApart.Pure : Prop := ∀ (l0 : List Int) (a1 : Int), l0.length ≤ maxLen → l0.length * 8 ≤ 140737488351232 → (∀ x ∈ l0, (Lit.int .i64 x).wf = true) → (Lit.int .i64 a1).wf = true → ∃ k, wrackkeep1_SourceApart.f k l0 a1 = some true
theorem wrackkeep1_SourceApart.walk (P : wrackkeep1_SourceApart.Pure) (a0 : Option Addr) (len0 cap0 : Nat) (z0 : List Int) (a1 : Int) (w : World) (w0 : (a0 = none ∧ len0 = 0 ∧ cap0 = 0 ∧ z0 = []) ∨ ∃ x, a0 = some x ∧ len0 ≤ cap0 ∧ cap0 ≤ maxLen ∧ z0.length = cap0 ∧ (∀ i, i < z0.length → w.cell? (x.add i) = some (.int .i64 (z0.getD i 0))) ∧ ∀ n ∈ z0, (Lit.int .i64 n).wf = true) (y0 : len0 * 8 ≤ 140737488351232) (w1 : (Lit.int .i64 a1).wf = true) :
    Calls Try.prog 4 #[.slice a0 len0 cap0, .int .i64 a1] w fun e w' => e = .returned (.bool true) ∧ Below w.heap.size w w' := by
  obtain ⟨l0, rfl, hr0, hm0, hw0, hc0⟩ := ReadsInt.ofRowC w0
  obtain ⟨k, h⟩ := P l0 a1 hm0 y0 hw0 w1
  exact wrackkeep1_SourceApart.calls k _ _ l0 a1 true w (Kd.C_of_reads (d := (0 : Int)) (h1 := fun _ => rfl) hr0) hc0 h

end Go.Proofs.Ytoanpgeijokgpaa.PSourceApart
