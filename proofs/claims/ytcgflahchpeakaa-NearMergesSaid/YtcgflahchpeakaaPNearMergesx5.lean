-- written by prn.py, a program of this session, over the kit's printer
import Derived.Test.YtcgflahchpeakaaPNearMergesx0
namespace Go.Proofs.Ytcgflahchpeakaa.PNearMerges
open Go.RowKit Go.Proofs.YtcgflahchpeakaaW.PrintWords Go.Proofs.YtcgflahchpeakaaW.PrintLast Go.Proofs.YtcgflahchpeakaaW.PrintMore Go.Proofs.YtcgflahchpeakaaW.PrintMine
attribute [local go_sem] max2_int min2_int max_two min_two max_three min_three max_four min_four   -- for this text's walks alone
set_option linter.unusedVariables false
set_option linter.unusedSimpArgs false

/-! ### slices_Index_int_int: function 24 -/
def slices_Index_int_int.l0 : Nat → List Int → Int → Int → Int → Option (Int)
  | 0, _, _, _, _ => none
  | k + 1, x0, x1, x7, x8 => if x8 < x7 then (if 0 ≤ x8 then (if x8 < (x0.length : Int) then (if x1 = (rd x0 x8) then (some x8) else (slices_Index_int_int.l0 k x0 x1 x7 (wrap64 (x8 + 1)))) else (none)) else (none)) else (some (-1))
def slices_Index_int_int.f (k : Nat) (l0 : List Int) (a1 : Int) : Option (Int) := slices_Index_int_int.l0 k l0 a1 (l0.length : Int) 0
theorem slices_Index_int_int.mono_l : ∀ k, (∀ y0 y1 y2 y3, LeO (slices_Index_int_int.l0 k y0 y1 y2 y3) (slices_Index_int_int.l0 (k + 1) y0 y1 y2 y3))
  | 0 => fun _ _ _ _ r h => by simp [slices_Index_int_int.l0] at h
  | k + 1 => by
    have ih0 := slices_Index_int_int.mono_l k
    · intro y0 y1 y2 y3
      unfold slices_Index_int_int.l0
      repeat' first
      | (with_reducible exact ih0 _ _ _ _)
      | (with_reducible exact LeO.refl _)
      | (with_reducible exact LeO.none _)
      | (with_reducible refine LeO.ite ?_ ?_)
      | (with_reducible refine LeO.bind ?_ (fun _ => ?_))
      | exact ih0 _ _ _ _
      | exact LeO.none _
      | refine LeO.ite ?_ ?_
      | refine LeO.bind ?_ (fun _ => ?_)
theorem slices_Index_int_int.mono : ∀ a0 a1 k, LeO (slices_Index_int_int.f k a0 a1) (slices_Index_int_int.f (k + 1) a0 a1) := by
  intro a0 a1 k
  have ih0 := slices_Index_int_int.mono_l k
  unfold slices_Index_int_int.f
  repeat' first
      | (with_reducible exact ih0 _ _ _ _)
      | (with_reducible exact LeO.refl _)
      | (with_reducible exact LeO.none _)
      | (with_reducible refine LeO.ite ?_ ?_)
      | (with_reducible refine LeO.bind ?_ (fun _ => ?_))
      | exact ih0 _ _ _ _
      | exact LeO.none _
      | refine LeO.ite ?_ ?_
      | refine LeO.bind ?_ (fun _ => ?_)
set_option maxHeartbeats 8000000 in
set_option maxRecDepth 100000 in
theorem slices_Index_int_int.calls (k : Nat) (A0 : Option Addr) (c0 : Nat) (l0 : List Int) (a1 : Int) (r : Int) (w : World) (hr0 : Kd.C (Kd.int .i64) w A0 l0.length l0) (hc0 : l0.length ≤ c0) (h : slices_Index_int_int.f k l0 a1 = some r) :
    Calls Try.prog 24 #[.slice A0 l0.length c0, .int .i64 a1] w fun e w' => e = .returned (.int .i64 r) ∧ Drawn0 w w' := by
  have HR0 := Aside0.mk hr0
  have HC0 := Aside0.mk hc0
  clear hr0 hc0
  have H : (slices_Index_int_int.l0 k l0 a1 (l0.length : Int) 0) = some r := h
  clear h
  have H' := Aside0.mk H
  clear H
  go_enter Try.func24, Try.ntmps24
  go_wp2
  go_loopg [8] k (fun kq v8 w' => ∃ (x8_1 : Int), v8 = .int .i64 x8_1 ∧ Aside0 (slices_Index_int_int.l0 kq l0 a1 (l0.length : Int) x8_1 = some r) ∧ Aside0 (kq ≤ k) ∧ Drawn0 w w')
  case atStart => exact ⟨(0), (by first | rfl | (simp; done) | (simp [*]; done)), H', ⟨Nat.le_refl _⟩, by repeat (first | exact Drawn0.refl _ | apply Drawn0.step)⟩
  case round =>
    clear H'
    try clear c2
    try clear p2
    obtain ⟨x8_1, rfl, HA, HK1, ⟨m1, rfl⟩⟩ := hrel
    cases gk with
    | zero => exact absurd HA.out (by simp [slices_Index_int_int.l0])
    | succ k1 =>
      have H := HA.out
      clear HA
      simp only [slices_Index_int_int.l0] at H
      by_cases c3 : x8_1 < (l0.length : Int)
      · rw [if_pos c3] at H
        have c3b0 : decide (x8_1 < (l0.length : Int)) = true := decide_eq_true c3
        clear c3
        by_cases c4 : 0 ≤ x8_1
        · rw [if_pos c4] at H
          have c4b0 : decide (0 ≤ x8_1) = true := decide_eq_true c4
          clear c4
          by_cases c5 : x8_1 < (l0.length : Int)
          · rw [if_pos c5] at H
            have c5b0 : decide (x8_1 < (l0.length : Int)) = true := decide_eq_true c5
            clear c5
            by_cases c6 : a1 = (rd l0 x8_1)
            · rw [if_pos c6] at H
              have c6b0 : (a1 == (rd l0 x8_1)) = true := beq_iff_eq.mpr c6
              have c6b1 : (a1 != (rd l0 x8_1)) = false := bne_eq_false_iff_eq.mpr c6
              clear c6
              obtain rfl := Option.some.inj H
              have p211 : 0 ≤ (x8_1 : Int) := of_decide_eq_true (by first | (with_reducible assumption) | assumption)
              have q211 : x8_1 < (l0.length : Int) := of_decide_eq_true (by first | (with_reducible assumption) | assumption)
              obtain ⟨ad211, e211, hx211_0⟩ := Kd.at_int HR0.out x8_1 p211 q211
              cases e211
              replace p211 := eq_true p211
              replace q211 := eq_true q211
              go_wp2
              go_ret
              exact ⟨by first | rfl | (simp; done) | (simp [*]; done), by repeat (first | exact Drawn0.refl _ | apply Drawn0.step)⟩
            · rw [if_neg c6] at H
              have c6b0 : (a1 == (rd l0 x8_1)) = false := beq_eq_false_iff_ne.mpr c6
              have c6b1 : (a1 != (rd l0 x8_1)) = true := bne_iff_ne.mpr c6
              have H' := Aside0.mk H
              clear H
              have p211 : 0 ≤ (x8_1 : Int) := of_decide_eq_true (by first | (with_reducible assumption) | assumption)
              have q211 : x8_1 < (l0.length : Int) := of_decide_eq_true (by first | (with_reducible assumption) | assumption)
              obtain ⟨ad211, e211, hx211_0⟩ := Kd.at_int HR0.out x8_1 p211 q211
              cases e211
              replace p211 := eq_true p211
              replace q211 := eq_true q211
              go_wp2
              go_roundg k1
              case measure => have := HK1.out; omega
              case rel => exact ⟨(wrap64 (x8_1 + 1)), (by first | rfl | (simp; done) | (simp [*]; done)), H', ⟨by have := HK1.out; omega⟩, by repeat (first | exact Drawn0.refl _ | apply Drawn0.step)⟩
          · rw [if_neg c5] at H
            exact absurd H (by simp)
        · rw [if_neg c4] at H
          exact absurd H (by simp)
      · rw [if_neg c3] at H
        have c3b0 : decide (x8_1 < (l0.length : Int)) = false := decide_eq_false c3
        clear c3
        obtain rfl := Option.some.inj H
        go_wp2
        go_ret
        exact ⟨by first | rfl | (simp; done) | (simp [*]; done), by repeat (first | exact Drawn0.refl _ | apply Drawn0.step)⟩

/-! ### slices_Contains_int_int: function 15 -/
def slices_Contains_int_int.f (k : Nat) (l0 : List Int) (a1 : Int) : Option (Bool) := (slices_Index_int_int.f k l0 a1).bind fun t212 => (some (decide (t212 ≥ 0)))
theorem slices_Contains_int_int.mono : ∀ a0 a1 k, LeO (slices_Contains_int_int.f k a0 a1) (slices_Contains_int_int.f (k + 1) a0 a1) := by
  intro a0 a1 k
  unfold slices_Contains_int_int.f
  repeat' first
      | (with_reducible exact slices_Index_int_int.mono _ _ _)
      | (with_reducible exact LeO.refl _)
      | (with_reducible exact LeO.none _)
      | (with_reducible refine LeO.ite ?_ ?_)
      | (with_reducible refine LeO.bind ?_ (fun _ => ?_))
      | exact slices_Index_int_int.mono _ _ _
      | exact LeO.none _
      | refine LeO.ite ?_ ?_
      | refine LeO.bind ?_ (fun _ => ?_)
set_option maxHeartbeats 8000000 in
set_option maxRecDepth 100000 in
theorem slices_Contains_int_int.calls (k : Nat) (A0 : Option Addr) (c0 : Nat) (l0 : List Int) (a1 : Int) (r : Bool) (w : World) (hr0 : Kd.C (Kd.int .i64) w A0 l0.length l0) (hc0 : l0.length ≤ c0) (h : slices_Contains_int_int.f k l0 a1 = some r) :
    Calls Try.prog 15 #[.slice A0 l0.length c0, .int .i64 a1] w fun e w' => e = .returned (.bool r) ∧ Drawn0 w w' := by
  have HR0 := Aside0.mk hr0
  have HC0 := Aside0.mk hc0
  clear hr0 hc0
  have H : ((slices_Index_int_int.f k l0 a1).bind fun t212 => (some (decide (t212 ≥ 0)))) = some r := h
  clear h
  replace H := Option.bind_eq_some_iff.mp H
  obtain ⟨t212, A30, H⟩ := H
  replace H : (some (decide (t212 ≥ 0))) = some r := H
  have A3 := Aside0.mk A30
  clear A30
  obtain rfl := Option.some.inj H
  go_enter Try.func15, Try.ntmps15
  go_wp2_with (first | ((with_reducible refine gate_callee (f := 24) rfl ?_); refine goesL_ (some 7) rfl rfl Try.func24 (by kernel_rfl) rfl #[.slice A0 l0.length c0, .int .i64 a1] rfl (by (try simp only [List.map_toArray, List.map_cons, List.map_nil]); first | done | rfl | (simp only [List.length_drop, List.length_take]; rfl)) ?_; (with_reducible refine (slices_Index_int_int.calls k _ _ l0 a1 t212 _ ?side1 ?side2 A3.out).mono ?_); (case side1 => repeat (first | exact HR0.out | (with_reducible refine Kd.C_alloc ?_ _) | (with_reducible refine Kd.C_drewN ?_ _) | (with_reducible refine Kd.C_drew ?_))); (case side2 => exact HC0.out); rintro e w' ⟨rfl, ⟨nd, rfl⟩⟩; refine ⟨_, rfl, ?_⟩))
  go_ret
  exact ⟨by first | rfl | (simp; done) | (simp [*]; done), by repeat (first | exact Drawn0.refl _ | apply Drawn0.step)⟩

/-! ### slices_ContainsFunc_int_int: function 11 -/
theorem slices_ContainsFunc_int_int.index_ex (w : List Int) (i : Int) (hl : w.length ≤ 60) : ∀ n j : Nat, j ≤ w.length → w.length - j = n → (w.take j).all (fun y => !decide (i = y)) = true → ∃ k q, slices_Index_int_int.l0 k w i (w.length : Int) (j : Int) = some q ∧ decide (q ≥ 0) = decide (i ∈ w)
  | 0, j, hj, hn, ha => ⟨1, -1, by unfold slices_Index_int_int.l0; rw [if_neg (by omega)], by
      have e : w.take j = w := List.take_of_length_le (by omega)
      rw [e] at ha
      have : ¬ i ∈ w := fun h => by simpa using List.all_eq_true.1 ha i h
      simp [this]⟩
  | n + 1, j, hj, hn, ha => by
    have hlt : j < w.length := by omega
    have hr : rd w (j : Int) = w[j] := by unfold rd; rw [Int.toNat_natCast, List.getD_eq_getElem?_getD, List.getElem?_eq_getElem hlt]; rfl
    by_cases c : i = w[j]
    · refine ⟨1, j, ?_, ?_⟩
      · unfold slices_Index_int_int.l0
        rw [if_pos (by omega), if_pos (by omega), if_pos (by omega), hr, if_pos c]
      · rw [decide_eq_true (by omega), decide_eq_true (by rw [c]; exact List.getElem_mem hlt)]
    · obtain ⟨k, q, h1, h2⟩ := slices_ContainsFunc_int_int.index_ex w i hl n (j + 1) (by omega) (by omega) (by rw [List.take_add_one, List.getElem?_eq_getElem hlt, List.all_append, ha]; simp [c])
      refine ⟨k + 1, q, ?_, h2⟩
      unfold slices_Index_int_int.l0
      have e : wrap64 ((j : Int) + 1) = ((j + 1 : Nat) : Int) := by unfold wrap64; omega
      rw [if_pos (by omega), if_pos (by omega), if_pos (by omega), hr, if_neg c, e]
      exact h1
theorem slices_ContainsFunc_int_int.cont_ex (w : List Int) (i : Int) (hl : w.length ≤ 60) : ∃ k, slices_Contains_int_int.f k w i = some (decide (i ∈ w)) := by
  obtain ⟨k, q, h1, h2⟩ := slices_ContainsFunc_int_int.index_ex w i hl w.length 0 (by omega) (by omega) (by simp)
  refine ⟨k, ?_⟩
  unfold slices_Contains_int_int.f slices_Index_int_int.f
  rw [show ((0 : Nat) : Int) = 0 from rfl] at h1
  rw [h1, Option.bind_some, h2]
set_option maxHeartbeats 8000000 in
set_option maxRecDepth 100000 in
/-- the inner closure: whether a number is not among those of a slice that it has taken in -/
theorem slices_ContainsFunc_int_int.cl2 (x : Int) (g : Nat) (A1 : Option Addr) (c1 : Nat) (l1 : List Int) (w : World) (hx : w.cell? ⟨g, 0, none⟩ = some (.slice A1 l1.length c1)) (hr1 : Kd.C (Kd.int .i64) w A1 l1.length l1) (hc1 : l1.length ≤ c1) (hl : l1.length ≤ 60) :
    Calls Try.prog 14 #[.int .i64 x, .pointer (some ⟨g, 0, none⟩)] w fun e w' => e = .returned (.bool (!decide (x ∈ l1))) ∧ Below w.heap.size w w' := by
  obtain ⟨k, hk⟩ := slices_ContainsFunc_int_int.cont_ex l1 x hl
  have HR := Aside0.mk hr1
  have HC := Aside0.mk hc1
  have HK := Aside0.mk hk
  clear hr1 hc1 hl hk
  go_enter Try.func14, Try.ntmps14
  go_wp2_with (go_at_call 15; refine (slices_Contains_int_int.calls k A1 c1 l1 x _ w HR.out HC.out HK.out).mono ?_; rintro e w' ⟨rfl, hd⟩)
  go_ret
  exact ⟨rfl, by first | exact hd | (obtain ⟨nd, rfl⟩ := hd; exact pw_below_drewN (Below.refl _ _) nd)⟩
set_option maxHeartbeats 8000000 in
set_option maxRecDepth 100000 in
theorem slices_ContainsFunc_int_int.idxI (A0 : Option Addr) (c0 : Nat) (l0 : List Int) (p : Int → Bool) (g : Nat) (w : World) (hr0 : Kd.C (Kd.int .i64) w A0 l0.length l0)
    (hcl : ∀ wr, Below w.heap.size w wr → ∀ x ∈ l0, Calls Try.prog 14 #[.int .i64 x, .pointer (some ⟨g, 0, none⟩)] wr fun e w' => e = .returned (.bool (p x)) ∧ Below wr.heap.size wr w') :
    Calls Try.prog 23 #[.slice A0 l0.length c0, .func (.func 14) #[] #[.pointer (some ⟨g, 0, none⟩)]] w fun e w' => ∃ q : Int, e = .returned (.int .i64 q) ∧ decide (q ≥ 0) = l0.any p ∧ Below w.heap.size w w' := by
  have hbig : l0.length ≤ 9223372036854775807 := hr0.2.1
  have eg : ∀ args w, (callFunc 14 args).run Try.prog w = .ok (.enter 14 args) w := Go.Proofs.enters_of Try.func14 (by kernel_rfl) rfl
  have hHR := Aside0.mk hr0
  have HCL := Aside0.mk hcl
  clear hr0 hcl
  go_enter Try.func23, Try.ntmps23
  go_wp2
  go_loopg [5, 8] l0.length (fun gg _ s8 wr => ∃ kk : Nat, kk ≤ l0.length ∧ l0.length - kk ≤ gg ∧ s8 = .int .i64 kk ∧ Aside (Below w.heap.size w wr) ∧ Aside ((l0.take kk).any p = false))
  case atStart => exact ⟨0, Nat.zero_le _, by omega, rfl, Below.refl _ w, rfl⟩
  case round =>
    obtain ⟨kk, hkk, hg, rfl, BW, A⟩ := hrel
    by_cases hlt : kk < l0.length
    · have hltz : (kk : Int) < (l0.length : Int) := by omega
      have h0 : (0 : Int) ≤ (kk : Int) := by omega
      obtain ⟨ad, e0, hx0⟩ := Kd.at_int hHR.out (kk : Int) h0 hltz
      cases e0
      replace hx0 := (BW.out.cell (World.block_lt_of_cell? w _ hx0)).trans hx0
      have hrd : rd l0 (kk : Int) = l0[kk] := by unfold rd; rw [Int.toNat_natCast, List.getD_eq_getElem?_getD, List.getElem?_eq_getElem hlt]; rfl
      have hstep : (l0.take (kk + 1)).any p = p l0[kk] := by
        rw [List.take_add_one, List.getElem?_eq_getElem hlt, List.any_append, A.out]; simp
      rw [← hrd] at hstep
      have hall : p (rd l0 (kk : Int)) = true → l0.any p = true := fun h => by
        rw [hrd] at h
        exact List.any_eq_true.2 ⟨_, List.getElem_mem hlt, h⟩
      have hcall := HCL.out wr BW.out (rd l0 (kk : Int)) (by rw [hrd]; exact List.getElem_mem hlt)
      clear hrd
      generalize rd l0 (kk : Int) = s at *
      have HS := Aside0.mk hstep
      have HA := Aside0.mk hall
      clear hstep hall
      obtain ⟨b, hb⟩ : ∃ b, p s = b := ⟨_, rfl⟩
      rw [hb] at hcall
      have HBb := Aside0.mk hb
      clear hb
      rw [show ((kk : Int)).toNat = kk from Int.toNat_natCast kk] at hx0
      cases b with
      | true =>
        go_wp2_with (go_at_fn 14; refine hcall.mono ?_; rintro e w' ⟨rfl, hb'⟩)
        go_ret
        exact ⟨_, rfl, by rw [HA.out HBb.out]; exact decide_eq_true (by omega), below_step BW.out hb'⟩
      | false =>
        go_wp2_with (go_at_fn 14; refine hcall.mono ?_; rintro e w' ⟨rfl, hb'⟩)
        go_roundg (l0.length - (kk + 1))
        case measure => omega
        case rel => exact ⟨kk + 1, by omega, by omega, by go_num, below_step BW.out hb', show Aside (_ = false) from HS.out.trans HBb.out⟩
    · have hltz : ¬ (kk : Int) < (l0.length : Int) := by omega
      have hk : kk = l0.length := by omega
      have HA : Aside (l0.any p = false) := by have h := A.out; rw [hk, List.take_length] at h; exact h
      go_wp2
      go_ret
      exact ⟨_, rfl, by rw [HA.out]; decide, BW.out⟩
set_option maxHeartbeats 8000000 in
set_option maxRecDepth 100000 in
theorem slices_ContainsFunc_int_int.cfI (A0 : Option Addr) (c0 : Nat) (l0 : List Int) (p : Int → Bool) (g : Nat) (w : World) (hr0 : Kd.C (Kd.int .i64) w A0 l0.length l0)
    (hcl : ∀ wr, Below w.heap.size w wr → ∀ x ∈ l0, Calls Try.prog 14 #[.int .i64 x, .pointer (some ⟨g, 0, none⟩)] wr fun e w' => e = .returned (.bool (p x)) ∧ Below wr.heap.size wr w') :
    Calls Try.prog 13 #[.slice A0 l0.length c0, .func (.func 14) #[] #[.pointer (some ⟨g, 0, none⟩)]] w fun e w' => e = .returned (.bool (l0.any p)) ∧ Below w.heap.size w w' := by
  have hcall := slices_ContainsFunc_int_int.idxI A0 c0 l0 p g w hr0 hcl
  clear hr0 hcl
  go_enter Try.func13, Try.ntmps13
  go_wp2_with (go_at_call 23; refine hcall.mono ?_; rintro e w' ⟨q, rfl, hq, hb'⟩)
  go_ret
  exact ⟨by rw [← hq]; rfl, hb'⟩
set_option maxHeartbeats 8000000 in
set_option maxRecDepth 100000 in
/-- the outer closure: whether all numbers of a slice that it has taken in are among those of another one -/
theorem slices_ContainsFunc_int_int.cl1 (A0 : Option Addr) (c0 : Nat) (l0 : List Int) (g : Nat) (A1 : Option Addr) (c1 : Nat) (l1 : List Int) (w : World) (hr0 : Kd.C (Kd.int .i64) w A0 l0.length l0) (hc0 : l0.length ≤ c0) (hl0 : l0.length ≤ 60) (hx : w.cell? ⟨g, 0, none⟩ = some (.slice A1 l1.length c1)) (hr1 : Kd.C (Kd.int .i64) w A1 l1.length l1) :
    Calls Try.prog 12 #[.slice A0 l0.length c0, .pointer (some ⟨g, 0, none⟩)] w fun e w' => e = .returned (.bool (l1.all fun i => decide (i ∈ l0))) ∧ Below w.heap.size w w' := by
  have HR0 := Aside0.mk hr0
  have HC0 := Aside0.mk hc0
  have HR1 := Aside0.mk hr1
  have HL0 := Aside0.mk hl0
  have hnot : (!(l1.any fun i => !decide (i ∈ l0))) = l1.all fun i => decide (i ∈ l0) := by rw [List.all_eq_not_any_not]
  have HN := Aside0.mk hnot
  clear hr0 hc0 hr1 hl0 hnot
  go_enter Try.func12, Try.ntmps12
  go_upto_region 1 with (first | ((with_reducible refine gate_dst (N := 2) rfl ?_); refine box_event ?hg (N := 2) ?hd (cs := #[.slice A0 l0.length c0]) (t := 24) ?hr ?_; (case hd => rfl); (case hg => rfl); (case hr => first | (go_simp; done) | (go_simp; rfl)); intro gb hg w2 hbox hb; have BK := Aside0.mk hbox; have HB := Aside0.mk hb; clear hb hbox hg))
  have x0 : w2.cell? ⟨gb, 0, none⟩ = some (.slice A0 l0.length c0) := (blk_cell BK.out 0).trans rfl
  have x1 : w2.cell? ⟨g, 0, none⟩ = some (.slice A1 l1.length c1) := (HB.out.cell (World.block_lt_of_cell? w _ hx)).trans hx
  have hcall := slices_ContainsFunc_int_int.cfI A1 c1 l1 (fun i => !decide (i ∈ l0)) gb w2 (Kd.C_below HR1.out HB.out) (fun wr hb x _ => slices_ContainsFunc_int_int.cl2 x gb A0 c0 l0 wr ((hb.cell (World.block_lt_of_cell? w2 _ x0)).trans x0) (Kd.C_below (Kd.C_below HR0.out HB.out) hb) HC0.out HL0.out)
  clear hx x0
  go_wp2_with (go_at_call 13; refine hcall.mono ?_; rintro e w' ⟨rfl, hb'⟩)
  go_ret
  exact ⟨by rw [← HN.out]; rfl, below_step HB.out hb'⟩
set_option maxHeartbeats 8000000 in
set_option maxRecDepth 100000 in
theorem slices_ContainsFunc_int_int.idxW (A0 : Option Addr) (c0 : Nat) (l0 : List (List Int)) (p : List Int → Bool) (g : Nat) (w : World) (hr0 : Kd.C (Kd.slice 3 (Kd.int .i64)) w A0 l0.length l0)
    (hcl : ∀ wr, Below w.heap.size w wr → ∀ x ∈ l0, ∀ A c, Kd.C (Kd.int .i64) w A x.length x → x.length ≤ c → Calls Try.prog 12 #[.slice A x.length c, .pointer (some ⟨g, 0, none⟩)] wr fun e w' => e = .returned (.bool (p x)) ∧ Below wr.heap.size wr w') :
    Calls Try.prog 22 #[.slice A0 l0.length c0, .func (.func 12) #[] #[.pointer (some ⟨g, 0, none⟩)]] w fun e w' => ∃ q : Int, e = .returned (.int .i64 q) ∧ decide (q ≥ 0) = l0.any p ∧ Below w.heap.size w w' := by
  have hbig : l0.length ≤ 9223372036854775807 := hr0.2.1
  have eg : ∀ args w, (callFunc 12 args).run Try.prog w = .ok (.enter 12 args) w := Go.Proofs.enters_of Try.func12 (by kernel_rfl) rfl
  have hHR := Aside0.mk hr0
  have HCL := Aside0.mk hcl
  clear hr0 hcl
  go_enter Try.func22, Try.ntmps22
  go_wp2
  go_loopg [5, 8] l0.length (fun gg _ s8 wr => ∃ kk : Nat, kk ≤ l0.length ∧ l0.length - kk ≤ gg ∧ s8 = .int .i64 kk ∧ Aside (Below w.heap.size w wr) ∧ Aside ((l0.take kk).any p = false))
  case atStart => exact ⟨0, Nat.zero_le _, by omega, rfl, Below.refl _ w, rfl⟩
  case round =>
    obtain ⟨kk, hkk, hg, rfl, BW, A⟩ := hrel
    by_cases hlt : kk < l0.length
    · have hltz : (kk : Int) < (l0.length : Int) := by omega
      have h0 : (0 : Int) ≤ (kk : Int) := by omega
      obtain ⟨ad, cs, e0, hcl1, ⟨A2, c2, rfl, hl2, hC2⟩, hcell⟩ := ReadsRow.get_ hHR.out [] (kk : Int) h0 hltz
      cases e0
      have hx0 := hcell 0 _ rfl
      rw [show ((kk : Int)).toNat = kk from Int.toNat_natCast kk, Nat.add_zero, show (Kd.slice 3 (Kd.int .i64)).sz = 1 from rfl, Nat.mul_one] at hx0
      have hrd : l0.getD kk [] = l0[kk] := by rw [List.getD_eq_getElem?_getD, List.getElem?_eq_getElem hlt]; rfl
      rw [show ((kk : Int)).toNat = kk from Int.toNat_natCast kk, hrd] at hl2 hC2
      rw [hrd] at hx0
      clear hcell hcl1 hrd
      replace hx0 := (BW.out.cell (World.block_lt_of_cell? w _ hx0)).trans hx0
      have hstep : (l0.take (kk + 1)).any p = p l0[kk] := by
        rw [List.take_add_one, List.getElem?_eq_getElem hlt, List.any_append, A.out]; simp
      have hall : p l0[kk] = true → l0.any p = true := fun h => List.any_eq_true.2 ⟨_, List.getElem_mem hlt, h⟩
      have hcall := HCL.out wr BW.out l0[kk] (List.getElem_mem hlt) A2 c2 hC2 hl2
      clear hl2 hC2
      generalize l0[kk] = s at *
      have HS := Aside0.mk hstep
      have HA := Aside0.mk hall
      clear hstep hall
      obtain ⟨b, hb⟩ : ∃ b, p s = b := ⟨_, rfl⟩
      rw [hb] at hcall
      have HBb := Aside0.mk hb
      clear hb
      cases b with
      | true =>
        go_wp2_with (go_at_fn 12; refine hcall.mono ?_; rintro e w' ⟨rfl, hb'⟩)
        go_ret
        exact ⟨_, rfl, by rw [HA.out HBb.out]; exact decide_eq_true (by omega), below_step BW.out hb'⟩
      | false =>
        go_wp2_with (go_at_fn 12; refine hcall.mono ?_; rintro e w' ⟨rfl, hb'⟩)
        go_roundg (l0.length - (kk + 1))
        case measure => omega
        case rel => exact ⟨kk + 1, by omega, by omega, by go_num, below_step BW.out hb', show Aside (_ = false) from HS.out.trans HBb.out⟩
    · have hltz : ¬ (kk : Int) < (l0.length : Int) := by omega
      have hk : kk = l0.length := by omega
      have HA : Aside (l0.any p = false) := by have h := A.out; rw [hk, List.take_length] at h; exact h
      go_wp2
      go_ret
      exact ⟨_, rfl, by rw [HA.out]; decide, BW.out⟩
def slices_ContainsFunc_int_int.f (l0 : List (List Int)) (l1 : List Int) : Option Bool := if l0.all (fun x => decide (x.length ≤ 60)) = true then (some (l0.any fun x => l1.all fun i => decide (i ∈ x))) else none
set_option maxHeartbeats 8000000 in
set_option maxRecDepth 100000 in
/-- slices.ContainsFunc at slices of ints, by the law's closure: whether one of l0 has all of l1 -/
theorem slices_ContainsFunc_int_int.calls (A0 : Option Addr) (c0 : Nat) (l0 : List (List Int)) (g : Nat) (A1 : Option Addr) (c1 : Nat) (l1 : List Int) (r : Bool) (w : World) (hr0 : Kd.C (Kd.slice 3 (Kd.int .i64)) w A0 l0.length l0) (hx : w.cell? ⟨g, 0, none⟩ = some (.slice A1 l1.length c1)) (hr1 : Kd.C (Kd.int .i64) w A1 l1.length l1) (h : slices_ContainsFunc_int_int.f l0 l1 = some r) :
    Calls Try.prog 11 #[.slice A0 l0.length c0, .func (.func 12) #[] #[.pointer (some ⟨g, 0, none⟩)]] w fun e w' => e = .returned (.bool r) ∧ Below w.heap.size w w' := by
  unfold slices_ContainsFunc_int_int.f at h
  split at h
  case isFalse => exact absurd h (by simp)
  case isTrue hok =>
    obtain rfl := Option.some.inj h
    have hcall := slices_ContainsFunc_int_int.idxW A0 c0 l0 (fun x => l1.all fun i => decide (i ∈ x)) g w hr0 (fun wr hb x hm A c hC hc => slices_ContainsFunc_int_int.cl1 A c x g A1 c1 l1 wr (Kd.C_below hC hb) hc (by simpa using List.all_eq_true.1 hok x hm) ((hb.cell (World.block_lt_of_cell? w _ hx)).trans hx) (Kd.C_below hr1 hb))
    clear hr0 hx hr1 hok h
    go_enter Try.func11, Try.ntmps11
    go_wp2_with (go_at_call 22; refine hcall.mono ?_; rintro e w' ⟨q, rfl, hq, hb'⟩)
    go_ret
    exact ⟨by rw [← hq]; rfl, hb'⟩

end Go.Proofs.Ytcgflahchpeakaa.PNearMerges
