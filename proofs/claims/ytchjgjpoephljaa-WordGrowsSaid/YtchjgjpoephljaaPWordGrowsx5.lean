-- written by prn.py, a program of this session, over the kit's printer
import Derived.Test.YtchjgjpoephljaaPWordGrowsx0
import Derived.Test.YtchjgjpoephljaaPWordGrowsx1
import Derived.Test.YtchjgjpoephljaaPWordGrowsx2
import Derived.Test.YtchjgjpoephljaaPWordGrowsx3
import Derived.Test.YtchjgjpoephljaaPWordGrowsx4
namespace Go.Proofs.Ytchjgjpoephljaa.PWordGrows
open Go.RowKit Go.Proofs.YtchjgjpoephljaaW.PrintWords Go.Proofs.YtchjgjpoephljaaW.PrintLast Go.Proofs.YtchjgjpoephljaaW.PrintMore Go.Proofs.YtchjgjpoephljaaW.PrintMine
attribute [local go_sem] max2_int min2_int max_two min_two max_three min_three max_four min_four   -- for this text's walks alone
set_option linter.unusedVariables false
set_option linter.unusedSimpArgs false

attribute [local go_sem high] eqA39
/-! ### word_Index_Known: function 21 -/
def baOf (x : List UInt8) : ByteArray := ⟨x.toArray⟩
theorem baOf_inj {x y : List UInt8} (h : baOf x = baOf y) : x = y := by
  unfold baOf at h
  injection h with h
  have := congrArg Array.toList h
  simpa using this
/-- The index' keys: some list of all words that have a place, none of them twice. -/
def KeysOf' (P : ByteArray → List S39) (ks : List ByteArray) : Prop := ks.Nodup ∧ ∀ s, s ∈ ks ↔ (s.size ≤ maxLen ∧ P s ≠ [])
set_option maxHeartbeats 4000000 in
set_option maxRecDepth 100000 in
theorem word_Index_Known.calls (m0 gx : Nat) (P : ByteArray → List S39) (Z : List Int) (N : Nat) (w : World) (hI : IsIdx m0 w gx P Z N) (hN : N ≤ 100000000) :
    Calls Try.prog 21 #[.pointer (some ⟨gx, 0, none⟩)] w fun e w' => ∃ (v0_ : Value) (ks : List ByteArray), e = .returned (v0_) ∧ KeysOf' P ks ∧ Kd.R Kd.string 9 w' w.heap.size (fun _ => True) v0_ (sortStr ks) ∧ Below w.heap.size w w' := by
  obtain ⟨b, hdr, AZ, cZ, h1, h2, h3, h4, h5, h6⟩ := hI
  have x0 : w.cell? ⟨gx, 0, none⟩ = some (.map (some b)) := (blk_cell h1 0).trans rfl
  obtain ⟨Dt, hown, hIM, hat0⟩ := h4
  have HOWN := Aside0.mk hown
  have HAT := Aside0.mk hat0
  have H6 := Aside0.mk h6
  have HN := Aside0.mk hN
  have hblt : b < w.heap.size := hown.lt
  have HBL := Aside0.mk hblt
  clear h1 h2 h3 h5 h6 hat0 hN hblt hIM
  go_enter Try.func21, Try.ntmps21
  go_wp2_with (first | (at_range; refine wpList_range_own _ rfl _ 55 rfl 9 33 (Go.Maps.string_keyed Try.underlying9) Try.underlying55 _ b N _ rfl hown ?_; intro w0 hrg0 hg0 hs0) | go_in)
  go_frame
  have HB0 : Aside0 (Below w.heap.size w w0) := ⟨(Below.refl _ _).grown hg0 (Nat.le_refl _) (fun k hk => by cases hk)⟩
  clear hg0
  go_loopg [3] (Go.Maps.size Dt) (fun gg v3 wr => ∃ (left : Lit → Bool) (cnt : Nat) (ss : List (List UInt8)) (A : Option Addr) (c nn : Nat), v3 = .slice A nn c ∧ wr.ranges Try.prog 9 hdrOf b w.heap.size N Dt left cnt ∧ Aside0 (cnt ≤ gg) ∧ Aside0 (ss.length + cnt ≤ N) ∧ Aside0 (Collected Dt left ss) ∧ Aside0 (Kd.R Kd.string 9 wr w.heap.size (fun k => k ≠ w.heap.size) (.slice A nn c) (ss.map baOf)) ∧ Aside0 (Below w.heap.size w wr))
  case atStart => exact ⟨_, _, [], none, 0, 0, rfl, hrg0, ⟨Nat.le_refl _⟩, ⟨by have := hown.size_le; simp; omega⟩, ⟨Collected.start Dt⟩, ⟨Kd.R_nil _ _ _ _ _⟩, HB0⟩
  case round =>
    obtain ⟨left, cnt, ss, A, c, nn, rfl, hrg, HC1, HC2, HC3, HR1, HB1⟩ := hrel
    go_wp2_with (first | (at_next; refine wpList_next_ranges _ rfl _ rfl 9 (Go.Maps.string_keyed Try.underlying9) hdrOf Go.Proofs.encStr hdrV (fun key kl h => by obtain ⟨x, hx, _⟩ := Maps.keyOf_str Try.underlying9 h; exact ⟨x, hx⟩) (fun v y h => by obtain ⟨x, hx, _⟩ := hdr_inv h; exact ⟨x, hx⟩) b w.heap.size N _ _ _ rfl hrg ?_ ?_) | go_in)
    · intro hc0 hl0
      have hkeys : KeysOf' P (ss.map baOf) := by
        refine ⟨List.pairwise_map.2 (HC3.out.1.imp (fun hne e => hne (baOf_inj e))), fun s => ?_⟩
        have hperm := HC3.out.perm HOWN.out (Go.Maps.string_keyed Try.underlying9) Try.underlying9 hl0
        have hmem : s ∈ ss.map baOf ↔ s.data.toList ∈ ss := by
          rw [List.mem_map]
          exact ⟨fun ⟨x, hx, e⟩ => by rw [← e]; simpa [baOf] using hx, fun h => ⟨_, h, by simp [baOf]⟩⟩
        rw [hmem, HC3.out.2]
        constructor
        · rintro ⟨h1, -⟩
          have hin : s.data.toList ∈ ss := (HC3.out.2 _).2 ⟨h1, hl0 _⟩
          have hsz : s.size ≤ maxLen := by
            have h := strKeys_le HOWN.out Try.underlying9 _ (hperm.mem_iff.1 hin)
            rw [Array.length_toList] at h
            exact h
          refine ⟨hsz, fun e => ?_⟩
          have hn := (H6.out s hsz).2.2 e
          have hf := Go.Maps.has_false_of_atKey (D := Dt) (k := .string s.data.toList) (fun z => by rw [HAT.out s z hsz, hn])
          rw [hf] at h1
          exact absurd h1 (by decide)
        · rintro ⟨hsz, hne⟩
          refine ⟨?_, hl0 _⟩
          have hn : hdr s ≠ none := fun e => hne ((H6.out s hsz).2.1 e)
          cases hd : hdr s with
          | none => exact absurd hd hn
          | some y => exact Go.Maps.has_true_of_atKey (y := hdrD (some y)) (fun z => by rw [HAT.out s z hsz, hd])
      have HKY := Aside0.mk hkeys
      have HNL : Aside0 (slices_Sort_string_string.f (ss.map baOf) = some (sortStr (ss.map baOf))) := ⟨by unfold slices_Sort_string_string.f; rw [if_pos (by have := HC2.out; have := HN.out; rw [List.length_map]; omega)]⟩
      clear hkeys hrg HC1 HC2 HC3 hc0 hl0
      generalize ss.map baOf = ks at *
      go_wp2_with (go_at_call 35; refine (slices_Sort_string_string.calls (fun k => k ≠ w.heap.size) (.slice A nn c) ks (sortStr ks) w wr HB1.out HR1.out HNL.out).mono ?_; rintro e w2 ⟨rfl, ho, hb, -⟩; have HO := Aside0.mk ho; have HB := Aside0.mk hb; clear ho hb)
      go_ret
      exact ⟨_, ks, rfl, HKY.out, Kd.R_mono HO.out (fun _ _ => trivial), HB.out⟩
    · intro x c2 kl y yp w1 cnt1 hkey hlk hv hat hrg1 hlt hg1 hs1 hen
      obtain ⟨x', ex, rfl, hsz⟩ := Maps.keyOf_str Try.underlying9 hkey
      obtain rfl : x = x' := encStr_inj ex
      have HC4 := Aside0.mk (HC3.out.step hlk hat)
      have HR2 := Aside0.mk (Kd.R_grown HR1.out hg1 (fun k hk e => hk (by injection e)))
      have HB2 : Aside0 (Below w.heap.size w w1) := ⟨HB1.out.grown hg1 HB1.out.size (fun k hk => by injection hk with hk; omega)⟩
      have HFR : Aside0 (∀ k, w1.heap.size ≤ k → k ≠ w.heap.size) := ⟨fun k hk e => by have := hrg1.lt; omega⟩
      have HRG := Aside0.mk hrg1
      have HM1 := Aside0.mk hlt
      have HLL : Aside0 (((ss.map baOf).length + 1) * 16 ≤ 140737488355328) := ⟨by have := HC2.out; have := HN.out; rw [List.length_map]; omega⟩
      have HEQ : Aside0 (ss.map baOf ++ [baOf x] = (ss ++ [x]).map baOf) := ⟨by rw [List.map_append]; rfl⟩
      have hen2 : (Instr.entry (.pointer (some ⟨w.heap.size, 0, none⟩))).run Try.prog w1 = .ok (.tuple #[.string (baOf x), hdrV c2]) w1 := hen
      rw [show Go.Proofs.encStr x = .string (baOf x) from rfl]
      clear hkey hlk hv hat hrg1 hlt hg1 hs1 hen ex hsz hrg
      go_wp2_with (first | ((with_reducible refine gate_builtin (b := .append) (xs := #[.tmp 14, .tmp 16]) rfl ?_); at_builtin; refine Kd.R_append Kd.string (w0 := w) (W := w1) w.heap.size rfl (.tmp 14) (.tmp 16) 31 9 (.string ⟨#[]⟩) 16 rfl Try.underlying31 info9 rfl (by decide) (by omega) (.slice A nn c) (ss.map baOf) (baOf x) [.string (baOf x)] (fun k => k ≠ w.heap.size) (fun _ => False) rfl rfl rfl (fun _ hk => hk.elim) (fun k hk => HFR.out k hk) HR2.out HB2.out HB2.out.size HLL.out ?_; intro v1 wa ho hb hg hat; rw [HEQ.out] at ho; obtain ⟨A3, c3, e3⟩ := Kd.R_slice ho; subst e3; generalize ((ss ++ [x]).map baOf).length = n3 at ho ⊢; have HO3 := Aside0.mk ho; have HB3 := Aside0.mk hb; have hrg3 := HRG.out.kept hg (fun e => by have h := (Kd.R_bound HR2.out).1 _ e.symm; have := HBL.out; have := h.2.1; omega) (fun e => (Kd.R_bound HR2.out).1 _ e.symm |>.1 rfl); clear ho hb hg hat))
      go_roundg cnt1
      case measure => have := HC1.out; have := HM1.out; omega
      case rel => exact ⟨_, cnt1, ss ++ [x], A3, c3, n3, rfl, hrg3, ⟨Nat.le_refl _⟩, ⟨by have := HC2.out; have := HM1.out; rw [List.length_append]; simp only [List.length_singleton]; omega⟩, HC4, HO3, HB3⟩

/-! ### word_Place_22: function 22 -/
def word_Place_22.l0 : Nat → List (S39) → List (S39) → Int → Int → Option (Bool)
  | 0, _, _, _, _ => none
  | k + 1, x0, x1, x12, x13 => if x13 < x12 then (if 0 ≤ x13 then (if x13 < (x0.length : Int) then (if x13 < (x1.length : Int) then (if (!(((rd_T39 x0 x13).f0) == ((rd_T39 x1 x13).f0)) || (!(((rd_T39 x0 x13).f1) == ((rd_T39 x1 x13).f1)))) = true then (some false) else (word_Place_22.l0 k x0 x1 x12 (wrap64 (x13 + 1)))) else (none)) else (none)) else (none)) else (some true)
def word_Place_22.f (k : Nat) (l0 : List (S39)) (l1 : List (S39)) : Option (Bool) := if (l0.length : Int) = (l1.length : Int) then (word_Place_22.l0 k l0 l1 (l0.length : Int) 0) else (some false)
theorem word_Place_22.mono_l : ∀ k, (∀ y0 y1 y2 y3, LeO (word_Place_22.l0 k y0 y1 y2 y3) (word_Place_22.l0 (k + 1) y0 y1 y2 y3))
  | 0 => fun _ _ _ _ r h => by simp [word_Place_22.l0] at h
  | k + 1 => by
    have ih0 := word_Place_22.mono_l k
    · intro y0 y1 y2 y3
      unfold word_Place_22.l0
      repeat' first
      | (with_reducible exact ih0 _ _ _ _)
      | (with_reducible exact LeO.refl _)
      | (with_reducible exact LeO.none _)
      | (with_reducible refine LeO.ite ?_ ?_)
      | (with_reducible refine LeO.bind ?_ (fun _ => ?_))
      | exact ih0 _ _ _ _
      | exact LeO.none _
      | refine LeO.ite ?_ ?_
      | refine LeO.bind ?_ (fun _ => ?_)
theorem word_Place_22.mono : ∀ a0 a1 k, LeO (word_Place_22.f k a0 a1) (word_Place_22.f (k + 1) a0 a1) := by
  intro a0 a1 k
  have ih0 := word_Place_22.mono_l k
  unfold word_Place_22.f
  repeat' first
      | (with_reducible exact ih0 _ _ _ _)
      | (with_reducible exact LeO.refl _)
      | (with_reducible exact LeO.none _)
      | (with_reducible refine LeO.ite ?_ ?_)
      | (with_reducible refine LeO.bind ?_ (fun _ => ?_))
      | exact ih0 _ _ _ _
      | exact LeO.none _
      | refine LeO.ite ?_ ?_
      | refine LeO.bind ?_ (fun _ => ?_)
set_option maxHeartbeats 8000000 in
set_option maxRecDepth 100000 in
theorem word_Place_22.calls (k : Nat) (A0 : Option Addr) (c0 : Nat) (l0 : List (S39)) (A1 : Option Addr) (c1 : Nat) (l1 : List (S39)) (r : Bool) (w : World) (hr0 : Kd.C k39 w A0 l0.length l0) (hc0 : l0.length ≤ c0) (hr1 : Kd.C k39 w A1 l1.length l1) (hc1 : l1.length ≤ c1) (h : word_Place_22.f k l0 l1 = some r) :
    Calls Try.prog 22 #[.slice A0 l0.length c0, .slice A1 l1.length c1] w fun e w' => e = .returned (.bool r) ∧ Drawn0 w w' := by
  have hu39 := Try.underlying39
  have HR0 := Aside0.mk hr0
  have HC0 := Aside0.mk hc0
  clear hr0 hc0
  have HR1 := Aside0.mk hr1
  have HC1 := Aside0.mk hc1
  clear hr1 hc1
  have H : (if (l0.length : Int) = (l1.length : Int) then (word_Place_22.l0 k l0 l1 (l0.length : Int) 0) else (some false)) = some r := h
  clear h
  by_cases c3 : (l0.length : Int) = (l1.length : Int)
  · rw [if_pos c3] at H
    have c3b0 : ((l0.length : Int) == (l1.length : Int)) = true := beq_iff_eq.mpr c3
    have c3b1 : ((l0.length : Int) != (l1.length : Int)) = false := bne_eq_false_iff_eq.mpr c3
    have c3b2 : (l0.length == l1.length) = true := by first | simpa using c3 | (simp at c3 ⊢; omega)
    clear c3
    have H' := Aside0.mk H
    clear H
    go_enter Try.func22, Try.ntmps22
    go_wp2
    repeat (go_quiet (fail); try go_wp2)
    go_loopg [13] k (fun kq v13 w' => ∃ (x13_1 : Int), v13 = .int .i64 x13_1 ∧ Aside0 (word_Place_22.l0 kq l0 l1 (l0.length : Int) x13_1 = some r) ∧ Aside0 (kq ≤ k) ∧ Drawn0 w w')
    case atStart => exact ⟨(0), (by first | rfl | (simp; done) | (simp [*]; done)), H', ⟨Nat.le_refl _⟩, by repeat (first | exact Drawn0.refl _ | apply Drawn0.step)⟩
    case round =>
      clear H'
      try clear c1
      try clear c2
      try clear p2
      try clear c3
      try clear c3b0
      try clear c3b1
      try clear c3b2
      obtain ⟨x13_1, rfl, HA, HK1, ⟨m1, rfl⟩⟩ := hrel
      cases gk with
      | zero => exact absurd HA.out (by simp [word_Place_22.l0])
      | succ k1 =>
        have H := HA.out
        clear HA
        simp only [word_Place_22.l0] at H
        by_cases c4 : x13_1 < (l0.length : Int)
        · rw [if_pos c4] at H
          have c4b0 : decide (x13_1 < (l0.length : Int)) = true := decide_eq_true c4
          clear c4
          by_cases c5 : 0 ≤ x13_1
          · rw [if_pos c5] at H
            have c5b0 : decide (0 ≤ x13_1) = true := decide_eq_true c5
            clear c5
            by_cases c6 : x13_1 < (l0.length : Int)
            · rw [if_pos c6] at H
              have c6b0 : decide (x13_1 < (l0.length : Int)) = true := decide_eq_true c6
              clear c6
              by_cases c7 : x13_1 < (l1.length : Int)
              · rw [if_pos c7] at H
                have c7b0 : decide (x13_1 < (l1.length : Int)) = true := decide_eq_true c7
                clear c7
                by_cases c8 : (!(((rd_T39 l0 x13_1).f0) == ((rd_T39 l1 x13_1).f0)) || (!(((rd_T39 l0 x13_1).f1) == ((rd_T39 l1 x13_1).f1)))) = true
                · rw [if_pos c8] at H
                  have c8b0 : (!(((rd_T39 l0 x13_1).f0) == ((rd_T39 l1 x13_1).f0)) || (!(((rd_T39 l0 x13_1).f1) == ((rd_T39 l1 x13_1).f1)))) = true := c8
                  clear c8
                  obtain rfl := Option.some.inj H
                  have p112 : 0 ≤ (x13_1 : Int) := of_decide_eq_true (by first | (with_reducible assumption) | assumption)
                  have q112 : x13_1 < (l0.length : Int) := of_decide_eq_true (by first | (with_reducible assumption) | assumption)
                  obtain ⟨ad112, e112, hx112_0, hx112_1⟩ := at_T39 HR0.out x13_1 p112 q112
                  cases e112
                  replace p112 := eq_true p112
                  replace q112 := eq_true q112
                  have p113 : 0 ≤ (x13_1 : Int) := of_decide_eq_true (by first | (with_reducible assumption) | assumption)
                  have q113 : x13_1 < (l1.length : Int) := of_decide_eq_true (by first | (with_reducible assumption) | assumption)
                  obtain ⟨ad113, e113, hx113_0, hx113_1⟩ := at_T39 HR1.out x13_1 p113 q113
                  cases e113
                  replace p113 := eq_true p113
                  replace q113 := eq_true q113
                  go_wp2
                  repeat (go_quiet (fail); try go_wp2)
                  go_ret
                  exact ⟨by first | rfl | (simp; done) | (simp [*]; done), by repeat (first | exact Drawn0.refl _ | apply Drawn0.step)⟩
                · rw [if_neg c8] at H
                  have c8b0 : (!(((rd_T39 l0 x13_1).f0) == ((rd_T39 l1 x13_1).f0)) || (!(((rd_T39 l0 x13_1).f1) == ((rd_T39 l1 x13_1).f1)))) = false := by simpa using c8
                  clear c8
                  have H' := Aside0.mk H
                  clear H
                  have p112 : 0 ≤ (x13_1 : Int) := of_decide_eq_true (by first | (with_reducible assumption) | assumption)
                  have q112 : x13_1 < (l0.length : Int) := of_decide_eq_true (by first | (with_reducible assumption) | assumption)
                  obtain ⟨ad112, e112, hx112_0, hx112_1⟩ := at_T39 HR0.out x13_1 p112 q112
                  cases e112
                  replace p112 := eq_true p112
                  replace q112 := eq_true q112
                  have p113 : 0 ≤ (x13_1 : Int) := of_decide_eq_true (by first | (with_reducible assumption) | assumption)
                  have q113 : x13_1 < (l1.length : Int) := of_decide_eq_true (by first | (with_reducible assumption) | assumption)
                  obtain ⟨ad113, e113, hx113_0, hx113_1⟩ := at_T39 HR1.out x13_1 p113 q113
                  cases e113
                  replace p113 := eq_true p113
                  replace q113 := eq_true q113
                  go_wp2
                  repeat (go_quiet (fail); try go_wp2)
                  go_roundg k1
                  case measure => have := HK1.out; omega
                  case rel => exact ⟨(wrap64 (x13_1 + 1)), (by first | rfl | (simp; done) | (simp [*]; done)), H', ⟨by have := HK1.out; omega⟩, by repeat (first | exact Drawn0.refl _ | apply Drawn0.step)⟩
              · rw [if_neg c7] at H
                exact absurd H (by simp)
            · rw [if_neg c6] at H
              exact absurd H (by simp)
          · rw [if_neg c5] at H
            exact absurd H (by simp)
        · rw [if_neg c4] at H
          have c4b0 : decide (x13_1 < (l0.length : Int)) = false := decide_eq_false c4
          clear c4
          obtain rfl := Option.some.inj H
          go_wp2
          repeat (go_quiet (fail); try go_wp2)
          go_ret
          exact ⟨by first | rfl | (simp; done) | (simp [*]; done), by repeat (first | exact Drawn0.refl _ | apply Drawn0.step)⟩
  · rw [if_neg c3] at H
    have c3b0 : ((l0.length : Int) == (l1.length : Int)) = false := beq_eq_false_iff_ne.mpr c3
    have c3b1 : ((l0.length : Int) != (l1.length : Int)) = true := bne_iff_ne.mpr c3
    have c3b2 : (l0.length == l1.length) = false := by first | simpa using c3 | (simp at c3 ⊢; omega)
    obtain rfl := Option.some.inj H
    go_enter Try.func22, Try.ntmps22
    go_wp2
    repeat (go_quiet (fail); try go_wp2)
    go_ret
    exact ⟨by first | rfl | (simp; done) | (simp [*]; done), by repeat (first | exact Drawn0.refl _ | apply Drawn0.step)⟩

/-! ### wrackkeep3_WordGrows: function 4 -/
def w5lits : List ByteArray := [⟨#[116, 105, 100, 101]⟩, ⟨#[119, 114, 101, 99, 107]⟩, ⟨#[55]⟩, ⟨#[115, 97, 105, 108]⟩, ⟨#[120]⟩]
theorem litW5 (W : World) : Kd.C Kd.string (W.alloc (.cells (w5lits.map Value.string).toArray 9)) (some ⟨W.heap.size, 0, none⟩) 5 w5lits :=
  (Kd.R_reads' (Kd.R_of_own (enc := Value.string) (h1 := fun _ => rfl) (ok := fun _ => True) (base := 0) (xs := w5lits) (own_lit_of W 0 9 w5lits (Nat.zero_le _) (by simp [w5lits])) (fun _ _ => trivial))).2.2
theorem w5_size (j : Nat) (h : j < 5) : (rdOf ByteArray.empty w5lits (j : Int)).size ≤ 5 := by
  have hh : ∀ i : Fin 5, (rdOf ByteArray.empty w5lits (i.val : Int)).size ≤ 5 := by decide +kernel
  exact hh ⟨j, h⟩
theorem keys_sort {P : ByteArray → List S39} {k1 k2 : List ByteArray} (h1 : KeysOf' P k1) (h2 : KeysOf' P k2) : sortStr k1 = sortStr k2 := by
  have hp : k1.Perm k2 := (List.perm_ext_iff_of_nodup h1.1 h2.1).2 fun s => by rw [h1.2, h2.2]
  unfold sortStr
  rw [show (k1.map fun s => s.data.toList).mergeSort (fun x y => decide (x ≤ y)) = (k2.map fun s => s.data.toList).mergeSort (fun x y => decide (x ≤ y)) from mergeSort_of_perm (hp.map _)]
set_option maxHeartbeats 4000000 in
set_option maxRecDepth 100000 in
theorem wrackkeep3_WordGrows.lawx (k : Nat) (A : Option Addr) (c : Nat) (l : List (List Int)) (a1 : Int) (j : Nat) (wss : List (List ByteArray)) (w : World) (hr : Kd.C (Kd.slice 3 (Kd.int .i64)) w A l.length l) (hc : l.length ≤ c) (hW : WordsOf k (txts l) wss) (hT : word_Words.f k T0 = some [sA, sB, sA, sC]) (hB : wrackmake_Below.f a1 5 = some (j : Int)) (hj : j < 5)
    (hES : ∀ ks, KeysOf' (idxP (fun _ => []) 0 wss) ks → slices_Equal_string_string.f k (sortStr ks) (sortStr ks) = some true) (hEP : word_Place_22.f k (idxP (fun _ => []) 0 wss (rdOf ByteArray.empty w5lits (j : Int))) (idxP (fun _ => []) 0 wss (rdOf ByteArray.empty w5lits (j : Int))) = some true) :
    Calls Try.prog 4 #[.slice A l.length c, .int .i64 a1] w fun e w' => e = .returned (.bool true) ∧ Below w.heap.size w w' := by
  have HR := Aside0.mk hr
  have HC := Aside0.mk hc
  have HW := Aside0.mk hW
  have HT := Aside0.mk hT
  have HBL := Aside0.mk hB
  have HES := Aside0.mk hES
  have HEP := Aside0.mk hEP
  have HJ := Aside0.mk hj
  have HW0 : Aside0 (WordsOf k [] []) := ⟨⟨by simp, rfl, fun i hi => by simp at hi, fun ws hw => by simp at hw⟩⟩
  have HTC := Aside0.mk (wrackkeep3_texts.calls A c l w hr hc)
  clear hr hc hW hT hB hES hEP hj
  have hlen : (txts l).length ≤ 100 := HW.out.1
  generalize txts l = docs at *
  have HPL : Aside0 (∀ s, (idxP (fun _ => []) 0 wss s).length ≤ 100000000) := ⟨fun s => by
    have h := idxP_len s wss (fun _ => []) 0
    have h2 := HW.out.sum wss.length
    rw [List.take_length] at h2
    simp only [List.length_nil] at h
    omega⟩
  have HNL : Aside0 (idxN wss ≤ 100000) := ⟨by have h2 := HW.out.sum wss.length; rwa [List.take_length] at h2⟩
  have HZL : Aside0 ((∀ z ∈ idxZ wss, 0 ≤ z ∧ z ≤ 1000000) ∧ (idxZ wss).length ≤ 200) := ⟨⟨fun z hz => by
    obtain ⟨ws, hw, rfl⟩ := List.mem_map.1 hz
    have := (HW.out.2.2.2 ws hw).1
    omega, by unfold idxZ; rw [List.length_map]; have := HW.out.2.1; omega⟩⟩
  go_enter Try.func4, Try.ntmps4
  go_upto_region 4 with (first | (go_at_call 6; refine HTC.out.mono ?_; rintro e w1 ⟨v1, rfl, hr1, hb⟩; obtain ⟨A1, c1, e1⟩ := Kd.R_slice hr1; subst e1; have HD1 := Aside0.mk (Kd.R_reads' hr1).2.2; have HDC := Aside0.mk (Kd.R_reads' hr1).2.1; have HB1 := Aside0.mk hb; clear hr1 hb) | (go_at_call 5; first | ((with_reducible refine (word_New.calls k A1 c1 docs wss _ HD1.out HDC.out HW.out).mono ?_); rintro e w2 ⟨gx, rfl, hi, hb⟩; have HX2 := Aside0.mk hi; have HB2 := Aside0.mk hb; clear hi hb) | (refine (word_New.calls k none 0 [] [] _ ⟨rfl, by decide, fun h => absurd h (Nat.lt_irrefl 0)⟩ (Nat.le_refl _) HW0.out).mono ?_; rintro e w3 ⟨gy, rfl, hi, hb⟩; have HY3 := Aside0.mk hi; have HB3 := Aside0.mk hb; clear hi hb)))
  go_upto_region 6 with (go_at_call 7; refine (wrackkeep3_indexed.calls k _ HT.out).mono ?_; rintro e w4 ⟨rfl, hb⟩; have HB4 := Aside0.mk (below_step HB3.out hb); have HY4 := Aside0.mk (HY3.out.below hb); clear hb)
  clear HB3 HY3
  go_wp2
  go_loopg [50] docs.length (fun gg s50 wr => ∃ kk : Nat, kk ≤ docs.length ∧ docs.length - kk ≤ gg ∧ s50 = .int .i64 kk ∧ Aside0 (IsIdx w2.heap.size wr gy (idxP (fun _ => []) 0 (wss.take kk)) (idxZ (wss.take kk)) (idxN (wss.take kk))) ∧ Aside0 (Below w2.heap.size w2 wr))
  case atStart => exact ⟨0, Nat.zero_le _, by omega, rfl, HY4, HB4⟩
  case round =>
    obtain ⟨kk, hkk, hg, rfl, HI2, HB5⟩ := hrel
    by_cases hlt : kk < docs.length
    · have hltz : (kk : Int) < (docs.length : Int) := by omega
      have h0 : (0 : Int) ≤ (kk : Int) := by omega
      obtain ⟨ad, cs, e0, hcl1, ⟨A2, c2, rfl, hl2, hC2⟩, hcell⟩ := ReadsRow.get_ HD1.out [] (kk : Int) h0 hltz
      cases e0
      have hx0 := hcell 0 _ rfl
      rw [show ((kk : Int)).toNat = kk from Int.toNat_natCast kk, Nat.add_zero, show (Kd.slice 5 (Kd.int .u8)).sz = 1 from rfl, Nat.mul_one] at hx0
      rw [show ((kk : Int)).toNat = kk from Int.toNat_natCast kk] at hl2 hC2
      clear hcell hcl1
      have hb15 : Below w1.heap.size w1 wr := HB2.out.trans (HB5.out.mono HB2.out.size)
      replace hx0 := (hb15.cell (World.block_lt_of_cell? w1 _ hx0)).trans hx0
      obtain ⟨q1, q2, q3, q4⟩ := HW.out
      have hkw : kk < wss.length := by rw [q2]; exact hlt
      have hgd : wss.getD kk [] = wss[kk] := by rw [List.getD_eq_getElem?_getD, List.getElem?_eq_getElem hkw]; rfl
      obtain ⟨q5, q6⟩ := q3 kk hlt
      have q7 := q4 _ (List.getElem_mem hkw)
      rw [hgd] at q5
      have hsn : wss.take (kk + 1) = wss.take kk ++ [wss[kk]] := by rw [List.take_add_one, List.getElem?_eq_getElem hkw]; rfl
      have htl : (wss.take kk).length = kk := by rw [List.length_take]; omega
      have e1 : idxP (fun _ => []) 0 (wss.take (kk + 1)) = addW (idxP (fun _ => []) 0 (wss.take kk)) ((idxZ (wss.take kk)).length : Int) 0 wss[kk] := by
        rw [hsn, idxP_snoc]
        unfold idxZ
        rw [List.length_map, Nat.zero_add]
      have e2 : idxZ (wss.take (kk + 1)) = idxZ (wss.take kk) ++ [((wss[kk]).length : Int)] := by rw [hsn]; unfold idxZ; rw [List.map_append]; rfl
      have e3 : idxN (wss.take (kk + 1)) = idxN (wss.take kk) + (wss[kk]).length := by rw [hsn, idxN_snoc]
      have hsum := HW.out.sum kk
      have hPl : ∀ s, (idxP (fun _ => []) 0 (wss.take kk) s).length ≤ 100000000 := fun s => by
        have h := idxP_len s (wss.take kk) (fun _ => []) 0
        simp only [List.length_nil] at h
        omega
      have hZl : (idxZ (wss.take kk)).length < 200 := by unfold idxZ; rw [List.length_map, htl]; omega
      have hnz : (idxZ (wss.take kk)).length = kk := by unfold idxZ; rw [List.length_map, htl]
      have hcall := word_Index_Add.calls k w2.heap.size gy (idxP (fun _ => []) 0 (wss.take kk)) (idxZ (wss.take kk)) (idxN (wss.take kk)) A2 c2 (docs.getD kk []) wss[kk] wr HI2.out HB5.out.size (Kd.C_below hC2 hb15) hl2 q5 q6 hZl (by omega) q7.2 hPl (by omega)
      rw [← e1, ← e2, ← e3, hnz] at hcall
      clear e1 e2 e3 hsn htl q1 q2 q3 q4 q5 q6 q7 hgd hl2 hC2 hPl hZl hsum hnz hb15
      generalize docs.getD kk [] = xl at hx0 hcall
      go_wp2_with (go_at_call 18; refine hcall.mono ?_; rintro e w6 ⟨rfl, hi, hb⟩; have HI4 := Aside0.mk hi; have HB6 := Aside0.mk (HB5.out.trans hb); clear hi hb)
      go_roundg (docs.length - (kk + 1))
      case measure => omega
      case rel => exact ⟨kk + 1, by omega, by omega, by go_num, HI4, HB6⟩
    · have hltz : ¬ (kk : Int) < (docs.length : Int) := by omega
      have hk : kk = docs.length := by omega
      subst hk
      have HY5 : Aside0 (IsIdx w2.heap.size wr gy (idxP (fun _ => []) 0 wss) (idxZ wss) (idxN wss)) := ⟨by have h := HI2.out; rwa [List.take_of_length_le (by rw [HW.out.2.1]; exact Nat.le_refl _)] at h⟩
      have HX5 := Aside0.mk (HX2.out.below HB5.out)
      clear HI2 HY4
      generalize idxP (fun _ => []) 0 wss = P at *
      generalize idxZ wss = Z at *
      go_upto_region 15 with (go_at_call 19; first | ((with_reducible refine (word_Index_Size.calls _ gx P Z _ _ HX5.out HZL.out.1 HZL.out.2).mono ?_); rintro e w6 ⟨rfl, hw⟩; rw [hw]; clear hw) | ((with_reducible refine (word_Index_Size.calls _ gy P Z _ _ HY5.out HZL.out.1 HZL.out.2).mono ?_); rintro e w6 ⟨rfl, hw⟩; rw [hw]; clear hw))
      have HLIT : Aside0 (∀ w7, Below (wr.alloc (.cells (w5lits.map Value.string).toArray 9)).heap.size (wr.alloc (.cells (w5lits.map Value.string).toArray 9)) w7 → w7.cell? ⟨wr.heap.size, j, none⟩ = some (.string (rdOf ByteArray.empty w5lits (j : Int)))) := ⟨fun w7 hb => by
        obtain ⟨ad, e, h⟩ := Kd.at_string (litW5 wr) (j : Int) (by omega) (by simp [w5lits]; have := HJ.out; omega)
        obtain rfl := Option.some.inj e
        rw [Int.toNat_natCast, show (Addr.mk wr.heap.size 0 none).add j = ⟨wr.heap.size, j, none⟩ by unfold Addr.add; split <;> simp_all] at h
        exact (hb.cell (World.block_lt_of_cell? _ _ h)).trans h⟩
      have hj5 : (j : Int) < 5 := by have := HJ.out; omega
      have hj0 : (0 : Int) ≤ (j : Int) := by omega
      have hsz := w5_size j HJ.out
      generalize rdOf ByteArray.empty w5lits (j : Int) = s at *
      have HSM : Aside0 (s.size ≤ maxLen) := ⟨by unfold maxLen; omega⟩
      have HFL : Aside0 ((P s).length ≤ 1000000000) := ⟨by have := HPL.out s; omega⟩
      have HNX : Aside0 (idxN wss ≤ 100000000) := ⟨by have := HNL.out; omega⟩
      clear hsz
      go_upto_region 16 with (go_at_call 8; (with_reducible refine (wrackmake_Below.calls a1 5 (j : Int) _ HBL.out).mono ?_); rintro e w7 ⟨rfl, hd⟩; have hb7 := drawn_below hd; have hc7 := HLIT.out w7 hb7; have HB7 := Aside0.mk (below_step (below_alloc (Below.refl wr.heap.size wr) _) hb7); clear hd hb7)
      have HX7 := Aside0.mk (HX5.out.below HB7.out)
      have HY7 := Aside0.mk (HY5.out.below HB7.out)
      have HB17 : Aside0 (Below w.heap.size w w7) := ⟨below_step (below_step (below_step HB1.out HB2.out) HB5.out) HB7.out⟩
      obtain ⟨F, hF⟩ : ∃ F, P s = F := ⟨_, rfl⟩
      have HEP2 := HEP.out
      rw [hF] at HEP2
      have HEP3 := Aside0.mk HEP2
      have HFX : Aside0 (∀ m0 g W, IsIdx m0 W g P Z (idxN wss) → Calls Try.prog 15 #[.pointer (some ⟨g, 0, none⟩), .string s] W fun e w' => ∃ v0_ : Value, e = .returned (v0_) ∧ Kd.R k39 39 w' W.heap.size (fun _ => True) v0_ F ∧ Below W.heap.size W w') := ⟨fun m0 g W h => by rw [← hF]; exact word_Index_Find.calls m0 g P Z _ s W h HSM.out HFL.out⟩
      clear HEP2 hF hc7 HLIT
      go_wp2_with (first | (go_at_call 21; first | ((with_reducible refine (word_Index_Known.calls _ gx P Z _ _ HX7.out HNX.out).mono ?_); rintro e w8 ⟨v8, ks1, rfl, hk1, hr1, hb8⟩; have HES1 := Aside0.mk (HES.out ks1 hk1); have HEQ1 : Aside0 (∀ ks, KeysOf' P ks → sortStr ks = sortStr ks1) := ⟨fun ks h => keys_sort h hk1⟩; generalize sortStr ks1 = S at hr1 HES1 HEQ1 ⊢; obtain ⟨A8, c8, e8⟩ := Kd.R_slice hr1; subst e8; have HR8 := Aside0.mk (Kd.R_reads' hr1); have HB8 := Aside0.mk hb8; clear hk1 hr1 hb8) | ((with_reducible refine (word_Index_Known.calls _ gy P Z _ _ (HY7.out.below HB8.out) HNX.out).mono ?_); rintro e w9 ⟨v9, ks2, rfl, hk2, hr2, hb9⟩; rw [HEQ1.out ks2 hk2] at hr2; obtain ⟨A9, c9, e9⟩ := Kd.R_slice hr2; subst e9; have HR9 := Aside0.mk (Kd.R_reads' hr2); have HB9 := Aside0.mk hb9; have HR89 := Aside0.mk (Kd.C_below HR8.out.2.2 hb9); clear hk2 hr2 hb9)) | (go_at_call 20; refine (slices_Equal_string_string.calls k A8 c8 S A9 c9 S true _ HR89.out HR8.out.2.1 HR9.out.2.2 HR9.out.2.1 HES1.out).mono ?_; rintro e w10 ⟨rfl, hd⟩; have HB10 := Aside0.mk (below_step (below_step HB8.out HB9.out) (drawn_below hd)); clear hd) | (go_at_call 15; first | ((with_reducible refine (HFX.out _ gx _ (HX7.out.below HB10.out)).mono ?_); rintro e w11 ⟨v11, rfl, hr1, hb⟩; obtain ⟨A11, c11, e11⟩ := Kd.R_slice hr1; subst e11; have HR11 := Aside0.mk (Kd.R_reads' hr1); have HB11 := Aside0.mk (below_step HB10.out hb); clear hr1 hb) | ((with_reducible refine (HFX.out _ gy _ (HY7.out.below HB11.out)).mono ?_); rintro e w12 ⟨v12, rfl, hr2, hb⟩; obtain ⟨A12, c12, e12⟩ := Kd.R_slice hr2; subst e12; have HR12 := Aside0.mk (Kd.R_reads' hr2); have HR112 := Aside0.mk (Kd.C_below HR11.out.2.2 hb); have HB12 := Aside0.mk (below_step HB11.out hb); clear hr2 hb)) | (go_at_call 22; refine (word_Place_22.calls k A11 c11 F A12 c12 F true _ HR112.out HR11.out.2.1 HR12.out.2.2 HR12.out.2.1 HEP3.out).mono ?_; rintro e w13 ⟨rfl, hd⟩; have HB13 := Aside0.mk (below_step HB12.out (drawn_below hd)); clear hd))
      go_ret
      exact ⟨rfl, below_step HB17.out HB13.out⟩

end Go.Proofs.Ytchjgjpoephljaa.PWordGrows
