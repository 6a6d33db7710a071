-- written by prn.py, a program of this session, over the kit's printer
import Derived.Test.YtoanpgeijokgpaaPSourceRoadsx0
import Derived.Test.YtoanpgeijokgpaaPSourceRoadsx3
import Derived.Test.YtoanpgeijokgpaaPSourceRoadsx4
namespace Go.Proofs.Ytoanpgeijokgpaa.PSourceRoads
open Go.RowKit Go.Proofs.YtoanpgeijokgpaaW.PrintWords Go.Proofs.YtoanpgeijokgpaaW.PrintLast Go.Proofs.YtoanpgeijokgpaaW.PrintMore Go.Proofs.YtoanpgeijokgpaaW.PrintMine
attribute [local go_sem] max2_int min2_int max_two min_two max_three min_three max_four min_four   -- for this text's walks alone
set_option linter.unusedVariables false
set_option linter.unusedSimpArgs false

/-! ### source_Bad: function 8 -/
/-- What a source over bytes has: its bytes, and the spans that cannot be read. -/
def IsImg (w : World) (g : Nat) (b : List Int) (l : List S53) : Prop := ∃ (A : Option Addr) (c : Nat) (B : Option Addr) (d : Nat), w.heap[g]? = some (.cells #[.slice A b.length c, .slice B l.length d] 58 (0, 0)) ∧ Kd.C (Kd.int .u8) w A b.length b ∧ b.length ≤ c ∧ Kd.C k53 w B l.length l ∧ l.length ≤ d
theorem IsImg.below {w W : World} {g : Nat} {b : List Int} {l : List S53} (h : IsImg w g b l) (hb : Below w.heap.size w W) : IsImg W g b l := by
  obtain ⟨A, c, B, d, h1, h2, h3, h4, h5⟩ := h
  exact ⟨A, c, B, d, blk_below h1 hb, Kd.C_below h2 hb, h3, Kd.C_below h4 hb, h5⟩
/-- The same, with where it lies: from block m on. -/
def ImgAt (m : Nat) (w : World) (g : Nat) (b : List Int) (l : List S53) : Prop := ∃ (A : Option Addr) (c : Nat) (B : Option Addr) (d : Nat), w.heap[g]? = some (.cells #[.slice A b.length c, .slice B l.length d] 58 (0, 0)) ∧ m ≤ g ∧ Kd.R (Kd.int .u8) 5 w m (fun _ => True) (.slice A b.length c) b ∧ Kd.R k53 53 w m (fun _ => True) (.slice B l.length d) l
theorem ImgAt.img {m : Nat} {w : World} {g : Nat} {b : List Int} {l : List S53} (h : ImgAt m w g b l) : IsImg w g b l := by
  obtain ⟨A, c, B, d, h1, _, h2, h3⟩ := h
  exact ⟨A, c, B, d, h1, (Kd.R_reads' h2).2.2, (Kd.R_reads' h2).2.1, (Kd.R_reads' h3).2.2, (Kd.R_reads' h3).2.1⟩
theorem ImgAt.below {m : Nat} {w W : World} {g : Nat} {b : List Int} {l : List S53} (h : ImgAt m w g b l) (hb : Below w.heap.size w W) : ImgAt m W g b l := by
  obtain ⟨A, c, B, d, h1, h2, h3, h4⟩ := h
  exact ⟨A, c, B, d, blk_below h1 hb, h2, Kd.R_below h3 hb, Kd.R_below h4 hb⟩
theorem R_other {α : Type} {d : Kd α} {e : TypeId} {w w1 : World} {m : Nat} {v : Value} {xs : List α} (h : Kd.R d e w m (fun _ => True) v xs) {g : Nat} (hg : w.grownBy w1 (some g)) (hlt : g < m) : Kd.R d e w1 m (fun _ => True) v xs :=
  Kd.R_mono (Kd.R_step (Kd.R_bound h) (fun k hk hl => hg.block k hl (fun e => by injection e with e; have := hk.2.1; omega))) (fun _ _ => trivial)
theorem ImgAt.other {m : Nat} {w w1 : World} {g : Nat} {b : List Int} {l : List S53} (h : ImgAt m w g b l) {g' : Nat} (hg : w.grownBy w1 (some g')) (hlt : g' < m) : ImgAt m w1 g b l := by
  obtain ⟨A, c, B, d, h1, h2, h3, h4⟩ := h
  exact ⟨A, c, B, d, (hg.block g (blk_lt h1) (fun e => by injection e with e; omega)).trans h1, h2, R_other h3 hg hlt, R_other h4 hg hlt⟩
theorem one53 (W : World) (a b : Int) (t : TypeId) : Kd.C k53 (W.alloc (.cells #[.int .i64 a, .int .i64 b] t)) (some ⟨W.heap.size, 0, none⟩) 1 [⟨a, b⟩] := by
  have hb := blk_new W (.cells #[.int .i64 a, .int .i64 b] t (0, 0))
  have q0 := blk_cell hb 0
  have q1 := blk_cell hb 1
  refine ⟨rfl, by decide, fun _ => ⟨_, rfl, fun j p hp => ?_⟩⟩
  match j, hp with
  | 0, hp =>
    obtain rfl : (⟨a, b⟩ : S53) = p := by simpa using hp
    exact ⟨[.int .i64 a, .int .i64 b], rfl, ⟨[.int .i64 a], [.int .i64 b], rfl, rfl, rfl⟩, fun i u hu => by
      match i, hu with
      | 0, hu => exact q0.trans hu
      | 1, hu => exact q1.trans hu⟩
theorem img_size (a : Addr) (w : World) : (method 211 55 (.pointer (some a)) "Size").run Try.prog w = .ok (69, .pointer (some a)) w := by kernel_rfl
theorem img_read (a : Addr) (w : World) : (method 211 55 (.pointer (some a)) "Read").run Try.prog w = .ok (67, .pointer (some a)) w := by kernel_rfl
theorem img_nread (a : Addr) (w : World) : (nilAhead 211 55 (.pointer (some a)) "Read").run Try.prog w = .ok (some false) w := by kernel_rfl
/-- A source: over bytes, or over parts of another one. -/
inductive Src where
  | img (b : List Int) (l : List S53)
  | pcs (s : Src) (l : List S53) (n : Int)
def Src.ty : Src → TypeId
  | .img _ _ => 55
  | .pcs _ _ _ => 63
def Src.size : Src → Int
  | .img b _ => (b.length : Int)
  | .pcs _ _ n => n
/-- Block g is that source. -/
def SrcAt (w : World) : Nat → Src → Prop
  | g, .img b l => IsImg w g b l
  | g, .pcs s l n => ∃ (g' : Nat) (B : Option Addr) (d : Nat), w.heap[g]? = some (.cells #[.iface s.ty (.pointer (some ⟨g', 0, none⟩)), .slice B l.length d, .int .i64 n] 65 (0, 0)) ∧ Kd.C k53 w B l.length l ∧ l.length ≤ d ∧ SrcAt w g' s
theorem SrcAt.below {w W : World} (hb : Below w.heap.size w W) : ∀ {s : Src} {g : Nat}, SrcAt w g s → SrcAt W g s
  | .img _ _, _, h => IsImg.below h hb
  | .pcs _ _ _, _, ⟨g', B, d, h1, h2, h3, h4⟩ => ⟨g', B, d, blk_below h1 hb, Kd.C_below h2 hb, h3, SrcAt.below hb h4⟩
def Src.fsize : Src → Nat
  | .img _ _ => 69
  | .pcs _ _ _ => 75
def Src.fread : Src → Nat
  | .img _ _ => 67
  | .pcs _ _ _ => 73
def Src.froad : Src → Nat
  | .img _ _ => 68
  | .pcs _ _ _ => 74
def Src.fplain : Src → Nat
  | .img _ _ => 66
  | .pcs _ _ _ => 72
theorem img_road (a : Addr) (w : World) : (method 211 55 (.pointer (some a)) "Road").run Try.prog w = .ok (68, .pointer (some a)) w := by kernel_rfl
theorem img_plain (a : Addr) (w : World) : (method 211 55 (.pointer (some a)) "Plain").run Try.prog w = .ok (66, .pointer (some a)) w := by kernel_rfl
theorem pcs_size (a : Addr) (w : World) : (method 211 63 (.pointer (some a)) "Size").run Try.prog w = .ok (75, .pointer (some a)) w := by kernel_rfl
theorem pcs_read (a : Addr) (w : World) : (method 211 63 (.pointer (some a)) "Read").run Try.prog w = .ok (73, .pointer (some a)) w := by kernel_rfl
theorem pcs_nread (a : Addr) (w : World) : (nilAhead 211 63 (.pointer (some a)) "Read").run Try.prog w = .ok (some false) w := by kernel_rfl
theorem pcs_road (a : Addr) (w : World) : (method 211 63 (.pointer (some a)) "Road").run Try.prog w = .ok (74, .pointer (some a)) w := by kernel_rfl
theorem pcs_plain (a : Addr) (w : World) : (method 211 63 (.pointer (some a)) "Plain").run Try.prog w = .ok (72, .pointer (some a)) w := by kernel_rfl
theorem R_apart {α : Type} {d : Kd α} {e : TypeId} {w w1 : World} {m : Nat} {v v1 vx : Value} {xs : List α} (h : Kd.R d e w m (fun k => some k ≠ v.ownBlock) vx xs) (hg : w.grownBy w1 v.ownBlock) (hat : v1.ownBlock = v.ownBlock ∨ ∃ b, v1.ownBlock = some b ∧ w.heap.size ≤ b) :
    Kd.R d e w1 m (fun k => some k ≠ v1.ownBlock) vx xs :=
  Kd.R_mono (Kd.R_step (Kd.R_bound h) (fun k hk hl => hg.block k hl hk.1)) (fun k hk => by
    rcases hat with e | ⟨b, e, hb⟩
    · rw [e]; exact hk.1
    · rw [e]
      intro h
      injection h with h
      have := hk.2.2.1
      omega)
def source_Bad.ok (n : Int) (l : List S53) : Bool := l.all fun s => decide (0 ≤ s.f0) && decide (0 ≤ s.f1) && decide (s.f0 + s.f1 ≤ n)
/-- The set of what cannot be read; 'none' where the spans are not right. -/
def source_Bad.f (k : Nat) (b : List Int) (l : List S53) : Option (List S53) := if b.length ≤ 65536 ∧ source_Bad.ok (b.length : Int) l = true then span_Norm.f k l else none
set_option maxHeartbeats 2000000 in
set_option maxRecDepth 100000 in
theorem source_Bad.calls (k : Nat) (A0 : Option Addr) (c0 : Nat) (b : List Int) (A1 : Option Addr) (c1 : Nat) (l : List S53) (r : List S53) (w : World) (hr0 : Kd.C (Kd.int .u8) w A0 b.length b) (hc0 : b.length ≤ c0) (hr1 : Kd.C k53 w A1 l.length l) (hc1 : l.length ≤ c1) (h : source_Bad.f k b l = some r) :
    Calls Try.prog 8 #[.slice A0 b.length c0, .slice A1 l.length c1] w fun e w' => ∃ g, e = .returned (.tuple #[.iface 55 (.pointer (some ⟨g, 0, none⟩)), .int .i64 0]) ∧ ImgAt w.heap.size w' g b r ∧ Below w.heap.size w w' := by
  unfold source_Bad.f at h
  split at h
  case isFalse => exact absurd h (by simp)
  case isTrue hh =>
  obtain ⟨q1, q2⟩ := hh
  have H2 := Aside0.mk q2
  have HN := Aside0.mk h
  have HR0 := Aside0.mk hr0
  have HR1 := Aside0.mk hr1
  have HC0 := Aside0.mk hc0
  have HC1 := Aside0.mk hc1
  have HF := Aside0.mk (show slices_Clone_byte_byte.f b = some b from by unfold slices_Clone_byte_byte.f; rw [if_pos (by omega)])
  have HB : Aside0 (Below w.heap.size w w) := ⟨Below.refl _ _⟩
  have hmax := hr1.2.1
  unfold maxLen at hmax
  clear hr0 hr1 hc0 hc1 q2 h
  go_enter Try.func8, Try.ntmps8
  go_wp2
  go_loopw [13] (fun i wr => ∃ j : Nat, j ≤ l.length ∧ i = .int .i64 j ∧ Aside0 (Below w.heap.size w wr)) (fun i _ => l.length - (intOf i).toNat)
  case atStart => exact ⟨0, Nat.zero_le _, rfl, HB⟩
  case round =>
    clear HB
    obtain ⟨j, hj, rfl, HB⟩ := hrel
    by_cases hlt : j < l.length
    · obtain ⟨s, hs⟩ : ∃ s, s = rd_T53 l (j : Int) := ⟨_, rfl⟩
      obtain ⟨ad, e1, x0, x1⟩ := at_T53 HR1.out (j : Int) (by omega) (by omega)
      have hm : s ∈ l := by
        rw [hs]
        unfold rd_T53
        rw [Int.toNat_natCast, List.getD_eq_getElem?_getD, List.getElem?_eq_getElem hlt]
        exact List.getElem_mem _
      have hok := List.all_eq_true.1 H2.out s hm
      simp only [Bool.and_eq_true, decide_eq_true_eq] at hok
      obtain ⟨⟨o1, o2⟩, o3⟩ := hok
      rw [← hs] at x0 x1
      have hck : span_Check.f s.f0 s.f1 = some 0 := by
        have e : wrap64 (65536 - s.f1) = 65536 - s.f1 := by unfold wrap64; omega
        unfold span_Check.f
        rw [if_neg (by omega), if_neg (by omega), if_neg (by omega), e, if_neg (by omega)]
      have HCK := Aside0.mk hck
      cases e1
      replace x0 := (HB.out.cell (World.block_lt_of_cell? w _ x0)).trans x0
      replace x1 := (HB.out.cell (World.block_lt_of_cell? w _ x1)).trans x1
      clear hs hm hck
      generalize s.f0 = f0 at *
      generalize s.f1 = f1 at *
      rw [Int.toNat_natCast] at x0 x1
      have t1 : decide (f0 + f1 > (b.length : Int)) = false := decide_eq_false (by omega)
      have t2 : decide ((b.length : Int) < f0 + f1) = false := decide_eq_false (by omega)
      go_wp2_with (first | ((with_reducible refine gate_dst (N := 7) rfl ?_); refine box_event ?hg (N := 7) ?hd (cs := #[.int .i64 0, .int .i64 0]) (t := 53) ?hr ?_; (case hd => rfl); (case hg => rfl); (case hr => first | (go_simp; done) | (go_simp; rfl)); intro gb hg w7 hbox hb; have HB7 := Aside0.mk (below_step HB.out hb); have BK7 := Aside0.mk hbox; have GE7 := Aside0.mk (show w.heap.size ≤ gb from by rw [hg]; exact below_size HB.out); clear hb hbox hg; have z0 : w7.cell? ⟨gb, 0, none⟩ = some (.int .i64 0) := (blk_cell BK7.out 0).trans rfl; have z1 : w7.cell? ⟨gb, 1, none⟩ = some (.int .i64 0) := (blk_cell BK7.out 1).trans rfl; have fz0 := blk_frozen BK7.out 0; have fz1 := blk_frozen BK7.out 1) | (go_at_call 20; refine (span_Check.calls f0 f1 0 _ HCK.out).mono ?_; rintro e w9 ⟨rfl, hb⟩; have BK9 := Aside0.mk (blk_below (g := gb) (o := .cells #[.int .i64 f0, .int .i64 f1] 53 (0, 0)) (by (with_reducible repeat (first | refine blk_drewN ?_ _ | refine blk_drew ?_ | refine blk_alloc ?_ _)); refine blk_put (cs := #[.int .i64 f0, .int .i64 0]) ?_ 1 _ rfl; (with_reducible repeat (first | refine blk_drewN ?_ _ | refine blk_drew ?_ | refine blk_alloc ?_ _)); refine blk_put (cs := #[.int .i64 0, .int .i64 0]) ?_ 0 _ rfl; (with_reducible repeat (first | refine blk_drewN ?_ _ | refine blk_drew ?_ | refine blk_alloc ?_ _)); exact BK7.out) hb); have HB9 := Aside0.mk (below_step (by repeat (first | (with_reducible first | exact HB7.out | apply below_alloc | apply pw_below_drewN | apply below_drew1 | refine below_set ?_ GE7.out) | exact HB7.out)) hb); clear hb; have y0 : w9.cell? ⟨gb, 0, none⟩ = some (.int .i64 f0) := (blk_cell BK9.out 0).trans rfl; have y1 : w9.cell? ⟨gb, 1, none⟩ = some (.int .i64 f1) := (blk_cell BK9.out 1).trans rfl))
      go_roundw
      case rel => exact ⟨j + 1, by omega, by go_num, ⟨by repeat (first | (with_reducible first | exact HB9.out | apply below_alloc | apply pw_below_drewN | apply below_drew1) | exact HB9.out)⟩⟩
      case measure => simp [intOf]; omega
    · have HR0' := Aside0.mk (Kd.C_below HR0.out HB.out)
      have HR1' := Aside0.mk (Kd.C_below HR1.out HB.out)
      go_wp2_with (first | (go_at_call 14; refine (slices_Clone_byte_byte.calls A0 c0 b b _ HR0'.out HC0.out HF.out).mono ?_; rintro e w3 ⟨v3, rfl, hR, hb⟩; have HR3 := Aside0.mk hR; have HB3 := Aside0.mk (below_step HB.out hb); have HS3 := Aside0.mk hb; clear hR hb; obtain ⟨Ar, cr, er⟩ := Kd.R_slice HR3.out; subst er; have HR1'' := Aside0.mk (Kd.C_below HR1'.out HS3.out)) | (go_at_call 21; refine (span_Norm.calls k A1 c1 l r _ HR1''.out HC1.out HN.out).mono ?_; rintro e w4 ⟨v4, rfl, hR, hb⟩; have HR4 := Aside0.mk hR; have HB4 := Aside0.mk (below_step HB3.out hb); have HS4 := Aside0.mk hb; clear hR hb; obtain ⟨An, cn, en⟩ := Kd.R_slice HR4.out; subst en) | ((with_reducible refine gate_dst (N := 36) rfl ?_); refine box_event ?hg (N := 36) ?hd (cs := #[.slice Ar b.length cr, .slice An r.length cn]) (t := 58) ?hr ?_; (case hd => rfl); (case hg => rfl); (case hr => first | (go_simp; done) | (go_simp; rfl)); intro gb hg w7 hbox hb; have HB7 := Aside0.mk (below_step HB4.out hb); have HS7 := Aside0.mk hb; have BK7 := Aside0.mk hbox; have GE7 := Aside0.mk (show w.heap.size ≤ gb from by rw [hg]; exact below_size HB4.out); clear hb hbox hg))
      go_ret2
      exact ⟨gb, rfl, ⟨Ar, cr, An, cn, BK7.out, GE7.out, Kd.R_lower (Kd.R_below (Kd.R_below HR3.out HS4.out) HS7.out) (below_size HB.out), Kd.R_lower (Kd.R_below HR4.out HS7.out) (below_size HB3.out)⟩, HB7.out⟩

/-! ### source_Of: function 13 -/
def source_Of.f (k : Nat) (b : List Int) : Option (List S53) := source_Bad.f k b []
theorem source_Of.calls (k : Nat) (A0 : Option Addr) (c0 : Nat) (b : List Int) (r : List S53) (w : World) (hr0 : Kd.C (Kd.int .u8) w A0 b.length b) (hc0 : b.length ≤ c0) (h : source_Of.f k b = some r) :
    Calls Try.prog 13 #[.slice A0 b.length c0] w fun e w' => ∃ g, e = .returned (.tuple #[.iface 55 (.pointer (some ⟨g, 0, none⟩)), .int .i64 0]) ∧ ImgAt w.heap.size w' g b r ∧ Below w.heap.size w w' := by
  have HR0 := Aside0.mk hr0
  have HC0 := Aside0.mk hc0
  have H := Aside0.mk (show source_Bad.f k b [] = some r from h)
  clear hr0 hc0 h
  go_enter Try.func13, Try.ntmps13
  go_wp2_with (go_at_call 8; refine (source_Bad.calls k A0 c0 b none 0 [] r _ HR0.out HC0.out (Kd.C_nil _ _) (Nat.le_refl 0) H.out).mono ?_; rintro e w1 ⟨g, rfl, hI, hb⟩; have HI := Aside0.mk hI; have HB := Aside0.mk hb; clear hI hb)
  go_ret2
  exact ⟨g, rfl, HI.out, HB.out⟩

/-! ### source_within: function 26 -/
def source_within.f (a0 : Int) (a1 : Int) (a2 : Int) : Option (Bool) := if a0 ≥ 0 then (if a1 ≥ 0 then (if a1 ≤ a2 then (some (decide (a0 ≤ (wrap64 (a2 - a1))))) else (some false)) else (some false)) else (some false)
set_option maxHeartbeats 8000000 in
set_option maxRecDepth 100000 in
theorem source_within.calls (a0 : Int) (a1 : Int) (a2 : Int) (r : Bool) (w : World) (h : source_within.f a0 a1 a2 = some r) :
    Calls Try.prog 26 #[.int .i64 a0, .int .i64 a1, .int .i64 a2] w fun e w' => e = .returned (.bool r) ∧ Drawn0 w w' := by
  have H : (if a0 ≥ 0 then (if a1 ≥ 0 then (if a1 ≤ a2 then (some (decide (a0 ≤ (wrap64 (a2 - a1))))) else (some false)) else (some false)) else (some false)) = some r := h
  clear h
  by_cases c4 : a0 ≥ 0
  · rw [if_pos c4] at H
    have c4b0 : decide (0 ≤ a0) = true := decide_eq_true c4
    clear c4
    by_cases c5 : a1 ≥ 0
    · rw [if_pos c5] at H
      have c5b0 : decide (0 ≤ a1) = true := decide_eq_true c5
      clear c5
      by_cases c6 : a1 ≤ a2
      · rw [if_pos c6] at H
        have c6b0 : decide (a1 ≤ a2) = true := decide_eq_true c6
        clear c6
        obtain rfl := Option.some.inj H
        go_enter Try.func26, Try.ntmps26
        go_wp2
        go_ret
        exact ⟨by first | rfl | (simp; done) | (simp [*]; done), by repeat (first | exact Drawn0.refl _ | apply Drawn0.step)⟩
      · rw [if_neg c6] at H
        have c6b0 : decide (a1 ≤ a2) = false := decide_eq_false c6
        clear c6
        obtain rfl := Option.some.inj H
        go_enter Try.func26, Try.ntmps26
        go_wp2
        go_ret
        exact ⟨by first | rfl | (simp; done) | (simp [*]; done), by repeat (first | exact Drawn0.refl _ | apply Drawn0.step)⟩
    · rw [if_neg c5] at H
      have c5b0 : decide (0 ≤ a1) = false := decide_eq_false c5
      clear c5
      obtain rfl := Option.some.inj H
      go_enter Try.func26, Try.ntmps26
      go_wp2
      go_ret
      exact ⟨by first | rfl | (simp; done) | (simp [*]; done), by repeat (first | exact Drawn0.refl _ | apply Drawn0.step)⟩
  · rw [if_neg c4] at H
    have c4b0 : decide (0 ≤ a0) = false := decide_eq_false c4
    clear c4
    obtain rfl := Option.some.inj H
    go_enter Try.func26, Try.ntmps26
    go_wp2
    go_ret
    exact ⟨by first | rfl | (simp; done) | (simp [*]; done), by repeat (first | exact Drawn0.refl _ | apply Drawn0.step)⟩

end Go.Proofs.Ytoanpgeijokgpaa.PSourceRoads
